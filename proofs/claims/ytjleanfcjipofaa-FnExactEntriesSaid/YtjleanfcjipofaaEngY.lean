/- Words for loops that look for something. No condition. -/
import Derived.Test.YtjleanfcjipofaaEngX
set_option linter.all false
namespace Go.Proofs.Ytjleanfcjipofaa.Eng
open Go Go.RowKit Go.Proofs
/-- Is there one from i on, below n? -/
def anyN (P : Nat → Bool) (n i : Nat) : Bool := (List.range' i (n - i)).any P
theorem anyN_step {P : Nat → Bool} {n i : Nat} (h : i < n) : anyN P n i = (P i || anyN P n (i + 1)) := by
  unfold anyN
  rw [show n - i = (n - (i + 1)) + 1 by omega, List.range'_succ, List.any_cons]
@[simp] theorem anyN_end {P : Nat → Bool} {n : Nat} : anyN P n n = false := by simp [anyN]
theorem anyN_iff {P : Nat → Bool} {n i : Nat} : anyN P n i = true ↔ ∃ j, i ≤ j ∧ j < n ∧ P j = true := by
  unfold anyN
  rw [List.any_eq_true]
  constructor
  · rintro ⟨j, hj, hp⟩
    rw [List.mem_range'_1] at hj
    exact ⟨j, hj.1, by omega, hp⟩
  · rintro ⟨j, h1, h2, hp⟩
    exact ⟨j, List.mem_range'_1.2 ⟨h1, by omega⟩, hp⟩
/-- The i-th of a list, if there is one. -/
def onAt {α : Type} (l : List α) (i : Nat) (P : α → Bool) : Bool := match l[i]? with
  | some x => P x
  | none => false
theorem onAt_lt {α : Type} {l : List α} {i : Nat} {P : α → Bool} (h : i < l.length) : onAt l i P = P l[i] := by
  unfold onAt; rw [List.getElem?_eq_getElem h]
theorem onAt_some {α : Type} {l : List α} {i : Nat} {P : α → Bool} (h : onAt l i P = true) : ∃ x, l[i]? = some x ∧ P x = true := by
  unfold onAt at h
  split at h
  · rename_i x e; exact ⟨x, e, h⟩
  · cases h
theorem wrap_succ {i n : Nat} (h : i < n) (hn : n ≤ 9223372036854775807) : IntKind.i64.wrap ((i : Int) + 1) = ((i + 1 : Nat) : Int) := wrap_id (by omega) (by omega)
/-- The first from i on, below n. -/
def firstN (P : Nat → Bool) (n i : Nat) : Option Nat := (List.range' i (n - i)).find? P
theorem firstN_step {P : Nat → Bool} {n i : Nat} (h : i < n) : firstN P n i = if P i = true then some i else firstN P n (i + 1) := by
  unfold firstN
  rw [show n - i = (n - (i + 1)) + 1 by omega, List.range'_succ, List.find?_cons]
  cases P i <;> rfl
@[simp] theorem firstN_end {P : Nat → Bool} {n : Nat} : firstN P n n = none := by simp [firstN]
theorem firstN_some {P : Nat → Bool} {n i j : Nat} (h : firstN P n i = some j) : i ≤ j ∧ j < n ∧ P j = true := by
  unfold firstN at h
  have h1 := List.find?_some h
  have h2 := List.mem_range'_1.1 (List.mem_of_find?_eq_some h)
  exact ⟨h2.1, by omega, h1⟩
theorem firstN_none {P : Nat → Bool} {n i : Nat} (h : firstN P n i = none) : ∀ j, i ≤ j → j < n → P j = false := by
  intro j h1 h2
  unfold firstN at h
  rw [List.find?_eq_none] at h
  have := h j (List.mem_range'_1.2 ⟨h1, by omega⟩)
  simpa using this
/-- The first index as an int, -1 when there is none. -/
def ixI (o : Option Nat) : Int := match o with
  | some i => i
  | none => -1
@[simp] theorem ixI_some (i : Nat) : ixI (some i) = i := rfl
@[simp] theorem ixI_none : ixI none = -1 := rfl
end Go.Proofs.Ytjleanfcjipofaa.Eng
