/- Words for loops that look for something. No condition. -/
import Derived.Test.YtjleanfcjipofaaEngX
namespace Go.Proofs.Ytjleanfcjipofaa.Eng
open Go Go.RowKit Go.Proofs
/-- Is there one from i on, below n? -/
def anyN (P : Nat → Bool) (n i : Nat) : Bool := (List.range' i (n - i)).any P
theorem anyN_step {P : Nat → Bool} {n i : Nat} (h : i < n) : anyN P n i = (P i || anyN P n (i + 1)) := by
  unfold anyN
  rw [show n - i = (n - (i + 1)) + 1 by omega, List.range'_succ, List.any_cons]
@[simp] theorem anyN_end {P : Nat → Bool} {n : Nat} : anyN P n n = false := by simp [anyN]
theorem anyN_iff {P : Nat → Bool} {n i : Nat} : anyN P n i = true ↔ ∃ j, i ≤ j ∧ j < n ∧ P j = true := by
  unfold anyN
  rw [List.any_eq_true]
  constructor
  · rintro ⟨j, hj, hp⟩
    rw [List.mem_range'_1] at hj
    exact ⟨j, hj.1, by omega, hp⟩
  · rintro ⟨j, h1, h2, hp⟩
    exact ⟨j, List.mem_range'_1.2 ⟨h1, by omega⟩, hp⟩
/-- The i-th of a list, if there is one. -/
def onAt {α : Type} (l : List α) (i : Nat) (P : α → Bool) : Bool := match l[i]? with
  | some x => P x
  | none => false
theorem onAt_lt {α : Type} {l : List α} {i : Nat} {P : α → Bool} (h : i < l.length) : onAt l i P = P l[i] := by
  unfold onAt; rw [List.getElem?_eq_getElem h]
theorem onAt_some {α : Type} {l : List α} {i : Nat} {P : α → Bool} (h : onAt l i P = true) : ∃ x, l[i]? = some x ∧ P x = true := by
  unfold onAt at h
  split at h
  · rename_i x e; exact ⟨x, e, h⟩
  · cases h
theorem wrap_succ {i n : Nat} (h : i < n) (hn : n ≤ 9223372036854775807) : IntKind.i64.wrap ((i : Int) + 1) = ((i + 1 : Nat) : Int) := wrap_id (by omega) (by omega)
end Go.Proofs.Ytjleanfcjipofaa.Eng
