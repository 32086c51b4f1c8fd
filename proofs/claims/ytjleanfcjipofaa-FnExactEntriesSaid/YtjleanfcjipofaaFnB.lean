/- Entries, as the program and the reference have it. Condition: a row of at most 1048576 parts. -/
import Derived.Test.YtjleanfcjipofaaExA
import Derived.Test.YtjleanfcjipofaaEngY
set_option linter.all false
namespace Go.Proofs.Ytjleanfcjipofaa.Eng
open Go Go.RowKit Go.Proofs
def sa (a b : TApplied) : Bool := decide (a.Index = b.Index) && !decide (a.Entry = b.Entry)
theorem sa_comm (a b : TApplied) : sa a b = sa b a := by
  rw [Bool.eq_iff_iff]
  simp only [sa, Bool.and_eq_true, Bool.not_eq_true', decide_eq_true_eq, decide_eq_false_iff_not]
  constructor <;> rintro ⟨h1, h2⟩ <;> exact ⟨h1.symm, fun e => h2 e.symm⟩
theorem sa_self (a : TApplied) : sa a a = false := by simp [sa]
theorem entry_eq (a b : TEntry) : (decide (a.Term = b.Term) && (decide (a.Kind = b.Kind) && decide (a.Data = b.Data))) = decide (a = b) := by
  rw [Bool.eq_iff_iff]
  simp only [Bool.and_eq_true, decide_eq_true_eq]
  constructor
  · rintro ⟨h1, h2, h3⟩; exact TEntry.ext h1 h2 h3
  · rintro rfl; exact ⟨rfl, rfl, rfl⟩
theorem toList_dec (a b : ByteArray) : (a.toList == b.toList) = decide (a = b) := by
  rw [Bool.eq_iff_iff]; simp [toList_inj]
theorem int_dec (a b : Int) : (a == b) = decide (a = b) := by
  rw [Bool.eq_iff_iff]; simp
@[simp] theorem cellsEq_entry (a b : TEntry) : cellsEq [0, 0, 2] [.lit (.int .i64 a.Term), .lit (.int .i64 a.Kind), .lit (.string a.Data)] [.lit (.int .i64 b.Term), .lit (.int .i64 b.Kind), .lit (.string b.Data)] = some (decide (a = b)) := by
  simp only [cellsEq, if_true, Option.map_some, int_dec, toList_dec, Bool.and_true, ← entry_eq]
def R26 (l : List TApplied) (i : Nat) (b : Bool) : Ex × St := if b = true then (.ret, ⟨[.bot, .bot, .lit (.bool false), .bot, .bot, .bot, .bot, .bot, .bot, .bot, .bot, .bot, .bot, .bot, .bot, .bot, .bot, .bot, .bot, .bot, .bot, .bot, .bot, .bot, .bot, .bot, .bot, .bot, .bot, .bot, .bot, .bot, .bot, .bot, .bot, .bot, .bot, .bot, .bot, .bot], []⟩) else (.exit 2, ⟨[.rd (rows true l) l.length false false, .bot, .bot, .lit (.int .i64 i), .bot, .bot, .bot, .bot, .bot, .bot, .bot, .bot, .bot, .bot, .bot, .bot, .bot, .bot, .bot, .bot, .bot, .bot, .bot, .bot, .bot, .bot, .bot, .bot, .bot, .bot, .bot, .bot, .bot, .bot, .bot, .bot, .bot, .bot, .bot, .bot], []⟩)
set_option maxHeartbeats 4000000 in
theorem l_spec_SA_in (d n : Nat) (l : List TApplied) (i : Nat) (hi : i < l.length) (hl : l.length ≤ 1048576) (k : Nat) (hk : i < k) (s : St)
    (hs : shrink (mk 26 5).1 0 s = ⟨[.rd (rows true l) l.length false false, .bot, .bot, .lit (.int .i64 i), .lit (.int .i64 0), .bot, .bot, .bot, .bot, .bot, .bot, .bot, .bot, .bot, .bot, .bot, .bot, .bot, .bot, .bot, .bot, .bot, .bot, .bot, .bot, .bot, .bot, .bot, .bot, .bot, .bot, .bot, .bot, .bot, .bot, .bot, .bot, .bot, .bot, .bot], []⟩) :
    xloop (mk 26 5) 0 (xcode Try.prog (E d) (mk 26) (drawn Try.prog (E d) (qv md)) n (lp (undF [] Try.f26) 1)) k s = some ((fun k => R26 l i (anyN (fun j => onAt l i fun a => onAt l j fun b => sa a b) i k)) 0) := by
  refine loop_rule (σ := Nat) (fun k => ⟨[.rd (rows true l) l.length false false, .bot, .bot, .lit (.int .i64 i), .lit (.int .i64 k), .bot, .bot, .bot, .bot, .bot, .bot, .bot, .bot, .bot, .bot, .bot, .bot, .bot, .bot, .bot, .bot, .bot, .bot, .bot, .bot, .bot, .bot, .bot, .bot, .bot, .bot, .bot, .bot, .bot, .bot, .bot, .bot, .bot, .bot, .bot], []⟩)
    (fun k => R26 l i (anyN (fun j => onAt l i fun a => onAt l j fun b => sa a b) i k)) (fun k => i - k) (fun k => k ≤ i) ?_ k 0 s (by simp) (by simpa using hk) (by simpa using hs)
  intro k hk
  rcases Nat.lt_or_ge k i with h | h
  · have hw := wrap_succ h (by omega)
    have hkl : k < l.length := by omega
    have hne := ne_nil_of_lt hi
    have hri := rowAt_lt true l i hi
    have hrk := rowAt_lt true l k hkl
    rw [anyN_step h]
    simp only [onAt_lt hi, onAt_lt hkl]
    by_cases c1 : l[i].Index = l[k].Index
    · by_cases c2 : l[i].Entry = l[k].Entry
      · left
        exact ⟨k + 1, by simp [lp, loopsOf, Try.f26, mk, undF, undraw, h, hi, hkl, hne, hri, hrk, hw, binP, c1, c2], by omega, by omega, by simp [sa, c2]⟩
      · right
        simp [lp, loopsOf, Try.f26, mk, undF, undraw, h, hi, hkl, hne, hri, hrk, hw, binP, c1, c2, R26, sa]
    · left
      exact ⟨k + 1, by simp [lp, loopsOf, Try.f26, mk, undF, undraw, h, hi, hkl, hne, hri, hrk, hw, binP, c1], by omega, by omega, by simp [sa, c1]⟩
  · right
    have e : k = i := by omega
    subst e
    simp [lp, loopsOf, Try.f26, mk, undF, undraw, R26]
def saS (l : List TApplied) (i : Nat) : Bool := anyN (fun j => onAt l i fun a => onAt l j fun b => sa a b) i 0
def R26o (l : List TApplied) (b : Bool) : Ex × St := if b = true then (.ret, ⟨[.bot, .bot, .lit (.bool false), .bot, .bot, .bot, .bot, .bot, .bot, .bot, .bot, .bot, .bot, .bot, .bot, .bot, .bot, .bot, .bot, .bot, .bot, .bot, .bot, .bot, .bot, .bot, .bot, .bot, .bot, .bot, .bot, .bot, .bot, .bot, .bot, .bot, .bot, .bot, .bot, .bot], []⟩) else (.exit 0, ⟨[.bot, .bot, .bot, .bot, .bot, .bot, .bot, .bot, .bot, .bot, .bot, .bot, .bot, .bot, .bot, .bot, .bot, .bot, .bot, .bot, .bot, .bot, .bot, .bot, .bot, .bot, .bot, .bot, .bot, .bot, .bot, .bot, .bot, .bot, .bot, .bot, .bot, .bot, .bot, .bot], []⟩)
set_option maxHeartbeats 4000000 in
theorem l_spec_SA (d n : Nat) (l : List TApplied) (hl : l.length ≤ 1048576) (hn : 1048576 < n) (k : Nat) (hk : l.length - 0 < k) (s : St)
    (hs : shrink (mk 26 2).1 0 s = ⟨[.rd (rows true l) l.length false false, .bot, .bot, .lit (.int .i64 0), .bot, .bot, .bot, .bot, .bot, .bot, .bot, .bot, .bot, .bot, .bot, .bot, .bot, .bot, .bot, .bot, .bot, .bot, .bot, .bot, .bot, .bot, .bot, .bot, .bot, .bot, .bot, .bot, .bot, .bot, .bot, .bot, .bot, .bot, .bot, .bot], []⟩) :
    xloop (mk 26 2) 0 (xcode Try.prog (E d) (mk 26) (drawn Try.prog (E d) (qv md)) n (lp (undF [] Try.f26) 0)) k s = some ((fun i => R26o l (anyN (saS l) l.length i)) 0) := by
  refine loop_rule (σ := Nat) (fun i => ⟨[.rd (rows true l) l.length false false, .bot, .bot, .lit (.int .i64 i), .bot, .bot, .bot, .bot, .bot, .bot, .bot, .bot, .bot, .bot, .bot, .bot, .bot, .bot, .bot, .bot, .bot, .bot, .bot, .bot, .bot, .bot, .bot, .bot, .bot, .bot, .bot, .bot, .bot, .bot, .bot, .bot, .bot, .bot, .bot, .bot], []⟩)
    (fun i => R26o l (anyN (saS l) l.length i)) (fun i => l.length - i) (fun i => i ≤ l.length) ?_ k 0 s (by simp) (by simpa using hk) (by simpa using hs)
  intro i hi
  rcases Nat.lt_or_ge i l.length with h | h
  · have hw := wrap_succ h (by omega)
    have hin := fun (s : St) => l_spec_SA_in d n l i h hl n (by omega) s
    simp [lp, loopsOf, Try.f26, mk, undF, undraw] at hin
    rw [anyN_step h]
    cases hb : saS l i with
    | true =>
      right
      rw [saS] at hb
      simp [lp, loopsOf, Try.f26, mk, undF, undraw, h, hin, hb, R26, R26o]
    | false =>
      left
      refine ⟨i + 1, ?_, by omega, by omega, by simp⟩
      rw [saS] at hb
      simp [lp, loopsOf, Try.f26, mk, undF, undraw, h, hin, hb, R26, hw]
  · right
    have e : i = l.length := by omega
    subst e
    simp [lp, loopsOf, Try.f26, mk, undF, undraw, R26o]
def sameOk (l : List TApplied) : Bool := !anyN (saS l) l.length 0
set_option maxHeartbeats 2000000 in
@[simp] theorem v_spec_SameApplied (d : Nat) (H : Hp) (l : List TApplied) (n_l : Nat) (hn_l : n_l = l.length) (hl : l.length ≤ 1048576) :
    runK Try.prog md mk d 26 Try.f26 H [.rd (rows true l) n_l false false] = some (.lit (.bool (sameOk l)), H) := by
  subst hn_l
  rw [runK_s]
  rw [und_ok [] (by kernel_rfl)]
  have h := fun (s : St) => l_spec_SA d fuel l hl (by unfold fuel; omega) fuel (by unfold fuel; omega) s
  simp [lp, loopsOf, Try.f26, mk, undF, undraw] at h
  unfold sameOk
  cases hb : anyN (saS l) l.length 0 <;> simp [Try.f26, mk, undF, undraw, h, hb, R26o]
def R28 (l : List TApplied) (i : Nat) (H : Hp) (b : Bool) : Ex × St := if b = true then (.ret, ⟨[.bot, .bot, .lit (.bool false), .bot, .bot, .bot, .bot, .bot, .bot, .bot, .bot, .bot, .bot, .bot, .bot, .bot, .bot, .bot, .bot, .bot, .bot, .bot, .bot, .bot, .bot, .bot, .bot, .bot, .bot, .bot, .bot, .bot, .bot], H⟩) else (.exit 2, ⟨[.rd (rows true l) l.length false false, .bot, .bot, .bot, .bot, .bot, .bot, .rd (rows true l) l.length false false, .lit (.int .i64 l.length), .lit (.int .i64 i), .bot, .bot, .bot, .bot, .bot, .bot, .bot, .bot, .bot, .bot, .bot, .bot, .bot, .bot, .bot, .bot, .bot, .bot, .bot, .bot, .bot, .bot, .bot], H⟩)
set_option maxHeartbeats 4000000 in
theorem l_impl_SA_in (d n : Nat) (l : List TApplied) (i : Nat) (hi : i < l.length) (hl : l.length ≤ 1048576) (k : Nat) (hk : l.length - 0 < k) (s : St)
    (hs : shrink (mk 28 5).1 1 s = ⟨[.rd (rows true l) l.length false false, .bot, .bot, .bot, .ptr 0 0 0, .bot, .bot, .rd (rows true l) l.length false false, .lit (.int .i64 l.length), .lit (.int .i64 i), .bot, .bot, .bot, .rd (rows true l) l.length false false, .lit (.int .i64 l.length), .lit (.int .i64 0), .bot, .bot, .bot, .bot, .bot, .bot, .bot, .bot, .bot, .bot, .bot, .bot, .bot, .bot, .bot, .bot, .bot], [some ⟨64, 0, Enc.cells false l[i]⟩]⟩) :
    xloop (mk 28 5) 1 (xcode Try.prog (E d) (mk 28) (drawn Try.prog (E d) (qv md)) n (lp Try.f28 1)) k s = some ((fun k => R28 l i [some ⟨64, 0, Enc.cells false l[i]⟩] (anyN (fun j => onAt l i fun a => onAt l j fun b => sa a b) l.length k)) 0) := by
  refine loop_rule (σ := Nat) (fun k => ⟨[.rd (rows true l) l.length false false, .bot, .bot, .bot, .ptr 0 0 0, .bot, .bot, .rd (rows true l) l.length false false, .lit (.int .i64 l.length), .lit (.int .i64 i), .bot, .bot, .bot, .rd (rows true l) l.length false false, .lit (.int .i64 l.length), .lit (.int .i64 k), .bot, .bot, .bot, .bot, .bot, .bot, .bot, .bot, .bot, .bot, .bot, .bot, .bot, .bot, .bot, .bot, .bot], [some ⟨64, 0, Enc.cells false l[i]⟩]⟩)
    (fun k => R28 l i [some ⟨64, 0, Enc.cells false l[i]⟩] (anyN (fun j => onAt l i fun a => onAt l j fun b => sa a b) l.length k)) (fun k => l.length - k) (fun k => k ≤ l.length) ?_ k 0 s (by simp) (by simpa using hk) (by simpa using hs)
  intro k hk
  rcases Nat.lt_or_ge k l.length with hkl | h
  · have hw := wrap_succ hkl (by omega)
    have hne := ne_nil_of_lt hi
    have hri := rowAt_lt true l i hi
    have hrk := rowAt_lt true l k hkl
    rw [anyN_step hkl]
    simp only [onAt_lt hi, onAt_lt hkl]
    by_cases c1 : l[i].Index = l[k].Index
    · by_cases c2 : l[i].Entry = l[k].Entry
      · left
        exact ⟨k + 1, by simp [lp, loopsOf, Try.f28, mk, hi, hkl, hne, hri, hrk, hw, binP, c1, c2], by omega, by omega, by simp [sa, c2]⟩
      · right
        simp [lp, loopsOf, Try.f28, mk, hi, hkl, hne, hri, hrk, hw, binP, c1, c2, R28, sa]
    · left
      exact ⟨k + 1, by simp [lp, loopsOf, Try.f28, mk, hi, hkl, hne, hri, hrk, hw, binP, c1], by omega, by omega, by simp [sa, c1]⟩
  · right
    have e : k = l.length := by omega
    subst e
    simp [lp, loopsOf, Try.f28, mk, R28]
def saA (l : List TApplied) (i : Nat) : Bool := anyN (fun j => onAt l i fun a => onAt l j fun b => sa a b) l.length 0
def R28o (l : List TApplied) (b : Bool) : Ex × St := if b = true then (.ret, ⟨[.bot, .bot, .lit (.bool false), .bot, .bot, .bot, .bot, .bot, .bot, .bot, .bot, .bot, .bot, .bot, .bot, .bot, .bot, .bot, .bot, .bot, .bot, .bot, .bot, .bot, .bot, .bot, .bot, .bot, .bot, .bot, .bot, .bot, .bot], []⟩) else (.exit 0, ⟨[.bot, .bot, .bot, .bot, .bot, .bot, .bot, .bot, .bot, .bot, .bot, .bot, .bot, .bot, .bot, .bot, .bot, .bot, .bot, .bot, .bot, .bot, .bot, .bot, .bot, .bot, .bot, .bot, .bot, .bot, .bot, .bot, .bot], []⟩)
set_option maxHeartbeats 4000000 in
theorem l_impl_SA (d n : Nat) (l : List TApplied) (hl : l.length ≤ 1048576) (hn : 1048576 < n) (k : Nat) (hk : l.length - 0 < k) (s : St)
    (hs : shrink (mk 28 2).1 0 s = ⟨[.rd (rows true l) l.length false false, .bot, .bot, .bot, .bot, .bot, .bot, .rd (rows true l) l.length false false, .lit (.int .i64 l.length), .lit (.int .i64 0), .bot, .bot, .bot, .bot, .bot, .bot, .bot, .bot, .bot, .bot, .bot, .bot, .bot, .bot, .bot, .bot, .bot, .bot, .bot, .bot, .bot, .bot, .bot], []⟩) :
    xloop (mk 28 2) 0 (xcode Try.prog (E d) (mk 28) (drawn Try.prog (E d) (qv md)) n (lp Try.f28 0)) k s = some ((fun i => R28o l (anyN (saA l) l.length i)) 0) := by
  refine loop_rule (σ := Nat) (fun i => ⟨[.rd (rows true l) l.length false false, .bot, .bot, .bot, .bot, .bot, .bot, .rd (rows true l) l.length false false, .lit (.int .i64 l.length), .lit (.int .i64 i), .bot, .bot, .bot, .bot, .bot, .bot, .bot, .bot, .bot, .bot, .bot, .bot, .bot, .bot, .bot, .bot, .bot, .bot, .bot, .bot, .bot, .bot, .bot], []⟩)
    (fun i => R28o l (anyN (saA l) l.length i)) (fun i => l.length - i) (fun i => i ≤ l.length) ?_ k 0 s (by simp) (by simpa using hk) (by simpa using hs)
  intro i hi
  rcases Nat.lt_or_ge i l.length with h | h
  · have hw := wrap_succ h (by omega)
    have hne := ne_nil_of_lt h
    have hri := rowAt_lt true l i h
    have hin := fun (s : St) => l_impl_SA_in d n l i h hl n (by omega) s
    simp [lp, loopsOf, Try.f28, mk] at hin
    rw [anyN_step h]
    cases hb : saA l i with
    | true =>
      right
      rw [saA] at hb
      simp [lp, loopsOf, Try.f28, mk, h, hne, hri, hin, hb, R28, R28o]
    | false =>
      left
      refine ⟨i + 1, ?_, by omega, by omega, by simp⟩
      rw [saA] at hb
      simp [lp, loopsOf, Try.f28, mk, h, hne, hri, hin, hb, R28, hw]
  · right
    have e : i = l.length := by omega
    subst e
    simp [lp, loopsOf, Try.f28, mk, R28o]
theorem sa_same (l : List TApplied) : anyN (saA l) l.length 0 = anyN (saS l) l.length 0 := by
  rw [Bool.eq_iff_iff, anyN_iff, anyN_iff]
  constructor
  · rintro ⟨i, _, hi, h⟩
    unfold saA at h
    obtain ⟨k, _, hk, h⟩ := anyN_iff.1 h
    simp only [onAt_lt hi, onAt_lt hk] at h
    rcases Nat.lt_trichotomy k i with e | e | e
    · exact ⟨i, by omega, hi, anyN_iff.2 ⟨k, by omega, e, by simp only [onAt_lt hi, onAt_lt hk]; exact h⟩⟩
    · subst e; rw [sa_self] at h; cases h
    · exact ⟨k, by omega, hk, anyN_iff.2 ⟨i, by omega, e, by simp only [onAt_lt hi, onAt_lt hk]; rw [sa_comm]; exact h⟩⟩
  · rintro ⟨i, _, hi, h⟩
    unfold saS at h
    obtain ⟨k, _, hk, h⟩ := anyN_iff.1 h
    exact ⟨i, by omega, hi, anyN_iff.2 ⟨k, by omega, by omega, h⟩⟩
set_option maxHeartbeats 2000000 in
@[simp] theorem v_impl_SameApplied (d : Nat) (H : Hp) (list : List TApplied) (n_list : Nat) (hn_list : n_list = list.length) (hl : list.length ≤ 1048576) :
    runK Try.prog md mk d 28 Try.f28 H [.rd (rows true list) n_list false false] = some (.lit (.bool (sameOk list)), H) := by
  subst hn_list
  rw [runK_s]
  have h := fun (s : St) => l_impl_SA d fuel list hl (by unfold fuel; omega) fuel (by unfold fuel; omega) s
  simp [lp, loopsOf, Try.f28, mk] at h
  unfold sameOk
  rw [← sa_same]
  cases hb : anyN (saA list) list.length 0 <;> simp [Try.f28, mk, h, hb, R28o]
/-- The entry of an index. -/
def eIx (l : List TApplied) (k : Nat) : Option Nat := firstN (fun j => onAt l j fun x => decide (x.Index = (k : Int) + 1)) l.length 0
def eOf (l : List TApplied) (j : Nat) : TEntry := ((l[j]?).map (·.Entry)).getD ⟨0, 0, ⟨#[]⟩⟩
theorem eOf_lt {l : List TApplied} {j : Nat} (h : j < l.length) : eOf l j = l[j].Entry := by
  unfold eOf; rw [List.getElem?_eq_getElem h]; rfl
def eGo (l : List TApplied) : Nat → List TEntry → List TEntry
  | 0, out => out
  | f + 1, out => match eIx l out.length with
    | some j => eGo l f (out ++ [eOf l j])
    | none => out
/-- The entries of a row of what was applied, from index 1 on. -/
def entL (l : List TApplied) : List TEntry := if sameOk l = true then eGo l (l.length + 1) [] else []
theorem pigeon : ∀ (n : Nat) (l : List TApplied), (∀ k, k < n → ∃ x ∈ l, x.Index = (k : Int) + 1) → n ≤ l.length
  | 0, _, _ => by omega
  | n + 1, l, h => by
    obtain ⟨x, hx, hxi⟩ := h n (by omega)
    have hp : (decide (x.Index = ((n : Int) + 1))) = true := by simp [hxi]
    have h1 := pigeon n (l.eraseP fun x => decide (x.Index = ((n : Int) + 1))) (fun k hk => by
      obtain ⟨y, hy, hyi⟩ := h k (by omega)
      refine ⟨y, (List.mem_eraseP_of_neg (by simp only [hyi, decide_eq_true_eq]; omega)).2 hy, hyi⟩)
    have h2 := List.length_eraseP_of_mem (p := fun x => decide (x.Index = ((n : Int) + 1))) hx hp
    have h3 : 0 < l.length := List.length_pos_of_mem hx
    omega
def eAll (l : List TApplied) (n : Nat) : Prop := ∀ k, k < n → ∃ x ∈ l, x.Index = (k : Int) + 1
theorem eAll_succ {l : List TApplied} {n j : Nat} (h : eAll l n) (hj : eIx l n = some j) : eAll l (n + 1) := by
  intro k hk
  rcases Nat.lt_or_ge k n with h1 | h1
  · exact h k h1
  · have e : k = n := by omega
    subst e
    obtain ⟨_, hjl, hp⟩ := firstN_some hj
    simp only [onAt_lt hjl, decide_eq_true_eq] at hp
    exact ⟨l[j], List.getElem_mem hjl, hp⟩
theorem eGo_len (l : List TApplied) : ∀ (f : Nat) (out : List TEntry), eAll l out.length → (eGo l f out).length ≤ l.length ∧ eAll l (eGo l f out).length
  | 0, out, h => ⟨pigeon _ _ h, h⟩
  | f + 1, out, h => by
    simp only [eGo]
    split
    · rename_i j hj
      have := eAll_succ h hj
      exact eGo_len l f _ (by simpa using this)
    · exact ⟨pigeon _ _ h, h⟩
theorem entL_len (l : List TApplied) : (entL l).length ≤ l.length := by
  unfold entL
  split
  · exact (eGo_len l _ [] (fun k hk => by simp at hk)).1
  · simp
set_option maxHeartbeats 4000000 in
theorem l_IndexFunc (d n : Nat) (l : List TApplied) (g : FuncId) (caps : List PV) (p : TApplied → Bool) (hl : l.length ≤ 1048576) (hb : ∀ n, belowL n caps = true) (hg : ∀ x : TApplied, E d g (.agg (Enc.cells true x) :: caps) [] = some (.lit (.bool (p x)), [])) (k : Nat) (hk : l.length - 0 < k) (s : St)
    (hs : shrink (mk 29 2).1 0 s = ⟨[.rd (rows true l) l.length false false, .fn g caps, .bot, .bot, .bot, .bot, .bot, .lit (.int .i64 l.length), .lit (.int .i64 0), .bot, .bot, .bot, .bot, .bot, .bot, .bot, .bot, .bot, .bot], []⟩) :
    xloop (mk 29 2) 0 (xcode Try.prog (E d) (mk 29) (drawn Try.prog (E d) (qv md)) n (lp Try.f29 0)) k s = some ((fun i => match firstN (fun j => onAt l j p) l.length i with | some i => ((.ret, ⟨[.bot, .bot, .bot, .bot, .lit (.int .i64 i), .bot, .bot, .bot, .bot, .bot, .bot, .bot, .bot, .bot, .bot, .bot, .bot, .bot, .bot], []⟩) : Ex × St) | none => (.exit 0, ⟨[.bot, .bot, .bot, .bot, .bot, .bot, .bot, .bot, .bot, .bot, .bot, .bot, .bot, .bot, .bot, .bot, .bot, .bot, .bot], []⟩)) 0) := by
  refine loop_rule (σ := Nat) (fun i => ⟨[.rd (rows true l) l.length false false, .fn g caps, .bot, .bot, .bot, .bot, .bot, .lit (.int .i64 l.length), .lit (.int .i64 i), .bot, .bot, .bot, .bot, .bot, .bot, .bot, .bot, .bot, .bot], []⟩)
    (fun i => match firstN (fun j => onAt l j p) l.length i with | some i => ((.ret, ⟨[.bot, .bot, .bot, .bot, .lit (.int .i64 i), .bot, .bot, .bot, .bot, .bot, .bot, .bot, .bot, .bot, .bot, .bot, .bot, .bot, .bot], []⟩) : Ex × St) | none => (.exit 0, ⟨[.bot, .bot, .bot, .bot, .bot, .bot, .bot, .bot, .bot, .bot, .bot, .bot, .bot, .bot, .bot, .bot, .bot, .bot, .bot], []⟩)) (fun i => l.length - i) (fun i => i ≤ l.length) ?_ k 0 s (by simp) (by simpa using hk) (by simpa using hs)
  intro i hi
  rcases Nat.lt_or_ge i l.length with h | h
  · have hw := wrap_succ h (by omega)
    have hne := ne_nil_of_lt h
    have hra := rowAt_lt true l i h
    have hgi := hg l[i]
    simp only [cells_TApplied] at hgi
    rw [firstN_step h]
    simp only [onAt_lt h]
    cases hp : p l[i] with
    | true =>
      right
      simp [lp, loopsOf, Try.f29, mk, h, hne, hra, hgi, hp, hb]
    | false =>
      left
      refine ⟨i + 1, ?_, by omega, by omega, by simp⟩
      simp [lp, loopsOf, Try.f29, mk, h, hne, hra, hgi, hp, hb, hw]
  · right
    have e : i = l.length := by omega
    subst e
    simp [lp, loopsOf, Try.f29, mk]
theorem v_IndexFunc (d : Nat) (H : Hp) (l : List TApplied) (n : Nat) (hn : n = l.length) (g : FuncId) (caps : List PV) (p : TApplied → Bool) (hl : l.length ≤ 1048576)
    (hb : ∀ n, belowL n caps = true) (hg : ∀ x : TApplied, E d g (.agg (Enc.cells true x) :: caps) [] = some (.lit (.bool (p x)), [])) :
    runK Try.prog md mk d 29 Try.f29 H [.rd (rows true l) n false false, .fn g caps] = some (.lit (.int .i64 (ixI (firstN (fun j => onAt l j p) l.length 0))), H) := by
  subst hn
  rw [runK_s]
  have h := fun (s : St) => l_IndexFunc d fuel l g caps p hl hb hg fuel (by unfold fuel; omega) s
  simp [lp, loopsOf, Try.f29, mk] at h
  cases hf : firstN (fun j => onAt l j p) l.length 0 <;> simp [Try.f29, mk, h, hf]
theorem v_impl_Entries_1 (d : Nat) (H : Hp) (x : TApplied) (L : List TEntry) (n : Nat) (hn : n = L.length) (fr : Bool) (hL : L.length ≤ 1048576) :
    runK Try.prog md mk d 30 Try.f30 H [.agg (Enc.cells true x), .rp [.rd (rows true L) n false fr] 0 false] = some (.lit (.bool (decide (x.Index = (L.length : Int) + 1))), H) := by
  subst hn
  rw [runK_s]
  have hw : IntKind.i64.wrap ((L.length : Int) + 1) = (L.length : Int) + 1 := wrap_id (by omega) (by omega)
  simp [Try.f30, mk, hw, int_dec]
/-- An entry that comes behind. -/
theorem v_impl_IndexFunc (d : Nat) (H : Hp) (l : List TApplied) (n : Nat) (hn : n = l.length) (L : List TEntry) (k : Nat) (hk : k = L.length) (fr : Bool) (hl : l.length ≤ 1048576) (hL : L.length ≤ 1048576) :
    runK Try.prog md mk (d + 1) 29 Try.f29 H [.rd (rows true l) n false false, .fn 30 [.rp [.rd (rows true L) k false fr] 0 false]] = some (.lit (.int .i64 (ixI (eIx l L.length))), H) := by
  subst hk
  refine v_IndexFunc (d + 1) H l n hn _ _ (fun x => decide (x.Index = (L.length : Int) + 1)) hl (fun n => by simp) (fun x => ?_)
  have := v_impl_Entries_1 d [] x L L.length rfl false hL
  simp only [cells_TApplied] at this
  simp [this]
def eBox (L : List TEntry) : Hp := some ⟨31, 0, [oS 1 [] L]⟩ :: oB 62 [] L
set_option maxHeartbeats 4000000 in
theorem l_impl_Entries (d n : Nat) (l : List TApplied) (hl : l.length ≤ 1048576) (h0 : sameOk l = true) (k : Nat) (hk : l.length + 1 - ([] : List TEntry).length < k) (s : St)
    (hs : shrink (mk 14 4).1 1 s = ⟨[.rd (rows true l) l.length false false, .bot, .bot, .bot, .ptr 0 0 0, .bot, .bot, .bot, .bot, .bot, .bot, .bot, .bot, .bot, .bot, .bot, .bot, .bot, .bot, .bot, .bot, .bot, .bot], eBox ([] : List TEntry)⟩) :
    xloop (mk 14 4) 1 (xcode Try.prog (E (d + 2)) (mk 14) (drawn Try.prog (E (d + 2)) (qv md)) n (lp (undF [] Try.f14) 0)) k s = some ((fun L => ((.ret, ⟨[.bot, .bot, oS 1 [] (eGo l (l.length + 1 - L.length) L), .lit (.bool true), .bot, .bot, .bot, .bot, .bot, .bot, .bot, .bot, .bot, .bot, .bot, .bot, .bot, .bot, .bot, .bot, .bot, .bot, .bot], eBox (eGo l (l.length + 1 - L.length) L)⟩) : Ex × St)) ([] : List TEntry)) := by
  refine loop_rule (σ := List TEntry) (fun L => ⟨[.rd (rows true l) l.length false false, .bot, .bot, .bot, .ptr 0 0 0, .bot, .bot, .bot, .bot, .bot, .bot, .bot, .bot, .bot, .bot, .bot, .bot, .bot, .bot, .bot, .bot, .bot, .bot], eBox L⟩)
    (fun L => ((.ret, ⟨[.bot, .bot, oS 1 [] (eGo l (l.length + 1 - L.length) L), .lit (.bool true), .bot, .bot, .bot, .bot, .bot, .bot, .bot, .bot, .bot, .bot, .bot, .bot, .bot, .bot, .bot, .bot, .bot, .bot, .bot], eBox (eGo l (l.length + 1 - L.length) L)⟩) : Ex × St)) (fun L => l.length + 1 - L.length) (fun L => eAll l L.length) ?_ k ([] : List TEntry) s (fun k hk => by simp at hk) (by simpa using hk) (by simpa using hs)
  intro L hI
  have hL := pigeon _ _ hI
  cases hf : eIx l L.length with
  | none =>
    right
    have e : eGo l (l.length + 1 - L.length) L = L := by
      rw [show l.length + 1 - L.length = (l.length - L.length) + 1 by omega, eGo, hf]
    rw [e]
    have hi := fun d H n hn fr => v_impl_IndexFunc d H l n hn L L.length rfl fr hl (by omega)
    by_cases h0 : L.length = 0
    · have : L = [] := List.eq_nil_of_length_eq_zero h0
      subst this
      simp at hf hi
      simp [lp, loopsOf, Try.f14, mk, undF, undraw, eBox, oS, oB, hi, hf]
    · simp [lp, loopsOf, Try.f14, mk, undF, undraw, eBox, oS, oB, h0, hi, hf]
  | some j =>
    left
    obtain ⟨_, hj, _⟩ := firstN_some hf
    have hI' := eAll_succ hI hf
    have hL' := pigeon _ _ hI'
    have hne := ne_nil_of_lt hj
    have hra := rowAt_lt true l j hj
    have hi := fun d H n hn fr => v_impl_IndexFunc d H l n hn L L.length rfl fr hl (by omega)
    have hnn : ¬ ((j : Int) < 0) := by omega
    have hroom : (L.length + 1) * 32 ≤ 140737488355328 := by omega
    refine ⟨L ++ [eOf l j], ?_, by simp; omega, by simpa using hI', ?_⟩
    · rw [eOf_lt hj]
      by_cases h0 : L.length = 0
      · have : L = [] := List.eq_nil_of_length_eq_zero h0
        subst this
        simp at hf hi
        simp [lp, loopsOf, Try.f14, mk, undF, undraw, eBox, oS, oB, hi, hf, hj, hne, hra, hnn]
      · simp [lp, loopsOf, Try.f14, mk, undF, undraw, eBox, oS, oB, h0, hi, hf, hj, hne, hra, hnn, hroom, rows_append]
    · rw [show l.length + 1 - L.length = (l.length + 1 - (L ++ [eOf l j]).length) + 1 by simp; omega, eGo, hf]
def entOf (l : List TApplied) : List TEntry × Bool := (entL l, sameOk l)
theorem eGo_len' (l : List TApplied) : (eGo l (l.length + 1) []).length ≤ l.length := (eGo_len l _ [] (fun k hk => by simp at hk)).1
set_option maxHeartbeats 2000000 in
@[simp] theorem v_impl_Entries (d : Nat) (H : Hp) (list : List TApplied) (n_list : Nat) (hn_list : n_list = list.length) (hl : list.length ≤ 1048576) :
    runO Try.prog md mk (d + 2) 14 Try.f14 H [.rd (rows true list) n_list false false] = some (.tup [.sl H.length 0 0 (entL list).length, .lit (.bool (sameOk list))], H ++ [some ⟨62, 0, rows true (entL list)⟩]) := by
  subst hn_list
  rw [runO_s]
  rw [und_ok [] (by kernel_rfl)]
  cases hs : sameOk list with
  | false =>
    simp [Try.f14, mk, undF, undraw, hl, hs, entL, ownR, canR, canVs, canV, canC]
  | true =>
    have h := fun (s : St) => l_impl_Entries d fuel list hl hs fuel (by unfold fuel; simp; omega) s
    simp [lp, loopsOf, Try.f14, mk, undF, undraw, eBox, oS, oB] at h
    have hlen := eGo_len' list
    by_cases h0 : (eGo list (list.length + 1) []).length = 0
    · have e0 := List.eq_nil_of_length_eq_zero h0
      simp [Try.f14, mk, undF, undraw, hl, hs, entL, h, e0, ownR, canR, canVs, canV, canC]
    · have hn : ¬ eGo list (list.length + 1) [] = [] := fun e => h0 (by rw [e]; rfl)
      simp [Try.f14, mk, undF, undraw, hl, hs, entL, h, hn, ownR, canR, canVs, canV, canC]
def sBox (L : List TEntry) : Hp := oB 62 [] L
def eO (L : List TEntry) (o : Option Nat) (l : List TApplied) : List TEntry := match o with | some j => L ++ [eOf l j] | none => L
set_option maxHeartbeats 4000000 in
theorem l_spec_Entries_in (d n : Nat) (l : List TApplied) (L : List TEntry) (hl : l.length ≤ 1048576) (hL : L.length ≤ 1048576) (k : Nat) (hk : l.length + 1 < k) (s : St)
    (hs : shrink (mk 12 8).1 (sBox L).length s = ⟨[.rd (rows true l) l.length false false, .bot, .bot, .bot, oS 0 [] (eO L ((0, none) : Nat × Option Nat).2 l), .lit (.bool ((0, none) : Nat × Option Nat).2.isSome), .lit (.int .i64 ((0, none) : Nat × Option Nat).1), .bot, .bot, .bot, .bot, .bot, .bot, .bot, .bot, .bot, .bot, .bot, .bot, .bot, .bot, .bot, .bot, .bot, .bot, .bot, .bot, .bot, .bot, .bot, .bot, .bot, .bot, .bot, .bot, .bot, .bot, .bot, .bot, .bot, .bot], sBox (eO L ((0, none) : Nat × Option Nat).2 l)⟩) :
    xloop (mk 12 8) (sBox L).length (xcode Try.prog (E (d + 1)) (mk 12) (drawn Try.prog (E (d + 1)) (qv md)) n (lp Try.f12 1)) k s = some ((fun x => (fun o => ((.exit 2, ⟨[.rd (rows true l) l.length false false, .bot, .bot, .bot, oS 0 [] (eO L o l), .lit (.bool o.isSome), .bot, .bot, .bot, .bot, .bot, .bot, .bot, .bot, .bot, .bot, .bot, .bot, .bot, .bot, .bot, .bot, .bot, .bot, .bot, .bot, .bot, .bot, .bot, .bot, .bot, .bot, .bot, .bot, .bot, .bot, .bot, .bot, .bot, .bot, .bot], sBox (eO L o l)⟩) : Ex × St)) (match x.2 with | some j => some j | none => firstN (fun j => onAt l j fun y => decide (y.Index = (L.length : Int) + 1)) l.length x.1)) ((0, none) : Nat × Option Nat)) := by
  refine loop_rule (σ := Nat × Option Nat) (fun x => ⟨[.rd (rows true l) l.length false false, .bot, .bot, .bot, oS 0 [] (eO L x.2 l), .lit (.bool x.2.isSome), .lit (.int .i64 x.1), .bot, .bot, .bot, .bot, .bot, .bot, .bot, .bot, .bot, .bot, .bot, .bot, .bot, .bot, .bot, .bot, .bot, .bot, .bot, .bot, .bot, .bot, .bot, .bot, .bot, .bot, .bot, .bot, .bot, .bot, .bot, .bot, .bot, .bot], sBox (eO L x.2 l)⟩)
    (fun x => (fun o => ((.exit 2, ⟨[.rd (rows true l) l.length false false, .bot, .bot, .bot, oS 0 [] (eO L o l), .lit (.bool o.isSome), .bot, .bot, .bot, .bot, .bot, .bot, .bot, .bot, .bot, .bot, .bot, .bot, .bot, .bot, .bot, .bot, .bot, .bot, .bot, .bot, .bot, .bot, .bot, .bot, .bot, .bot, .bot, .bot, .bot, .bot, .bot, .bot, .bot, .bot, .bot], sBox (eO L o l)⟩) : Ex × St)) (match x.2 with | some j => some j | none => firstN (fun j => onAt l j fun y => decide (y.Index = (L.length : Int) + 1)) l.length x.1)) (fun x => l.length + 1 - x.1) (fun x => x.1 ≤ l.length ∧ ∀ j, x.2 = some j → j < l.length) ?_ k ((0, none) : Nat × Option Nat) s (⟨by simp, by simp⟩) (by simpa using hk) (by simpa using hs)
  rintro ⟨i, o⟩ ⟨hi, ho⟩
  simp only at hi ho
  have hne : ¬ l = [] ∨ l = [] := by exact (Classical.em _).symm
  cases o with
  | some j =>
    right
    have hj := ho j rfl
    by_cases c : i < l.length <;> by_cases h0 : L = [] <;> simp [lp, loopsOf, Try.f12, mk, sBox, oS, oB, eO, c, h0]
  | none =>
    rcases Nat.lt_or_ge i l.length with h | h
    · left
      have hw := wrap_succ h (by omega)
      have hne := ne_nil_of_lt h
      have hra := rowAt_lt true l i h
      have hwl : IntKind.i64.wrap ((L.length : Int) + 1) = (L.length : Int) + 1 := wrap_id (by omega) (by omega)
      have hroom : (L.length + 1) * 32 ≤ 140737488355328 := by omega
      rw [firstN_step h]
      simp only [onAt_lt h]
      by_cases c : l[i].Index = (L.length : Int) + 1
      · refine ⟨(i + 1, some i), ?_, by simp only; omega, ⟨by simp only; omega, fun j e => by injection e with e; omega⟩, by simp [c]⟩
        by_cases h0 : L = []
        · subst h0
          simp at c hwl
          simp [lp, loopsOf, Try.f12, mk, sBox, oS, oB, eO, eOf_lt h, h, hw, hne, hra, hwl, c]
        · simp [lp, loopsOf, Try.f12, mk, sBox, oS, oB, eO, eOf_lt h, h, hw, hne, hra, hwl, c, h0, hroom, rows_append]
      · refine ⟨(i + 1, none), ?_, by simp only; omega, ⟨by simp only; omega, fun j e => by cases e⟩, by simp [c]⟩
        by_cases h0 : L = []
        · subst h0
          simp at c hwl
          simp [lp, loopsOf, Try.f12, mk, sBox, oS, oB, eO, h, hw, hne, hra, hwl, c]
        · simp [lp, loopsOf, Try.f12, mk, sBox, oS, oB, eO, h, hw, hne, hra, hwl, c, h0]
    · right
      have e : i = l.length := by omega
      subst e
      by_cases h0 : L = [] <;> simp [lp, loopsOf, Try.f12, mk, sBox, oS, oB, eO, h0]
set_option maxHeartbeats 4000000 in
theorem l_spec_Entries (d n : Nat) (l : List TApplied) (hl : l.length ≤ 1048576) (hn : 1048577 < n) (k : Nat) (hk : l.length + 2 < k) (s : St)
    (hs : shrink (mk 12 5).1 0 s = ⟨[.rd (rows true l) l.length false false, .bot, .bot, .bot, oS 0 [] (([], true) : List TEntry × Bool).1, .lit (.bool (([], true) : List TEntry × Bool).2), .bot, .bot, .bot, .bot, .bot, .bot, .bot, .bot, .bot, .bot, .bot, .bot, .bot, .bot, .bot, .bot, .bot, .bot, .bot, .bot, .bot, .bot, .bot, .bot, .bot, .bot, .bot, .bot, .bot, .bot, .bot, .bot, .bot, .bot, .bot], sBox (([], true) : List TEntry × Bool).1⟩) :
    xloop (mk 12 5) 0 (xcode Try.prog (E (d + 1)) (mk 12) (drawn Try.prog (E (d + 1)) (qv md)) n (lp Try.f12 0)) k s = some ((fun x => (fun L => ((.exit 0, ⟨[.bot, .bot, .bot, .bot, oS 0 [] L, .bot, .bot, .bot, .bot, .bot, .bot, .bot, .bot, .bot, .bot, .bot, .bot, .bot, .bot, .bot, .bot, .bot, .bot, .bot, .bot, .bot, .bot, .bot, .bot, .bot, .bot, .bot, .bot, .bot, .bot, .bot, .bot, .bot, .bot, .bot, .bot], sBox L⟩) : Ex × St)) (if x.2 = true then eGo l (l.length + 1 - x.1.length) x.1 else x.1)) (([], true) : List TEntry × Bool)) := by
  refine loop_rule (σ := List TEntry × Bool) (fun x => ⟨[.rd (rows true l) l.length false false, .bot, .bot, .bot, oS 0 [] x.1, .lit (.bool x.2), .bot, .bot, .bot, .bot, .bot, .bot, .bot, .bot, .bot, .bot, .bot, .bot, .bot, .bot, .bot, .bot, .bot, .bot, .bot, .bot, .bot, .bot, .bot, .bot, .bot, .bot, .bot, .bot, .bot, .bot, .bot, .bot, .bot, .bot, .bot], sBox x.1⟩)
    (fun x => (fun L => ((.exit 0, ⟨[.bot, .bot, .bot, .bot, oS 0 [] L, .bot, .bot, .bot, .bot, .bot, .bot, .bot, .bot, .bot, .bot, .bot, .bot, .bot, .bot, .bot, .bot, .bot, .bot, .bot, .bot, .bot, .bot, .bot, .bot, .bot, .bot, .bot, .bot, .bot, .bot, .bot, .bot, .bot, .bot, .bot, .bot], sBox L⟩) : Ex × St)) (if x.2 = true then eGo l (l.length + 1 - x.1.length) x.1 else x.1)) (fun x => (if x.2 = true then l.length + 2 - x.1.length else 0)) (fun x => eAll l x.1.length) ?_ k (([], true) : List TEntry × Bool) s (fun k hk => by simp at hk) (by simpa using hk) (by simpa using hs)
  rintro ⟨L, b⟩ hI
  simp only at hI
  have hL := pigeon _ _ hI
  cases b with
  | false =>
    right
    by_cases h0 : L = [] <;> simp [lp, loopsOf, Try.f12, mk, sBox, oS, oB, h0]
  | true =>
    left
    have hin := fun s => l_spec_Entries_in d n l L hl (by omega) n (by omega) s
    have hf : (firstN (fun j => onAt l j fun y => decide (y.Index = (L.length : Int) + 1)) l.length 0) = eIx l L.length := rfl
    rw [show l.length + 1 - L.length = (l.length - L.length) + 1 by omega, eGo]
    simp only [hf] at hin
    cases hx : eIx l L.length with
    | none =>
      refine ⟨(L, false), ?_, by simp; omega, hI, by simp⟩
      by_cases h0 : L = []
      · subst h0
        simp [lp, loopsOf, Try.f12, mk, sBox, oS, oB, eO, hx] at hin
        simp at hx
        simp [lp, loopsOf, Try.f12, mk, sBox, oS, oB, eO, hin, hx]
      · simp [lp, loopsOf, Try.f12, mk, sBox, oS, oB, eO, hx, h0] at hin
        simp [lp, loopsOf, Try.f12, mk, sBox, oS, oB, eO, hin, h0]
    | some j =>
      have hI' := eAll_succ hI hx
      have hL' := pigeon _ _ hI'
      refine ⟨(L ++ [eOf l j], true), ?_, by simp; omega, by simpa using hI', by simp⟩
      by_cases h0 : L = []
      · subst h0
        simp [lp, loopsOf, Try.f12, mk, sBox, oS, oB, eO, hx] at hin
        simp at hx
        simp [lp, loopsOf, Try.f12, mk, sBox, oS, oB, eO, hin, hx]
      · simp [lp, loopsOf, Try.f12, mk, sBox, oS, oB, eO, hx, h0] at hin
        simp [lp, loopsOf, Try.f12, mk, sBox, oS, oB, eO, hin, h0]
set_option maxHeartbeats 2000000 in
@[simp] theorem v_spec_Entries (d : Nat) (H : Hp) (list : List TApplied) (n_list : Nat) (hn_list : n_list = list.length) (hl : list.length ≤ 1048576) :
    runK Try.prog md mk (d + 1) 12 Try.f12 H [.rd (rows true list) n_list false false] = some (.tup [.rd (rows true (entL list)) (entL list).length false true, .lit (.bool (sameOk list))], H) := by
  subst hn_list
  rw [runK_s]
  cases hs : sameOk list with
  | false =>
    simp [Try.f12, mk, hl, hs, entL]
  | true =>
    have h := fun (s : St) => l_spec_Entries d fuel list hl (by unfold fuel; omega) fuel (by unfold fuel; omega) s
    simp [lp, loopsOf, Try.f12, mk, sBox, oS, oB] at h
    by_cases h0 : eGo list (list.length + 1) [] = []
    · simp [Try.f12, mk, hl, hs, entL, h, h0]
    · simp [Try.f12, mk, hl, hs, entL, h, h0]

end Go.Proofs.Ytjleanfcjipofaa.Eng
