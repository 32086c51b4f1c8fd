/- The law of InTime, run: true for every row of replies. -/
import Derived.Test.YtjleanfcjipofaaR1F
namespace Go.Proofs.Ytjleanfcjipofaa.Eng
open Go Go.RowKit Go.Proofs
theorem szN_ok {n : Nat} {left : Int} (h0 : 0 ≤ left ∧ left ≤ 1048576) (hn : n ≤ 9223372036854775807) (h : ¬ szN n left < 0) : n ≤ 1048576 ∧ 0 ≤ szN n left ∧ szN n left ≤ left := by
  unfold szN at h ⊢
  rw [wrap_id (by omega) (by omega)] at h ⊢
  split at h
  · omega
  · rename_i h1
    rw [if_neg h1]
    omega
theorem wr_ok {n : Nat} {left : Int} (h0 : 0 ≤ left ∧ left ≤ 1048576) (hn : n ≤ 9223372036854775807) (h : ¬ IntKind.i64.wrap (left - n) < 0) : n ≤ 1048576 ∧ 0 ≤ IntKind.i64.wrap (left - n) ∧ IntKind.i64.wrap (left - n) ≤ left := by
  rw [wrap_id (by omega) (by omega)] at h ⊢
  omega
theorem szEv_ok {l5 l7 : List Int} {t : ByteArray} {left : Int} (h0 : 0 ≤ left ∧ left ≤ 1048576) (h5 : l5.length ≤ 9223372036854775807) (h7 : l7.length ≤ 9223372036854775807) (ht : t.size ≤ 9223372036854775807) (h : ¬ szEv l5 l7 t left < 0) :
    l5.length ≤ 1048576 ∧ l7.length ≤ 1048576 ∧ 0 ≤ szEv l5 l7 t left ∧ szEv l5 l7 t left ≤ left := by
  unfold szEv at h ⊢
  split at h
  · omega
  · rename_i c1
    obtain ⟨a1, a2, a3⟩ := szN_ok h0 h5 c1
    rw [if_neg c1]
    split at h
    · omega
    · rename_i c2
      obtain ⟨b1, b2, b3⟩ := wr_ok ⟨a2, by omega⟩ ht c2
      rw [if_neg c2]
      split at h
      · omega
      · rename_i c3
        obtain ⟨d1, d2, d3⟩ := szN_ok ⟨b2, by omega⟩ h7 c3
        rw [if_neg c3]
        exact ⟨a1, d1, d2, by omega⟩
theorem szRe_ok {l5 l7 : List Int} {t u : ByteArray} {left : Int} (h0 : 0 ≤ left ∧ left ≤ 1048576) (h5 : l5.length ≤ 9223372036854775807) (h7 : l7.length ≤ 9223372036854775807) (ht : t.size ≤ 9223372036854775807) (hu : u.size ≤ 9223372036854775807) (h : ¬ szRe l5 l7 t u left < 0) :
    l5.length ≤ 1048576 ∧ l7.length ≤ 1048576 ∧ 0 ≤ szRe l5 l7 t u left ∧ szRe l5 l7 t u left ≤ left := by
  unfold szRe szCo at h ⊢
  by_cases c : szEv l5 l7 t left < 0
  · simp [c] at h
  · obtain ⟨a1, a2, a3, a4⟩ := szEv_ok h0 h5 h7 ht c
    simp only [c, if_false] at h ⊢
    split at h
    · omega
    · rename_i c2
      obtain ⟨b1, b2, b3⟩ := wr_ok ⟨a3, by omega⟩ hu c2
      rw [if_neg c2]
      exact ⟨a1, a2, b2, by omega⟩
def WfR (x : Reply) : Prop := x.command.event.levels.length ≤ 9223372036854775807 ∧ x.command.event.prev.length ≤ 9223372036854775807 ∧ x.command.event.text.size ≤ 9223372036854775807 ∧ x.text.size ≤ 9223372036854775807
theorem szGo_ok : ∀ {l : List Reply} {left v : Int}, (∀ x ∈ l, WfR x) → 0 ≤ left ∧ left ≤ 1048576 → szGo l left = some v → ∀ x ∈ l, Small x
  | [], _, _, _, _, _, x, hx => by cases hx
  | y :: r, left, v, hw, h0, h, x, hx => by
    simp only [szGo] at h
    split at h
    · cases h
    · rename_i c
      obtain ⟨w1, w2, w3, w4⟩ := hw y List.mem_cons_self
      obtain ⟨a1, a2, a3, a4⟩ := szRe_ok h0 w1 w2 w3 w4 c
      rcases List.mem_cons.1 hx with e | e
      · subst e; exact ⟨a1, a2⟩
      · exact szGo_ok (fun z hz => hw z (List.mem_cons_of_mem _ hz)) ⟨a3, by omega⟩ h x e
theorem szReS_ok {l : List Reply} (hl : l.length ≤ 9223372036854775807) (hw : ∀ x ∈ l, WfR x) (h : ¬ szReS l 1048576 < 0) : l.length ≤ 1048576 ∧ ∀ x ∈ l, Small x := by
  unfold szReS at h
  split at h
  · omega
  · rename_i c
    obtain ⟨a1, a2, a3⟩ := wr_ok (by omega) hl c
    refine ⟨a1, ?_⟩
    cases hg : szGo l (IntKind.i64.wrap (1048576 - l.length)) with
    | none => rw [hg] at h; simp at h
    | some v => exact szGo_ok hw ⟨a2, by omega⟩ hg
set_option maxHeartbeats 2000000 in
theorem e3 (d : Nat) (l : List Reply) (fl fr fr' : Bool) (hl : l.length ≤ 9223372036854775807) (hw : ∀ x ∈ l, WfR x) :
    E (d + 6) 3 [.rd (rows fr l) l.length fl fr'] [] = some (.lit (.bool true), []) := by
  rw [E, ev_s Try.func3 rfl rfl]
  by_cases h : szReS l 1048576 < 0
  · simp [Try.f3, mk, e6, hl, h]
  · obtain ⟨h1, h2⟩ := szReS_ok hl hw h
    have h8 := fun d fl fr fr' H => e8 d l fl fr fr' H h1 h2
    have h10 := fun d fl fl' fr fr' fr1 fr1' H => e10 d l fl fl' fr fr' fr1 fr1' H h1 h2
    simp [Try.f3, mk, e6, e7, h8, e9, h10, hl, h, h1, any_swap]
end Go.Proofs.Ytjleanfcjipofaa.Eng
