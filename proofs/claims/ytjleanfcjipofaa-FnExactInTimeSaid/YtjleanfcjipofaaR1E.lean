/- spec.InTime and impl.InTime tell the same. Condition: a row of at most 1048576 parts. -/
import Derived.Test.YtjleanfcjipofaaR1D
namespace Go.Proofs.Ytjleanfcjipofaa.Eng
open Go Go.RowKit Go.Proofs
def bad (a b : Reply) : Bool := decide (a.whenn < b.call) && decide (b.index ≤ a.index)
theorem get18 (l : List Reply) (i : Nat) (h : i < l.length) : (rows false l)[i * 18]? = some (.lit (.int .i64 l[i].call)) ∧ (rows false l)[i * 18 + 1]? = some (.lit (.int .i64 l[i].whenn)) ∧ (rows false l)[i * 18 + 2]? = some (.lit (.int .i64 l[i].index)) ∧ ∀ h, (rows false l)[i * 18]'h = .lit (.int .i64 l[i].call) := by
  have hx : l[i]? = some l[i] := List.getElem?_eq_getElem h
  have h0 : (rows false l)[i * 18]? = some (.lit (.int .i64 l[i].call)) := rows_get false l i 0 l[i] hx (by decide)
  refine ⟨h0, rows_get false l i 1 l[i] hx (by decide), rows_get false l i 2 l[i] hx (by decide), fun h' => ?_⟩
  rw [List.getElem?_eq_getElem h'] at h0
  exact Option.some.inj h0
def R7 (l : List Reply) (i : Nat) (b : Bool) : Ex × St := if b = true then (.ret, ⟨[.bot, .bot, .lit (.bool false), .bot, .bot, .bot, .bot, .bot, .bot, .bot, .bot, .bot, .bot, .bot, .bot, .bot, .bot, .bot, .bot, .bot, .bot, .bot, .bot, .bot, .bot, .bot, .bot, .bot, .bot, .bot, .bot, .bot, .bot, .bot, .bot, .bot, .bot, .bot, .bot, .bot, .bot], []⟩) else (.exit 2, ⟨[.rd (rows false l) l.length false false, .bot, .bot, .lit (.int .i64 i), .bot, .bot, .bot, .bot, .bot, .bot, .bot, .bot, .bot, .bot, .bot, .bot, .bot, .bot, .bot, .bot, .bot, .bot, .bot, .bot, .bot, .bot, .bot, .bot, .bot, .bot, .bot, .bot, .bot, .bot, .bot, .bot, .bot, .bot, .bot, .bot, .bot], []⟩)
set_option maxHeartbeats 4000000 in
theorem l7in (l : List Reply) (d : Nat) (n : Nat) (i : Nat) (hi : i < l.length) (k : Nat) (hk : l.length < k) (hl : l.length ≤ 1048576) (s : St)
    (hs : shrink (mk 7 5).1 0 s = ⟨[.rd (rows false l) l.length false false, .bot, .bot, .lit (.int .i64 i), .lit (.int .i64 0), .bot, .bot, .bot, .bot, .bot, .bot, .bot, .bot, .bot, .bot, .bot, .bot, .bot, .bot, .bot, .bot, .bot, .bot, .bot, .bot, .bot, .bot, .bot, .bot, .bot, .bot, .bot, .bot, .bot, .bot, .bot, .bot, .bot, .bot, .bot, .bot], []⟩) :
    xloop (mk 7 5) 0 (xcode Try.prog (E d) (mk 7) (drawn Try.prog (E d) md) n (lp Try.f7 1)) k s = some (R7 l i (l.any fun a => bad a l[i])) := by
  refine loop_rule (σ := Nat) (fun k => ⟨[.rd (rows false l) l.length false false, .bot, .bot, .lit (.int .i64 i), .lit (.int .i64 k), .bot, .bot, .bot, .bot, .bot, .bot, .bot, .bot, .bot, .bot, .bot, .bot, .bot, .bot, .bot, .bot, .bot, .bot, .bot, .bot, .bot, .bot, .bot, .bot, .bot, .bot, .bot, .bot, .bot, .bot, .bot, .bot, .bot, .bot, .bot, .bot], []⟩)
    (fun k => R7 l i ((l.drop k).any fun a => bad a l[i])) (fun i => l.length - i) (fun i => i ≤ l.length) ?_ k 0 s (by simp) (by simpa using hk) (by simpa using hs)
  intro k hk
  rcases Nat.lt_or_ge k l.length with h | h
  · have hw : IntKind.i64.wrap ((k : Int) + 1) = ((k + 1 : Nat) : Int) := wrap_id (by omega) (by omega)
    obtain ⟨g0, g1, g2, g3⟩ := get18 l i hi
    obtain ⟨k0, k1, k2, k3⟩ := get18 l k h
    simp only [List.drop_eq_getElem_cons h, List.any_cons]
    have run : ∀ b, bad l[k] l[i] = b → (xcode Try.prog (E d) (mk 7) (drawn Try.prog (E d) md) n (lp Try.f7 1) ⟨[.rd (rows false l) l.length false false, .bot, .bot, .lit (.int .i64 i), .lit (.int .i64 k), .bot, .bot, .bot, .bot, .bot, .bot, .bot, .bot, .bot, .bot, .bot, .bot, .bot, .bot, .bot, .bot, .bot, .bot, .bot, .bot, .bot, .bot, .bot, .bot, .bot, .bot, .bot, .bot, .bot, .bot, .bot, .bot, .bot, .bot, .bot, .bot], []⟩).obind (shK (mk 7 5) 0) = some (if b = true then R7 l i true else (.normal, ⟨[.rd (rows false l) l.length false false, .bot, .bot, .lit (.int .i64 i), .lit (.int .i64 (k + 1 : Nat)), .bot, .bot, .bot, .bot, .bot, .bot, .bot, .bot, .bot, .bot, .bot, .bot, .bot, .bot, .bot, .bot, .bot, .bot, .bot, .bot, .bot, .bot, .bot, .bot, .bot, .bot, .bot, .bot, .bot, .bot, .bot, .bot, .bot, .bot, .bot, .bot], []⟩)) := by
      intro b hb
      unfold bad at hb
      simp [lp, loopsOf, Try.f7, mk, h]
      rw [x_drawq]
      · by_cases c1 : l[k].whenn < l[i].call
        · by_cases c2 : l[i].index ≤ l[k].index
          · have : b = true := by rw [← hb]; simp [c1, c2]
            subst this
            simp [h, hi, rows_ne h, hw, g0, g1, g2, g3, k0, k1, k2, k3, c1, c2, R7]
          · have : b = false := by rw [← hb]; simp [c1, c2]
            subst this
            simp [h, hi, rows_ne h, hw, g0, g1, g2, g3, k0, k1, k2, k3, c1, c2]
        · have : b = false := by rw [← hb]; simp [c1]
          subst this
          simp [h, hi, rows_ne h, hw, g0, g1, g2, g3, k0, k1, k2, k3, c1]
      · kernel_rfl
      · kernel_rfl
    cases hb : bad l[k] l[i] with
    | true =>
      right
      rw [run true hb]
      simp [R7]
    | false =>
      left
      exact ⟨k + 1, by rw [run false hb]; simp, by omega, by omega, by simp⟩
  · right
    have e : k = l.length := by omega
    subst e
    simp [lp, loopsOf, Try.f7, mk, R7]
def R7o (l : List Reply) (b : Bool) : Ex × St := if b = true then (.ret, ⟨[.bot, .bot, .lit (.bool false), .bot, .bot, .bot, .bot, .bot, .bot, .bot, .bot, .bot, .bot, .bot, .bot, .bot, .bot, .bot, .bot, .bot, .bot, .bot, .bot, .bot, .bot, .bot, .bot, .bot, .bot, .bot, .bot, .bot, .bot, .bot, .bot, .bot, .bot, .bot, .bot, .bot, .bot], []⟩) else (.exit 0, ⟨[.bot, .bot, .bot, .bot, .bot, .bot, .bot, .bot, .bot, .bot, .bot, .bot, .bot, .bot, .bot, .bot, .bot, .bot, .bot, .bot, .bot, .bot, .bot, .bot, .bot, .bot, .bot, .bot, .bot, .bot, .bot, .bot, .bot, .bot, .bot, .bot, .bot, .bot, .bot, .bot, .bot], []⟩)
set_option maxHeartbeats 4000000 in
theorem l7 (l : List Reply) (d : Nat) (hl : l.length ≤ 1048576) (k : Nat) (hk : l.length < k) (s : St)
    (hs : shrink (mk 7 2).1 0 s = ⟨[.rd (rows false l) l.length false false, .bot, .bot, .lit (.int .i64 0), .bot, .bot, .bot, .bot, .bot, .bot, .bot, .bot, .bot, .bot, .bot, .bot, .bot, .bot, .bot, .bot, .bot, .bot, .bot, .bot, .bot, .bot, .bot, .bot, .bot, .bot, .bot, .bot, .bot, .bot, .bot, .bot, .bot, .bot, .bot, .bot, .bot], []⟩) :
    xloop (mk 7 2) 0 (xcode Try.prog (E d) (mk 7) (drawn Try.prog (E d) md) fuel (lp Try.f7 0)) k s = some (R7o l (l.any fun b => l.any fun a => bad a b)) := by
  refine loop_rule (σ := Nat) (fun i => ⟨[.rd (rows false l) l.length false false, .bot, .bot, .lit (.int .i64 i), .bot, .bot, .bot, .bot, .bot, .bot, .bot, .bot, .bot, .bot, .bot, .bot, .bot, .bot, .bot, .bot, .bot, .bot, .bot, .bot, .bot, .bot, .bot, .bot, .bot, .bot, .bot, .bot, .bot, .bot, .bot, .bot, .bot, .bot, .bot, .bot, .bot], []⟩)
    (fun i => R7o l ((l.drop i).any fun b => l.any fun a => bad a b)) (fun i => l.length - i) (fun i => i ≤ l.length) ?_ k 0 s (by simp) (by simpa using hk) (by simpa using hs)
  intro i hi
  rcases Nat.lt_or_ge i l.length with h | h
  · have hw : IntKind.i64.wrap ((i : Int) + 1) = ((i + 1 : Nat) : Int) := wrap_id (by omega) (by omega)
    have hin := fun (s : St) => l7in l d fuel i h fuel (by unfold fuel; omega) hl s
    simp [lp, loopsOf, Try.f7, mk] at hin
    simp only [List.drop_eq_getElem_cons h, List.any_cons]
    cases hb : l.any fun a => bad a l[i] with
    | true =>
      right
      simp [lp, loopsOf, Try.f7, mk, h, hin, hb, R7, R7o]
    | false =>
      left
      refine ⟨i + 1, ?_, by omega, by omega, by simp⟩
      simp [lp, loopsOf, Try.f7, mk, h, hin, hb, R7, hw]
  · right
    have e : i = l.length := by omega
    subst e
    simp [lp, loopsOf, Try.f7, mk, R7o]
theorem e7 (d : Nat) (l : List Reply) (fl fr fr' : Bool) (H : Hp) (hl : l.length ≤ 1048576) :
    E (d + 1) 7 [.rd (rows fr l) l.length fl fr'] H = some (.lit (.bool (!(l.any fun b => l.any fun a => bad a b))), H) := by
  rw [E, ev_s Try.func7 rfl rfl]
  have h := fun (s : St) => l7 l d hl fuel (by unfold fuel; omega) s
  simp [lp, loopsOf, Try.f7, mk] at h
  cases hb : l.any fun b => l.any fun a => bad a b <;> simp [Try.f7, mk, h, hb, R7o]
end Go.Proofs.Ytjleanfcjipofaa.Eng
