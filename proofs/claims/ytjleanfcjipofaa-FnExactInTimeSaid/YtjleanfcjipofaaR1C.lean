/- Copies and comparisons of rows of data. Condition: what is copied is of at most 1048576 parts. -/
import Derived.Test.YtjleanfcjipofaaR1B
namespace Go.Proofs.Ytjleanfcjipofaa.Eng
open Go Go.RowKit Go.Proofs
/-- The parts of a reply are of modest size. -/
def Small (x : Reply) : Prop := x.command.event.levels.length ≤ 1048576 ∧ x.command.event.prev.length ≤ 1048576
def zR : List PV := [.lit (.int .i64 0), .lit (.int .i64 0), .lit (.int .i64 0), .lit (.int .i64 0), .lit (.int .i64 0), .lit (.int .i64 0), .lit (.int .i64 0), .lit (.int .i64 0), .lit (.int .i64 0), .lit (.int .i64 0), .lit (.int .i64 0), .rd [] 0 true true, .lit (.string ⟨#[]⟩), .rd [] 0 true true, .lit (.int .i64 0), .lit (.int .i64 0), .lit (.int .i64 0), .lit (.string ⟨#[]⟩)]
set_option maxHeartbeats 2000000 in
theorem l8 (l : List Reply) (d : Nat) (D : Drawn) (n : Nat) (k : Nat) (hk : l.length < k) (hl : l.length ≤ 1048576) (hsm : ∀ x ∈ l, Small x) (s : St)
    (hs : shrink (mk 8 3).1 1 s = ⟨[.rd (rows false l) l.length false false, .bot, .bot, .sl 0 0 0 l.length, .lit (.int .i64 0), .bot, .bot, .bot, .bot, .bot, .bot, .bot, .bot, .bot, .bot, .bot, .bot, .bot, .bot, .bot, .bot, .bot, .bot], [some ⟨53, 0, zs l.length zR⟩]⟩) :
    xloop (mk 8 3) 1 (xcode Try.prog (E (d + 4)) (mk 8) D n (lp Try.f8 0)) k s = some (.exit 0, ⟨[.bot, .bot, .bot, .sl 0 0 0 l.length, .bot, .bot, .bot, .bot, .bot, .bot, .bot, .bot, .bot, .bot, .bot, .bot, .bot, .bot, .bot, .bot, .bot, .bot, .bot], [some ⟨53, 0, rows true l⟩]⟩) := by
  refine loop_rule (σ := Nat) (fun i => ⟨[.rd (rows false l) l.length false false, .bot, .bot, .sl 0 0 0 l.length, .lit (.int .i64 i), .bot, .bot, .bot, .bot, .bot, .bot, .bot, .bot, .bot, .bot, .bot, .bot, .bot, .bot, .bot, .bot, .bot, .bot], [some ⟨53, 0, rows true (l.take i) ++ zs (l.length - i) zR⟩]⟩)
    (fun _ => _) (fun i => l.length - i) (fun i => i ≤ l.length) ?_ k 0 s (by simp) (by simpa using hk) (by simpa [rows_nil] using hs)
  intro i hi
  have hz : belowL 1 zR = true := by simp [zR]
  rcases Nat.lt_or_ge i l.length with h | h
  · left
    have hx : l[i]? = some l[i] := List.getElem?_eq_getElem h
    have hw : IntKind.i64.wrap ((i : Int) + 1) = ((i + 1 : Nat) : Int) := wrap_id (by omega) (by omega)
    have ht := rows_take false l i l[i] hx
    simp only [w_Reply, cells_Reply] at ht
    have hb : i * 18 + 18 ≤ l.length * 18 := by omega
    obtain ⟨h5, h7⟩ := hsm l[i] (List.getElem_mem h)
    have ho := over_push true (l.take i) l[i] (l.length - (i + 1)) zR rfl (i * 18) (by simp; omega)
    rw [take_push l i _ hx, show l.length - (i + 1) + 1 = l.length - i by omega] at ho
    simp only [cells_Reply] at ho
    have hzl : zR.length = 18 := rfl
    have h2 : i < min i l.length + (l.length - i) := by omega
    have h3 : i * 18 + 18 ≤ min i l.length * 18 + (l.length - i) * 18 := by omega
    refine ⟨i + 1, ?_, by omega, by omega, rfl⟩
    simp [lp, loopsOf, Try.f8, mk, h, rows_ne h, hw, ht, hb, e23, h5, h7, ho, h2, h3, hz, hzl]
  · right
    have e : i = l.length := by omega
    subst e
    refine ⟨?_, by simp⟩
    simp [lp, loopsOf, Try.f8, mk]
theorem e8 (d : Nat) (l : List Reply) (full fr fr' : Bool) (H : Hp) (hl : l.length ≤ 1048576) (hsm : ∀ x ∈ l, Small x) :
    E (d + 5) 8 [.rd (rows fr l) l.length full fr'] H = some (.rd (rows true l) l.length false true, H) := by
  rw [E, ev_s Try.func8 rfl rfl]
  have h1 : (l.length : Int) * 192 ≤ 140737488355328 ∧ (l.length : Int) ≤ 9223372036854775807 := by omega
  have h := fun (D : Drawn) (s : St) => l8 l d D fuel fuel (by unfold fuel; omega) hl hsm s
  simp [lp, loopsOf, Try.f8, mk, zR] at h
  simp [Try.f8, mk, h1, zs_eq, h]
end Go.Proofs.Ytjleanfcjipofaa.Eng
