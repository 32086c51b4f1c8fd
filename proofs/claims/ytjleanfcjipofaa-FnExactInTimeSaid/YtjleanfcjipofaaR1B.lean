/- Sizes, copies and comparisons of rows of data. -/
import Derived.Test.YtjleanfcjipofaaR1A
namespace Go.Proofs.Ytjleanfcjipofaa.Eng
open Go Go.RowKit Go.Proofs
def szGo : List Reply → Int → Option Int
  | [], left => some left
  | x :: r, left => if szRe x.command.event.levels x.command.event.prev x.command.event.text x.text left < 0 then none else szGo r (szRe x.command.event.levels x.command.event.prev x.command.event.text x.text left)
def R6 : Option Int → Ex × St
  | some v => (.exit 0, ⟨[.bot, .lit (.int .i64 v), .bot, .bot, .bot, .bot, .bot, .bot, .bot, .bot, .bot, .bot, .bot, .bot, .bot, .bot, .bot, .bot, .bot, .bot, .bot, .bot, .bot, .bot, .bot, .bot, .bot], []⟩)
  | none => (.ret, ⟨[.bot, .bot, .bot, .bot, .lit (.int .i64 (-1)), .bot, .bot, .bot, .bot, .bot, .bot, .bot, .bot, .bot, .bot, .bot, .bot, .bot, .bot, .bot, .bot, .bot, .bot, .bot, .bot, .bot, .bot], []⟩)
set_option maxHeartbeats 2000000 in
theorem l6 (l : List Reply) (d : Nat) (D : Drawn) (n : Nat) (left : Int) (k : Nat) (hk : l.length < k) (hl : l.length ≤ 1048576) (s : St)
    (hs : shrink (mk 6 5).1 0 s = ⟨[.rd (rows false l) l.length false false, .lit (.int .i64 left), .bot, .bot, .bot, .lit (.int .i64 0), .bot, .bot, .bot, .bot, .bot, .bot, .bot, .bot, .bot, .bot, .bot, .bot, .bot, .bot, .bot, .bot, .bot, .bot, .bot, .bot, .bot], []⟩) :
    xloop (mk 6 5) 0 (xcode Try.prog (E (d + 4)) (mk 6) D n (lp Try.f6 0)) k s = some (R6 (szGo l left)) := by
  refine loop_rule (σ := Nat × Int) (fun x => ⟨[.rd (rows false l) l.length false false, .lit (.int .i64 x.2), .bot, .bot, .bot, .lit (.int .i64 x.1), .bot, .bot, .bot, .bot, .bot, .bot, .bot, .bot, .bot, .bot, .bot, .bot, .bot, .bot, .bot, .bot, .bot, .bot, .bot, .bot, .bot], []⟩)
    (fun x => R6 (szGo (l.drop x.1) x.2)) (fun x => l.length - x.1) (fun x => x.1 ≤ l.length) ?_ k (0, left) s (by simp) (by simpa using hk) (by simpa using hs)
  rintro ⟨i, v⟩ hi
  simp only at hi
  rcases Nat.lt_or_ge i l.length with h | h
  · have hx : l[i]? = some l[i] := List.getElem?_eq_getElem h
    have hw : IntKind.i64.wrap ((i : Int) + 1) = ((i + 1 : Nat) : Int) := wrap_id (by omega) (by omega)
    have ht := rows_take false l i l[i] hx
    simp only [w_Reply, cells_Reply] at ht
    have hb : i * 18 + 18 ≤ l.length * 18 := by omega
    simp only [List.drop_eq_getElem_cons h, szGo]
    by_cases hneg : szRe l[i].command.event.levels l[i].command.event.prev l[i].command.event.text l[i].text v < 0
    · right
      simp [lp, loopsOf, Try.f6, mk, h, rows_ne h, hw, ht, hb, e22, hneg, R6]
    · left
      refine ⟨(i + 1, szRe l[i].command.event.levels l[i].command.event.prev l[i].command.event.text l[i].text v), ?_, by simp only; omega, by simp only; omega, ?_⟩
      · simp [lp, loopsOf, Try.f6, mk, h, rows_ne h, hw, ht, hb, e22, hneg]
      · simp [hneg]
  · right
    have e : i = l.length := by omega
    subst e
    simp [lp, loopsOf, Try.f6, mk, R6, szGo]
def szReS (l : List Reply) (left : Int) : Int := if IntKind.i64.wrap (left - l.length) < 0 then -1 else (szGo l (IntKind.i64.wrap (left - l.length))).getD (-1)
theorem e6 (d : Nat) (l : List Reply) (full fr fr' : Bool) (left : Int) (H : Hp) (hl : l.length ≤ 9223372036854775807) (hleft : 0 ≤ left ∧ left ≤ 1048576) :
    E (d + 5) 6 [.rd (rows fr l) l.length full fr', .lit (.int .i64 left)] H = some (.lit (.int .i64 (szReS l left)), H) := by
  rw [E, ev_s Try.func6 rfl rfl]
  unfold szReS
  by_cases h0 : IntKind.i64.wrap (left - l.length) < 0
  · simp [Try.f6, mk, h0]
  · have hlen : l.length ≤ 1048576 := by
      rw [wrap_id (by omega) (by omega)] at h0
      omega
    have h := fun (D : Drawn) (v : Int) (s : St) => l6 l d D fuel v fuel (by unfold fuel; omega) hlen s
    simp [lp, loopsOf, Try.f6, mk] at h
    cases hg : szGo l (IntKind.i64.wrap (left - l.length)) <;> simp [Try.f6, mk, h, h0, hg, R6]
end Go.Proofs.Ytjleanfcjipofaa.Eng
