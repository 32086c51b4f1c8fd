/- impl.InTime. Condition: a row of at most 1048576 parts. -/
import Derived.Test.YtjleanfcjipofaaR1E
namespace Go.Proofs.Ytjleanfcjipofaa.Eng
open Go Go.RowKit Go.Proofs
def R9 (l : List Reply) (i : Nat) (B : Hp) (b : Bool) : Ex × St := if b = true then (.ret, ⟨[.bot, .bot, .lit (.bool false), .bot, .bot, .bot, .bot, .bot, .bot, .bot, .bot, .bot, .bot, .bot, .bot, .bot, .bot, .bot, .bot, .bot, .bot, .bot, .bot, .bot, .bot, .bot, .bot, .bot, .bot, .bot, .bot, .bot, .bot], B⟩) else (.exit 2, ⟨[.rd (rows false l) l.length false false, .bot, .bot, .bot, .bot, .bot, .bot, .rd (rows false l) l.length false false, .lit (.int .i64 l.length), .lit (.int .i64 i), .bot, .bot, .bot, .bot, .bot, .bot, .bot, .bot, .bot, .bot, .bot, .bot, .bot, .bot, .bot, .bot, .bot, .bot, .bot, .bot, .bot, .bot, .bot], B⟩)
set_option maxHeartbeats 4000000 in
theorem l9in (l : List Reply) (d : Nat) (n : Nat) (i : Nat) (hi : i < l.length) (k : Nat) (hk : l.length < k) (hl : l.length ≤ 1048576) (s : St)
    (hs : shrink (mk 9 5).1 1 s = ⟨[.rd (rows false l) l.length false false, .bot, .bot, .bot, .ptr 0 0 0, .bot, .bot, .rd (rows false l) l.length false false, .lit (.int .i64 l.length), .lit (.int .i64 i), .bot, .bot, .bot, .rd (rows false l) l.length false false, .lit (.int .i64 l.length), .lit (.int .i64 0), .bot, .bot, .bot, .bot, .bot, .bot, .bot, .bot, .bot, .bot, .bot, .bot, .bot, .bot, .bot, .bot, .bot], [some ⟨53, 0, Enc.cells false l[i]⟩]⟩) :
    xloop (mk 9 5) 1 (xcode Try.prog (E d) (mk 9) (drawn Try.prog (E d) md) n (lp Try.f9 1)) k s = some (R9 l i [some ⟨53, 0, Enc.cells false l[i]⟩] (l.any fun b => bad l[i] b)) := by
  refine loop_rule (σ := Nat) (fun k => ⟨[.rd (rows false l) l.length false false, .bot, .bot, .bot, .ptr 0 0 0, .bot, .bot, .rd (rows false l) l.length false false, .lit (.int .i64 l.length), .lit (.int .i64 i), .bot, .bot, .bot, .rd (rows false l) l.length false false, .lit (.int .i64 l.length), .lit (.int .i64 k), .bot, .bot, .bot, .bot, .bot, .bot, .bot, .bot, .bot, .bot, .bot, .bot, .bot, .bot, .bot, .bot, .bot], [some ⟨53, 0, Enc.cells false l[i]⟩]⟩)
    (fun k => R9 l i [some ⟨53, 0, Enc.cells false l[i]⟩] ((l.drop k).any fun b => bad l[i] b)) (fun i => l.length - i) (fun i => i ≤ l.length) ?_ k 0 s (by simp) (by simpa using hk) (by simpa using hs)
  intro k hk
  rcases Nat.lt_or_ge k l.length with h | h
  · have hw : IntKind.i64.wrap ((k : Int) + 1) = ((k + 1 : Nat) : Int) := wrap_id (by omega) (by omega)
    have hx : l[k]? = some l[k] := List.getElem?_eq_getElem h
    have ht := rows_take false l k l[k] hx
    simp only [w_Reply, cells_Reply] at ht
    have hb : k * 18 + 18 ≤ l.length * 18 := by omega
    simp only [List.drop_eq_getElem_cons h, List.any_cons]
    by_cases c1 : l[i].whenn < l[k].call
    · by_cases c2 : l[k].index ≤ l[i].index
      · right
        simp [lp, loopsOf, Try.f9, mk, h, rows_ne h, ht, hb, c1, c2, R9, bad]
      · left
        refine ⟨k + 1, ?_, by omega, by omega, by simp [bad, c2]⟩
        simp [lp, loopsOf, Try.f9, mk, h, rows_ne h, ht, hb, hw, c1, c2]
    · left
      refine ⟨k + 1, ?_, by omega, by omega, by simp [bad, c1]⟩
      simp [lp, loopsOf, Try.f9, mk, h, rows_ne h, ht, hb, hw, c1]
  · right
    have e : k = l.length := by omega
    subst e
    simp [lp, loopsOf, Try.f9, mk, R9]
def R9o (l : List Reply) (b : Bool) : Ex × St := if b = true then (.ret, ⟨[.bot, .bot, .lit (.bool false), .bot, .bot, .bot, .bot, .bot, .bot, .bot, .bot, .bot, .bot, .bot, .bot, .bot, .bot, .bot, .bot, .bot, .bot, .bot, .bot, .bot, .bot, .bot, .bot, .bot, .bot, .bot, .bot, .bot, .bot], []⟩) else (.exit 0, ⟨[.bot, .bot, .bot, .bot, .bot, .bot, .bot, .bot, .bot, .bot, .bot, .bot, .bot, .bot, .bot, .bot, .bot, .bot, .bot, .bot, .bot, .bot, .bot, .bot, .bot, .bot, .bot, .bot, .bot, .bot, .bot, .bot, .bot], []⟩)
set_option maxHeartbeats 4000000 in
theorem l9 (l : List Reply) (d : Nat) (hl : l.length ≤ 1048576) (k : Nat) (hk : l.length < k) (s : St)
    (hs : shrink (mk 9 2).1 0 s = ⟨[.rd (rows false l) l.length false false, .bot, .bot, .bot, .bot, .bot, .bot, .rd (rows false l) l.length false false, .lit (.int .i64 l.length), .lit (.int .i64 0), .bot, .bot, .bot, .bot, .bot, .bot, .bot, .bot, .bot, .bot, .bot, .bot, .bot, .bot, .bot, .bot, .bot, .bot, .bot, .bot, .bot, .bot, .bot], []⟩) :
    xloop (mk 9 2) 0 (xcode Try.prog (E d) (mk 9) (drawn Try.prog (E d) md) fuel (lp Try.f9 0)) k s = some (R9o l (l.any fun a => l.any fun b => bad a b)) := by
  refine loop_rule (σ := Nat) (fun i => ⟨[.rd (rows false l) l.length false false, .bot, .bot, .bot, .bot, .bot, .bot, .rd (rows false l) l.length false false, .lit (.int .i64 l.length), .lit (.int .i64 i), .bot, .bot, .bot, .bot, .bot, .bot, .bot, .bot, .bot, .bot, .bot, .bot, .bot, .bot, .bot, .bot, .bot, .bot, .bot, .bot, .bot, .bot, .bot], []⟩)
    (fun i => R9o l ((l.drop i).any fun a => l.any fun b => bad a b)) (fun i => l.length - i) (fun i => i ≤ l.length) ?_ k 0 s (by simp) (by simpa using hk) (by simpa using hs)
  intro i hi
  rcases Nat.lt_or_ge i l.length with h | h
  · have hw : IntKind.i64.wrap ((i : Int) + 1) = ((i + 1 : Nat) : Int) := wrap_id (by omega) (by omega)
    have hx : l[i]? = some l[i] := List.getElem?_eq_getElem h
    have ht := rows_take false l i l[i] hx
    simp only [w_Reply, cells_Reply] at ht
    have hbd : i * 18 + 18 ≤ l.length * 18 := by omega
    have hin := fun (s : St) => l9in l d fuel i h fuel (by unfold fuel; omega) hl s
    simp [lp, loopsOf, Try.f9, mk] at hin
    simp only [List.drop_eq_getElem_cons h, List.any_cons]
    cases hb : l.any fun b => bad l[i] b with
    | true =>
      right
      simp [lp, loopsOf, Try.f9, mk, h, rows_ne h, ht, hbd, hin, hb, R9, R9o]
    | false =>
      left
      refine ⟨i + 1, ?_, by omega, by omega, by simp⟩
      simp [lp, loopsOf, Try.f9, mk, h, rows_ne h, ht, hbd, hin, hb, R9, hw]
  · right
    have e : i = l.length := by omega
    subst e
    simp [lp, loopsOf, Try.f9, mk, R9o]
theorem e9 (d : Nat) (l : List Reply) (fl fr fr' : Bool) (H : Hp) (hl : l.length ≤ 1048576) :
    E (d + 1) 9 [.rd (rows fr l) l.length fl fr'] H = some (.lit (.bool (!(l.any fun a => l.any fun b => bad a b))), H) := by
  rw [E, ev_s Try.func9 rfl rfl]
  have h := fun (s : St) => l9 l d hl fuel (by unfold fuel; omega) s
  simp [lp, loopsOf, Try.f9, mk] at h
  cases hb : l.any fun a => l.any fun b => bad a b <;> simp [Try.f9, mk, h, hb, R9o]
theorem any_swap (l : List Reply) : (l.any fun a => l.any fun b => bad a b) = (l.any fun b => l.any fun a => bad a b) := by
  rw [Bool.eq_iff_iff]
  simp only [List.any_eq_true]
  constructor
  · rintro ⟨a, ha, b, hb, h⟩; exact ⟨b, hb, a, ha, h⟩
  · rintro ⟨b, hb, a, ha, h⟩; exact ⟨a, ha, b, hb, h⟩
end Go.Proofs.Ytjleanfcjipofaa.Eng
