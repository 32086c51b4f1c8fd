/- The seat's first functions: sizes, copies and comparisons of data. Conditions: what is copied is of at most 1048576 parts. -/
import Derived.Test.YtjleanfcjipofaaEngT
import Derived.Test.YtjleanfcjipofaaEngQ
namespace Go.Proofs.Ytjleanfcjipofaa.Eng
open Go Go.RowKit Go.Proofs
def md : FuncId → Bool
  | 17 => false
  | 18 => false
  | _ => true
noncomputable abbrev E : Nat → Orc := ev Try.prog md mk
/-- What is left when n has been taken. -/
def szN (n : Nat) (left : Int) : Int := if IntKind.i64.wrap (left - n) < 0 then -1 else IntKind.i64.wrap (left - n)
theorem e44 (d : Nat) (l : List Int) (n : Nat) (full fr fr' : Bool) (left : Int) (H : Hp) :
    E (d + 1) 44 [.rd (rows fr l) n full fr', .lit (.int .i64 left)] H = some (.lit (.int .i64 (szN n left)), H) := by
  rw [E, ev_s Try.func44 rfl rfl]
  unfold szN
  by_cases h : IntKind.i64.wrap (left - n) < 0 <;> simp [Try.f44, h]
def szEv (l5 l7 : List Int) (t : ByteArray) (left : Int) : Int :=
  if szN l5.length left < 0 then -1 else
  if IntKind.i64.wrap (szN l5.length left - t.size) < 0 then -1 else
  if szN l7.length (IntKind.i64.wrap (szN l5.length left - t.size)) < 0 then -1 else szN l7.length (IntKind.i64.wrap (szN l5.length left - t.size))
set_option maxHeartbeats 1000000 in
theorem e41 (d : Nat) (a_id : Int) (a_kind : Int) (a_sender : Int) (a_user : Int) (a_member : Int) (a_levels : List Int) (a_text : ByteArray) (a_prev : List Int) (a_depth : Int) (fr : Bool) (left : Int) (H : Hp) :
    E (d + 2) 41 [.agg [.lit (.int .i64 a_id), .lit (.int .i64 a_kind), .lit (.int .i64 a_sender), .lit (.int .i64 a_user), .lit (.int .i64 a_member), .rd (rows fr a_levels) a_levels.length false fr, .lit (.string a_text), .rd (rows fr a_prev) a_prev.length false fr, .lit (.int .i64 a_depth)], .lit (.int .i64 left)] H = some (.lit (.int .i64 (szEv a_levels a_prev a_text left)), H) := by
  rw [E, ev_s Try.func41 rfl rfl]
  unfold szEv
  simp [Try.f41, mk, e44]
  split
  · simp [*]
  · simp [*]
    split
    · simp [*]
    · simp [*, e44]
      split <;> simp [*]
def szCo (l5 l7 : List Int) (t : ByteArray) (left : Int) : Int := if szEv l5 l7 t left < 0 then -1 else szEv l5 l7 t left
set_option maxHeartbeats 1000000 in
theorem e36 (d : Nat) (a_op : Int) (a_token : Int) (a_seq : Int) (a_event_id : Int) (a_event_kind : Int) (a_event_sender : Int) (a_event_user : Int) (a_event_member : Int) (a_event_levels : List Int) (a_event_text : ByteArray) (a_event_prev : List Int) (a_event_depth : Int) (a_dest : Int) (a_upto : Int) (fr : Bool) (left : Int) (H : Hp) :
    E (d + 3) 36 [.agg [.lit (.int .i64 a_op), .lit (.int .i64 a_token), .lit (.int .i64 a_seq), .lit (.int .i64 a_event_id), .lit (.int .i64 a_event_kind), .lit (.int .i64 a_event_sender), .lit (.int .i64 a_event_user), .lit (.int .i64 a_event_member), .rd (rows fr a_event_levels) a_event_levels.length false fr, .lit (.string a_event_text), .rd (rows fr a_event_prev) a_event_prev.length false fr, .lit (.int .i64 a_event_depth), .lit (.int .i64 a_dest), .lit (.int .i64 a_upto)], .lit (.int .i64 left)] H = some (.lit (.int .i64 (szCo a_event_levels a_event_prev a_event_text left)), H) := by
  rw [E, ev_s Try.func36 rfl rfl]
  unfold szCo
  simp [Try.f36, mk, e41]
  split <;> simp [*]
def szRe (l5 l7 : List Int) (t u : ByteArray) (left : Int) : Int :=
  if szCo l5 l7 t left < 0 then -1 else if IntKind.i64.wrap (szCo l5 l7 t left - u.size) < 0 then -1 else IntKind.i64.wrap (szCo l5 l7 t left - u.size)
set_option maxHeartbeats 1000000 in
theorem e22 (d : Nat) (a_call : Int) (a_whenn : Int) (a_index : Int) (a_command_op : Int) (a_command_token : Int) (a_command_seq : Int) (a_command_event_id : Int) (a_command_event_kind : Int) (a_command_event_sender : Int) (a_command_event_user : Int) (a_command_event_member : Int) (a_command_event_levels : List Int) (a_command_event_text : ByteArray) (a_command_event_prev : List Int) (a_command_event_depth : Int) (a_command_dest : Int) (a_command_upto : Int) (a_text : ByteArray) (fr : Bool) (left : Int) (H : Hp) :
    E (d + 4) 22 [.agg [.lit (.int .i64 a_call), .lit (.int .i64 a_whenn), .lit (.int .i64 a_index), .lit (.int .i64 a_command_op), .lit (.int .i64 a_command_token), .lit (.int .i64 a_command_seq), .lit (.int .i64 a_command_event_id), .lit (.int .i64 a_command_event_kind), .lit (.int .i64 a_command_event_sender), .lit (.int .i64 a_command_event_user), .lit (.int .i64 a_command_event_member), .rd (rows fr a_command_event_levels) a_command_event_levels.length false fr, .lit (.string a_command_event_text), .rd (rows fr a_command_event_prev) a_command_event_prev.length false fr, .lit (.int .i64 a_command_event_depth), .lit (.int .i64 a_command_dest), .lit (.int .i64 a_command_upto), .lit (.string a_text)], .lit (.int .i64 left)] H = some (.lit (.int .i64 (szRe a_command_event_levels a_command_event_prev a_command_event_text a_text left)), H) := by
  rw [E, ev_s Try.func22 rfl rfl]
  unfold szRe
  simp [Try.f22, mk, e36]
  split
  · simp [*]
  · simp [*]
    split <;> simp [*]
theorem l45 (l : List Int) (Ω : Orc) (D : Drawn) (n : Nat) (k : Nat) (hk : l.length < k) (hl : l.length ≤ 1048576) (s : St)
    (hs : shrink (mk 45 3).1 1 s = ⟨[.rd (rows false l) l.length false false, .bot, .bot, .sl 0 0 0 l.length, .lit (.int .i64 0), .bot, .bot, .bot, .bot, .bot, .bot, .bot, .bot, .bot, .bot, .bot, .bot, .bot, .bot, .bot, .bot, .bot], [some ⟨3, 0, rows true (List.replicate l.length (0 : Int))⟩]⟩) :
    xloop (mk 45 3) 1 (xcode Try.prog Ω (mk 45) D n (lp Try.f45 0)) k s = some (.exit 0, ⟨[.bot, .bot, .bot, .sl 0 0 0 l.length, .bot, .bot, .bot, .bot, .bot, .bot, .bot, .bot, .bot, .bot, .bot, .bot, .bot, .bot, .bot, .bot, .bot, .bot], [some ⟨3, 0, rows true l⟩]⟩) := by
  refine loop_rule (σ := Nat) (fun i => ⟨[.rd (rows false l) l.length false false, .bot, .bot, .sl 0 0 0 l.length, .lit (.int .i64 i), .bot, .bot, .bot, .bot, .bot, .bot, .bot, .bot, .bot, .bot, .bot, .bot, .bot, .bot, .bot, .bot, .bot], [some ⟨3, 0, rows true (l.take i ++ List.replicate (l.length - i) (0 : Int))⟩]⟩)
    (fun _ => _) (fun i => l.length - i) (fun i => i ≤ l.length) ?_ k 0 s (by simp) (by simpa using hk) (by simpa using hs)
  intro i hi
  rcases Nat.lt_or_ge i l.length with h | h
  · left
    have hx : l[i]? = some l[i] := List.getElem?_eq_getElem h
    have hw : IntKind.i64.wrap ((i : Int) + 1) = ((i + 1 : Nat) : Int) := wrap_id (by omega) (by omega)
    refine ⟨i + 1, ?_, by omega, by omega, rfl⟩
    have h2 : i < min i l.length + (l.length - i) := by omega
    have h3 : i + 1 ≤ min i l.length + (l.length - i) := by omega
    simp [lp, loopsOf, Try.f45, mk, h, rows_ne h, rows_int_over, hw, h2, h3, set_next _ _ _ _ hx]
  · right
    have e : i = l.length := by omega
    subst e
    refine ⟨?_, by simp⟩
    simp [lp, loopsOf, Try.f45, mk]
theorem e45 (d : Nat) (l : List Int) (full fr fr' : Bool) (H : Hp) (hl : l.length ≤ 1048576) :
    E (d + 1) 45 [.rd (rows fr l) l.length full fr'] H = some (.rd (rows true l) l.length false true, H) := by
  rw [E, ev_s Try.func45 rfl rfl]
  have h1 : (l.length : Int) * 8 ≤ 140737488355328 ∧ (l.length : Int) ≤ 9223372036854775807 := by omega
  have h := fun (Ω : Orc) (D : Drawn) (s : St) => l45 l Ω D fuel fuel (by unfold fuel; omega) hl s
  simp [lp, loopsOf, Try.f45, mk] at h
  simp [Try.f45, mk, h1, h, rows_int_zeros true]
set_option maxHeartbeats 1000000 in
theorem e42 (d : Nat) (a_id : Int) (a_kind : Int) (a_sender : Int) (a_user : Int) (a_member : Int) (a_levels : List Int) (a_text : ByteArray) (a_prev : List Int) (a_depth : Int) (fr : Bool) (H : Hp) (h5 : a_levels.length ≤ 1048576) (h7 : a_prev.length ≤ 1048576) :
    E (d + 2) 42 [.agg [.lit (.int .i64 a_id), .lit (.int .i64 a_kind), .lit (.int .i64 a_sender), .lit (.int .i64 a_user), .lit (.int .i64 a_member), .rd (rows fr a_levels) a_levels.length false fr, .lit (.string a_text), .rd (rows fr a_prev) a_prev.length false fr, .lit (.int .i64 a_depth)]] H = some (.agg [.lit (.int .i64 a_id), .lit (.int .i64 a_kind), .lit (.int .i64 a_sender), .lit (.int .i64 a_user), .lit (.int .i64 a_member), .rd (rows true a_levels) a_levels.length false true, .lit (.string a_text), .rd (rows true a_prev) a_prev.length false true, .lit (.int .i64 a_depth)], H) := by
  rw [E, ev_s Try.func42 rfl rfl]
  simp [Try.f42, mk, e45, h5, h7]
set_option maxHeartbeats 1000000 in
theorem e37 (d : Nat) (a_op : Int) (a_token : Int) (a_seq : Int) (a_event_id : Int) (a_event_kind : Int) (a_event_sender : Int) (a_event_user : Int) (a_event_member : Int) (a_event_levels : List Int) (a_event_text : ByteArray) (a_event_prev : List Int) (a_event_depth : Int) (a_dest : Int) (a_upto : Int) (fr : Bool) (H : Hp) (h5 : a_event_levels.length ≤ 1048576) (h7 : a_event_prev.length ≤ 1048576) :
    E (d + 3) 37 [.agg [.lit (.int .i64 a_op), .lit (.int .i64 a_token), .lit (.int .i64 a_seq), .lit (.int .i64 a_event_id), .lit (.int .i64 a_event_kind), .lit (.int .i64 a_event_sender), .lit (.int .i64 a_event_user), .lit (.int .i64 a_event_member), .rd (rows fr a_event_levels) a_event_levels.length false fr, .lit (.string a_event_text), .rd (rows fr a_event_prev) a_event_prev.length false fr, .lit (.int .i64 a_event_depth), .lit (.int .i64 a_dest), .lit (.int .i64 a_upto)]] H = some (.agg [.lit (.int .i64 a_op), .lit (.int .i64 a_token), .lit (.int .i64 a_seq), .lit (.int .i64 a_event_id), .lit (.int .i64 a_event_kind), .lit (.int .i64 a_event_sender), .lit (.int .i64 a_event_user), .lit (.int .i64 a_event_member), .rd (rows true a_event_levels) a_event_levels.length false true, .lit (.string a_event_text), .rd (rows true a_event_prev) a_event_prev.length false true, .lit (.int .i64 a_event_depth), .lit (.int .i64 a_dest), .lit (.int .i64 a_upto)], H) := by
  rw [E, ev_s Try.func37 rfl rfl]
  simp [Try.f37, mk, e42, h5, h7]
set_option maxHeartbeats 1000000 in
theorem e23 (d : Nat) (a_call : Int) (a_whenn : Int) (a_index : Int) (a_command_op : Int) (a_command_token : Int) (a_command_seq : Int) (a_command_event_id : Int) (a_command_event_kind : Int) (a_command_event_sender : Int) (a_command_event_user : Int) (a_command_event_member : Int) (a_command_event_levels : List Int) (a_command_event_text : ByteArray) (a_command_event_prev : List Int) (a_command_event_depth : Int) (a_command_dest : Int) (a_command_upto : Int) (a_text : ByteArray) (fr : Bool) (H : Hp) (h5 : a_command_event_levels.length ≤ 1048576) (h7 : a_command_event_prev.length ≤ 1048576) :
    E (d + 4) 23 [.agg [.lit (.int .i64 a_call), .lit (.int .i64 a_whenn), .lit (.int .i64 a_index), .lit (.int .i64 a_command_op), .lit (.int .i64 a_command_token), .lit (.int .i64 a_command_seq), .lit (.int .i64 a_command_event_id), .lit (.int .i64 a_command_event_kind), .lit (.int .i64 a_command_event_sender), .lit (.int .i64 a_command_event_user), .lit (.int .i64 a_command_event_member), .rd (rows fr a_command_event_levels) a_command_event_levels.length false fr, .lit (.string a_command_event_text), .rd (rows fr a_command_event_prev) a_command_event_prev.length false fr, .lit (.int .i64 a_command_event_depth), .lit (.int .i64 a_command_dest), .lit (.int .i64 a_command_upto), .lit (.string a_text)]] H = some (.agg [.lit (.int .i64 a_call), .lit (.int .i64 a_whenn), .lit (.int .i64 a_index), .lit (.int .i64 a_command_op), .lit (.int .i64 a_command_token), .lit (.int .i64 a_command_seq), .lit (.int .i64 a_command_event_id), .lit (.int .i64 a_command_event_kind), .lit (.int .i64 a_command_event_sender), .lit (.int .i64 a_command_event_user), .lit (.int .i64 a_command_event_member), .rd (rows true a_command_event_levels) a_command_event_levels.length false true, .lit (.string a_command_event_text), .rd (rows true a_command_event_prev) a_command_event_prev.length false true, .lit (.int .i64 a_command_event_depth), .lit (.int .i64 a_command_dest), .lit (.int .i64 a_command_upto), .lit (.string a_text)], H) := by
  rw [E, ev_s Try.func23 rfl rfl]
  simp [Try.f23, mk, e37, h5, h7]
end Go.Proofs.Ytjleanfcjipofaa.Eng
