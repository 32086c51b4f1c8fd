/- Comparisons of equal data: true. Condition: rows of at most 1048576 parts. -/
import Derived.Test.YtjleanfcjipofaaR1C
namespace Go.Proofs.Ytjleanfcjipofaa.Eng
open Go Go.RowKit Go.Proofs
set_option maxHeartbeats 2000000 in
theorem l46 (l : List Int) (d : Nat) (n : Nat) (k : Nat) (hk : l.length < k) (hl : l.length ≤ 1048576) (s : St)
    (hs : shrink (mk 46 4).1 0 s = ⟨[.rd (rows false l) l.length false false, .rd (rows false l) l.length false false, .bot, .bot, .bot, .lit (.int .i64 0), .bot, .bot, .bot, .bot, .bot, .bot, .bot, .bot, .bot, .bot, .bot, .bot, .bot, .bot, .bot, .bot, .bot, .bot, .bot, .bot], []⟩) :
    xloop (mk 46 4) 0 (xcode Try.prog (E d) (mk 46) (drawn Try.prog (E d) md) n (lp Try.f46 0)) k s = some (.exit 0, ⟨[.bot, .bot, .bot, .bot, .bot, .bot, .bot, .bot, .bot, .bot, .bot, .bot, .bot, .bot, .bot, .bot, .bot, .bot, .bot, .bot, .bot, .bot, .bot, .bot, .bot, .bot], []⟩) := by
  refine loop_rule (σ := Nat) (fun i => ⟨[.rd (rows false l) l.length false false, .rd (rows false l) l.length false false, .bot, .bot, .bot, .lit (.int .i64 i), .bot, .bot, .bot, .bot, .bot, .bot, .bot, .bot, .bot, .bot, .bot, .bot, .bot, .bot, .bot, .bot, .bot, .bot, .bot, .bot], []⟩)
    (fun _ => _) (fun i => l.length - i) (fun i => i ≤ l.length) ?_ k 0 s (by simp) (by simpa using hk) (by simpa using hs)
  intro i hi
  rcases Nat.lt_or_ge i l.length with h | h
  · left
    have hw : IntKind.i64.wrap ((i : Int) + 1) = ((i + 1 : Nat) : Int) := wrap_id (by omega) (by omega)
    refine ⟨i + 1, ?_, by omega, by omega, rfl⟩
    simp [lp, loopsOf, Try.f46, mk, h, rows_ne h, hw]
    rw [x_drawq]
    · simp [h, rows_ne h, hw]
    · kernel_rfl
    · kernel_rfl
  · right
    have e : i = l.length := by omega
    subst e
    refine ⟨?_, by simp⟩
    simp [lp, loopsOf, Try.f46, mk]
theorem e46 (d : Nat) (l : List Int) (fl fl' fr fr' fr1 fr1' : Bool) (H : Hp) (hl : l.length ≤ 1048576) :
    E (d + 1) 46 [.rd (rows fr l) l.length fl fr', .rd (rows fr1 l) l.length fl' fr1'] H = some (.lit (.bool true), H) := by
  rw [E, ev_s Try.func46 rfl rfl]
  have h := fun (s : St) => l46 l d fuel fuel (by unfold fuel; omega) hl s
  simp [lp, loopsOf, Try.f46, mk] at h
  simp [Try.f46, mk, h]
set_option maxHeartbeats 2000000 in
theorem e43 (d : Nat) (a_id : Int) (a_kind : Int) (a_sender : Int) (a_user : Int) (a_member : Int) (a_levels : List Int) (a_text : ByteArray) (a_prev : List Int) (a_depth : Int) (fr fr' : Bool) (H : Hp) (h5 : a_levels.length ≤ 1048576) (h7 : a_prev.length ≤ 1048576) :
    E (d + 2) 43 [.agg [.lit (.int .i64 a_id), .lit (.int .i64 a_kind), .lit (.int .i64 a_sender), .lit (.int .i64 a_user), .lit (.int .i64 a_member), .rd (rows fr a_levels) a_levels.length false fr, .lit (.string a_text), .rd (rows fr a_prev) a_prev.length false fr, .lit (.int .i64 a_depth)], .agg [.lit (.int .i64 a_id), .lit (.int .i64 a_kind), .lit (.int .i64 a_sender), .lit (.int .i64 a_user), .lit (.int .i64 a_member), .rd (rows fr' a_levels) a_levels.length false fr', .lit (.string a_text), .rd (rows fr' a_prev) a_prev.length false fr', .lit (.int .i64 a_depth)]] H = some (.lit (.bool true), H) := by
  rw [E, ev_s Try.func43 rfl rfl]
  simp [Try.f43, mk, e46, h5, h7]
set_option maxHeartbeats 2000000 in
theorem e38 (d : Nat) (a_op : Int) (a_token : Int) (a_seq : Int) (a_event_id : Int) (a_event_kind : Int) (a_event_sender : Int) (a_event_user : Int) (a_event_member : Int) (a_event_levels : List Int) (a_event_text : ByteArray) (a_event_prev : List Int) (a_event_depth : Int) (a_dest : Int) (a_upto : Int) (fr fr' : Bool) (H : Hp) (h5 : a_event_levels.length ≤ 1048576) (h7 : a_event_prev.length ≤ 1048576) :
    E (d + 3) 38 [.agg [.lit (.int .i64 a_op), .lit (.int .i64 a_token), .lit (.int .i64 a_seq), .lit (.int .i64 a_event_id), .lit (.int .i64 a_event_kind), .lit (.int .i64 a_event_sender), .lit (.int .i64 a_event_user), .lit (.int .i64 a_event_member), .rd (rows fr a_event_levels) a_event_levels.length false fr, .lit (.string a_event_text), .rd (rows fr a_event_prev) a_event_prev.length false fr, .lit (.int .i64 a_event_depth), .lit (.int .i64 a_dest), .lit (.int .i64 a_upto)], .agg [.lit (.int .i64 a_op), .lit (.int .i64 a_token), .lit (.int .i64 a_seq), .lit (.int .i64 a_event_id), .lit (.int .i64 a_event_kind), .lit (.int .i64 a_event_sender), .lit (.int .i64 a_event_user), .lit (.int .i64 a_event_member), .rd (rows fr' a_event_levels) a_event_levels.length false fr', .lit (.string a_event_text), .rd (rows fr' a_event_prev) a_event_prev.length false fr', .lit (.int .i64 a_event_depth), .lit (.int .i64 a_dest), .lit (.int .i64 a_upto)]] H = some (.lit (.bool true), H) := by
  rw [E, ev_s Try.func38 rfl rfl]
  simp [Try.f38, mk, e43, h5, h7]
set_option maxHeartbeats 2000000 in
theorem e24 (d : Nat) (a_call : Int) (a_whenn : Int) (a_index : Int) (a_command_op : Int) (a_command_token : Int) (a_command_seq : Int) (a_command_event_id : Int) (a_command_event_kind : Int) (a_command_event_sender : Int) (a_command_event_user : Int) (a_command_event_member : Int) (a_command_event_levels : List Int) (a_command_event_text : ByteArray) (a_command_event_prev : List Int) (a_command_event_depth : Int) (a_command_dest : Int) (a_command_upto : Int) (a_text : ByteArray) (fr fr' : Bool) (H : Hp) (h5 : a_command_event_levels.length ≤ 1048576) (h7 : a_command_event_prev.length ≤ 1048576) :
    E (d + 4) 24 [.agg [.lit (.int .i64 a_call), .lit (.int .i64 a_whenn), .lit (.int .i64 a_index), .lit (.int .i64 a_command_op), .lit (.int .i64 a_command_token), .lit (.int .i64 a_command_seq), .lit (.int .i64 a_command_event_id), .lit (.int .i64 a_command_event_kind), .lit (.int .i64 a_command_event_sender), .lit (.int .i64 a_command_event_user), .lit (.int .i64 a_command_event_member), .rd (rows fr a_command_event_levels) a_command_event_levels.length false fr, .lit (.string a_command_event_text), .rd (rows fr a_command_event_prev) a_command_event_prev.length false fr, .lit (.int .i64 a_command_event_depth), .lit (.int .i64 a_command_dest), .lit (.int .i64 a_command_upto), .lit (.string a_text)], .agg [.lit (.int .i64 a_call), .lit (.int .i64 a_whenn), .lit (.int .i64 a_index), .lit (.int .i64 a_command_op), .lit (.int .i64 a_command_token), .lit (.int .i64 a_command_seq), .lit (.int .i64 a_command_event_id), .lit (.int .i64 a_command_event_kind), .lit (.int .i64 a_command_event_sender), .lit (.int .i64 a_command_event_user), .lit (.int .i64 a_command_event_member), .rd (rows fr' a_command_event_levels) a_command_event_levels.length false fr', .lit (.string a_command_event_text), .rd (rows fr' a_command_event_prev) a_command_event_prev.length false fr', .lit (.int .i64 a_command_event_depth), .lit (.int .i64 a_command_dest), .lit (.int .i64 a_command_upto), .lit (.string a_text)]] H = some (.lit (.bool true), H) := by
  rw [E, ev_s Try.func24 rfl rfl]
  simp [Try.f24, mk, e38, h5, h7]
set_option maxHeartbeats 2000000 in
theorem l10 (l : List Reply) (d : Nat) (n : Nat) (k : Nat) (hk : l.length < k) (hl : l.length ≤ 1048576) (hsm : ∀ x ∈ l, Small x) (s : St)
    (hs : shrink (mk 10 4).1 0 s = ⟨[.rd (rows false l) l.length false false, .rd (rows false l) l.length false false, .bot, .bot, .bot, .lit (.int .i64 0), .bot, .bot, .bot, .bot, .bot, .bot, .bot, .bot, .bot, .bot, .bot, .bot, .bot, .bot, .bot, .bot, .bot, .bot, .bot, .bot, .bot], []⟩) :
    xloop (mk 10 4) 0 (xcode Try.prog (E (d + 4)) (mk 10) (drawn Try.prog (E (d + 4)) md) n (lp Try.f10 0)) k s = some (.exit 0, ⟨[.bot, .bot, .bot, .bot, .bot, .bot, .bot, .bot, .bot, .bot, .bot, .bot, .bot, .bot, .bot, .bot, .bot, .bot, .bot, .bot, .bot, .bot, .bot, .bot, .bot, .bot, .bot], []⟩) := by
  refine loop_rule (σ := Nat) (fun i => ⟨[.rd (rows false l) l.length false false, .rd (rows false l) l.length false false, .bot, .bot, .bot, .lit (.int .i64 i), .bot, .bot, .bot, .bot, .bot, .bot, .bot, .bot, .bot, .bot, .bot, .bot, .bot, .bot, .bot, .bot, .bot, .bot, .bot, .bot, .bot], []⟩)
    (fun _ => _) (fun i => l.length - i) (fun i => i ≤ l.length) ?_ k 0 s (by simp) (by simpa using hk) (by simpa using hs)
  intro i hi
  rcases Nat.lt_or_ge i l.length with h | h
  · left
    have hx : l[i]? = some l[i] := List.getElem?_eq_getElem h
    have hw : IntKind.i64.wrap ((i : Int) + 1) = ((i + 1 : Nat) : Int) := wrap_id (by omega) (by omega)
    have ht := rows_take false l i l[i] hx
    simp only [w_Reply, cells_Reply] at ht
    have hb : i * 18 + 18 ≤ l.length * 18 := by omega
    obtain ⟨h5, h7⟩ := hsm l[i] (List.getElem_mem h)
    refine ⟨i + 1, ?_, by omega, by omega, rfl⟩
    simp [lp, loopsOf, Try.f10, mk, h, rows_ne h, hw]
    rw [x_drawq]
    · simp [h, rows_ne h, hw, ht, hb, e24, h5, h7]
    · kernel_rfl
    · kernel_rfl
  · right
    have e : i = l.length := by omega
    subst e
    refine ⟨?_, by simp⟩
    simp [lp, loopsOf, Try.f10, mk]
theorem e10 (d : Nat) (l : List Reply) (fl fl' fr fr' fr1 fr1' : Bool) (H : Hp) (hl : l.length ≤ 1048576) (hsm : ∀ x ∈ l, Small x) :
    E (d + 5) 10 [.rd (rows fr l) l.length fl fr', .rd (rows fr1 l) l.length fl' fr1'] H = some (.lit (.bool true), H) := by
  rw [E, ev_s Try.func10 rfl rfl]
  have h := fun (s : St) => l10 l d fuel fuel (by unfold fuel; omega) hl hsm s
  simp [lp, loopsOf, Try.f10, mk] at h
  simp [Try.f10, mk, h]
end Go.Proofs.Ytjleanfcjipofaa.Eng
