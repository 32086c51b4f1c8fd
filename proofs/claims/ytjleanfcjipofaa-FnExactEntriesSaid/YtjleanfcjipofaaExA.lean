/- Sizes, copies and comparisons of data, as the laws have them. Conditions: what is copied has rows of at most 1048576 parts. -/
import Derived.Test.YtjleanfcjipofaaEngX
set_option linter.all false
namespace Go.Proofs.Ytjleanfcjipofaa.Eng
open Go Go.RowKit Go.Proofs
def Pre (left : Int) : Prop := 0 ≤ left ∧ left ≤ 1048576
/-- What is left of 'left', when n has been taken; -1 when there is not so much. -/
def szV (n : Nat) (left : Int) : Int := if (n : Int) ≤ left then left - n else -1
theorem szV_ok {n : Nat} {left : Int} (h : (n : Int) ≤ left) : szV n left = left - n := if_pos h
theorem szV_ok' {n : Nat} {left x : Int} (h : (n : Int) ≤ left) (e : left - n = x) : szV n left = x := by rw [szV_ok h, e]
theorem szV_no {n : Nat} {left : Int} (h : ¬ (n : Int) ≤ left) : szV n left = -1 := if_neg h
theorem szV_no' {a b : Nat} {left : Int} (h : ¬ (a : Int) ≤ left) : szV (a + b) left = -1 := szV_no (by simp only [Int.natCast_add]; omega)
theorem szV_add {a : Nat} (b : Nat) {left : Int} (h : (a : Int) ≤ left) : szV (a + b) left = szV b (left - a) := by
  unfold szV
  simp only [Int.natCast_add]
  split <;> split <;> omega
theorem szV_neg {n : Nat} {left : Int} (h : szV n left < 0) : szV n left = -1 := by
  unfold szV at h ⊢
  split at h
  · omega
  · rw [if_neg (by assumption)]
theorem szV_le {n : Nat} {left : Int} (h : ¬ szV n left < 0) : (n : Int) ≤ left := by
  unfold szV at h
  split at h
  · assumption
  · omega
theorem zs_one (n : Nat) (p : PV) : List.replicate n p = zs n [p] := by
  unfold zs
  induction n with
  | zero => rfl
  | succ n ih => simp only [List.replicate_succ, List.flatten_cons, ← ih]; rfl
theorem cells_1 (fr : Bool) (x : Int) : Enc.cells fr x = [.lit (.int .i64 x)] := rfl
theorem cells_S (fr : Bool) (x : ByteArray) : Enc.cells fr x = [.lit (.string x)] := rfl
theorem cells_B (fr : Bool) (x : Bool) : Enc.cells fr x = [.lit (.bool x)] := rfl
theorem mem_sum_le {α : Type} (f : α → Nat) : ∀ (l : List α) (x : α), x ∈ l → f x ≤ (l.map f).sum
  | [], x, h => by cases h
  | y :: r, x, h => by
    rw [List.map_cons, List.sum_cons]
    rcases List.mem_cons.1 h with e | e
    · subst e; omega
    · have := mem_sum_le f r x e; omega
theorem wf_TReply (x : TReply) : Enc.wf x = (Enc.wf x.Call ∧ Enc.wf x.When ∧ Enc.wf x.Index ∧ Enc.wf x.Command ∧ Enc.wf x.Text ∧ True) := rfl
theorem wf_TCommand (x : TCommand) : Enc.wf x = (Enc.wf x.Op ∧ Enc.wf x.Token ∧ Enc.wf x.Seq ∧ Enc.wf x.Event ∧ Enc.wf x.Dest ∧ Enc.wf x.Upto ∧ True) := rfl
theorem wf_TEvent (x : TEvent) : Enc.wf x = (Enc.wf x.Id ∧ Enc.wf x.Kind ∧ Enc.wf x.Sender ∧ Enc.wf x.User ∧ Enc.wf x.Member ∧ Enc.wf x.Levels ∧ Enc.wf x.Text ∧ Enc.wf x.Prev ∧ Enc.wf x.Depth ∧ True) := rfl
@[simp] theorem v_szIntS (d : Nat) (H : Hp) (l : List Int) (n : Nat) (hn : n = l.length) (left : Int) (h1 : Pre left) (hw : l.length ≤ 9223372036854775807) :
    runK Try.prog md mk d 44 Try.f44 H [.rd (rows true l) n false false, .lit (.int .i64 left)] = some (.lit (.int .i64 (szV l.length left)), H) := by
  subst hn
  rw [runK_s]
  obtain ⟨h1, h2⟩ := h1
  have hwr : IntKind.i64.wrap (left - l.length) = left - l.length := wrap_id (by omega) (by omega)
  by_cases h : (l.length : Int) ≤ left
  · have h' : ¬ (left - l.length < 0) := by omega
    simp [Try.f44, mk, szV, hwr, h, h']
  · have h' : left - l.length < 0 := by omega
    simp [Try.f44, mk, szV, hwr, h, h']
def msr_TEvent (x : TEvent) : Nat := x.Levels.length + x.Text.size + x.Prev.length
set_option maxHeartbeats 1000000 in
theorem v_szEvent (d : Nat) (H : Hp) (a_Id : Int) (a_Kind : Int) (a_Sender : Int) (a_User : Int) (a_Member : Int) (a_Levels : List Int) (a_Text : ByteArray) (a_Prev : List Int) (a_Depth : Int) (n_a_Levels : Nat) (hn_a_Levels : n_a_Levels = a_Levels.length) (n_a_Prev : Nat) (hn_a_Prev : n_a_Prev = a_Prev.length) (left : Int) (h1 : Pre left) (hw : Enc.wf (⟨a_Id, a_Kind, a_Sender, a_User, a_Member, a_Levels, a_Text, a_Prev, a_Depth⟩ : TEvent)) :
    runK Try.prog md mk (d + 1) 41 Try.f41 H [.agg [.lit (.int .i64 a_Id), .lit (.int .i64 a_Kind), .lit (.int .i64 a_Sender), .lit (.int .i64 a_User), .lit (.int .i64 a_Member), .rd (rows true a_Levels) n_a_Levels false false, .lit (.string a_Text), .rd (rows true a_Prev) n_a_Prev false false, .lit (.int .i64 a_Depth)], .lit (.int .i64 left)] = some (.lit (.int .i64 (szV (msr_TEvent (⟨a_Id, a_Kind, a_Sender, a_User, a_Member, a_Levels, a_Text, a_Prev, a_Depth⟩ : TEvent)) left)), H) := by
  subst hn_a_Levels hn_a_Prev
  rw [runK_s]
  rw [wf_TEvent] at hw
  simp only at hw
  obtain ⟨_, _, _, _, _, w5, w6, w7, _, _⟩ := hw
  obtain ⟨k1, k2⟩ := id h1
  simp only [msr_TEvent]
  have x6 : a_Text.size ≤ 9223372036854775807 := w6
  obtain ⟨m0, e0⟩ : ∃ m, m = a_Levels.length := ⟨_, rfl⟩
  obtain ⟨m1, e1⟩ : ∃ m, m = a_Text.size := ⟨_, rfl⟩
  obtain ⟨m2, e2⟩ : ∃ m, m = a_Prev.length := ⟨_, rfl⟩
  rw [← e0, ← e1, ← e2]
  have x5 : m0 ≤ 9223372036854775807 := by rw [e0]; exact w5.2
  have x7 : m2 ≤ 9223372036854775807 := by rw [e2]; exact w7.2
  by_cases c0 : (m0 : Int) ≤ left
  · have q0 : ¬ (left - (m0 : Int) < 0) := by omega
    have r0 := szV_ok c0
    have t0 : Pre (left - (m0 : Int)) := ⟨by omega, by omega⟩
    by_cases c1 : (m1 : Int) ≤ left - (m0 : Int)
    · have q1 : ¬ (left - (m0 : Int) - (m1 : Int) < 0) := by omega
      have r1 : IntKind.i64.wrap (left - (m0 : Int) - (m1 : Int)) = left - (m0 : Int) - (m1 : Int) := wrap_id (by omega) (by omega)
      have t1 : Pre (left - (m0 : Int) - (m1 : Int)) := ⟨by omega, by omega⟩
      by_cases c2 : (m2 : Int) ≤ left - (m0 : Int) - (m1 : Int)
      · have q2 : ¬ (left - (m0 : Int) - (m1 : Int) - (m2 : Int) < 0) := by omega
        have r2 := szV_ok c2
        have t2 : Pre (left - (m0 : Int) - (m1 : Int) - (m2 : Int)) := ⟨by omega, by omega⟩
        have hall : szV (m0 + m1 + m2) left = left - (m0 : Int) - (m1 : Int) - (m2 : Int) := szV_ok' (by omega) (by omega)
        simp [Try.f41, mk, h1, hall, x5, ← e0, q0, r0, t0, x6, ← e1, q1, r1, t1, x7, ← e2, q2, r2, t2, v_szIntS, v_szIntS]
      · have r2 := szV_no c2
        have hall : szV (m0 + m1 + m2) left = -1 := szV_no (by omega)
        simp [Try.f41, mk, h1, hall, x5, ← e0, q0, r0, t0, x6, ← e1, q1, r1, t1, x7, ← e2, r2, v_szIntS, v_szIntS]
    · have q1 : left - (m0 : Int) - (m1 : Int) < 0 := by omega
      have r1 : IntKind.i64.wrap (left - (m0 : Int) - (m1 : Int)) = left - (m0 : Int) - (m1 : Int) := wrap_id (by omega) (by omega)
      have hall : szV (m0 + m1 + m2) left = -1 := szV_no (by omega)
      simp [Try.f41, mk, h1, hall, x5, ← e0, q0, r0, t0, x6, ← e1, q1, r1, v_szIntS, v_szIntS]
  · have r0 := szV_no c0
    have hall : szV (m0 + m1 + m2) left = -1 := szV_no (by omega)
    simp [Try.f41, mk, h1, hall, x5, ← e0, r0, v_szIntS, v_szIntS]
def msr_TCommand (x : TCommand) : Nat := msr_TEvent x.Event
set_option maxHeartbeats 1000000 in
theorem v_szCommand (d : Nat) (H : Hp) (a_Op : Int) (a_Token : Int) (a_Seq : Int) (a_Event_Id : Int) (a_Event_Kind : Int) (a_Event_Sender : Int) (a_Event_User : Int) (a_Event_Member : Int) (a_Event_Levels : List Int) (a_Event_Text : ByteArray) (a_Event_Prev : List Int) (a_Event_Depth : Int) (a_Dest : Int) (a_Upto : Int) (n_a_Event_Levels : Nat) (hn_a_Event_Levels : n_a_Event_Levels = a_Event_Levels.length) (n_a_Event_Prev : Nat) (hn_a_Event_Prev : n_a_Event_Prev = a_Event_Prev.length) (left : Int) (h1 : Pre left) (hw : Enc.wf (⟨a_Op, a_Token, a_Seq, (⟨a_Event_Id, a_Event_Kind, a_Event_Sender, a_Event_User, a_Event_Member, a_Event_Levels, a_Event_Text, a_Event_Prev, a_Event_Depth⟩ : TEvent), a_Dest, a_Upto⟩ : TCommand)) :
    runK Try.prog md mk (d + 2) 36 Try.f36 H [.agg [.lit (.int .i64 a_Op), .lit (.int .i64 a_Token), .lit (.int .i64 a_Seq), .lit (.int .i64 a_Event_Id), .lit (.int .i64 a_Event_Kind), .lit (.int .i64 a_Event_Sender), .lit (.int .i64 a_Event_User), .lit (.int .i64 a_Event_Member), .rd (rows true a_Event_Levels) n_a_Event_Levels false false, .lit (.string a_Event_Text), .rd (rows true a_Event_Prev) n_a_Event_Prev false false, .lit (.int .i64 a_Event_Depth), .lit (.int .i64 a_Dest), .lit (.int .i64 a_Upto)], .lit (.int .i64 left)] = some (.lit (.int .i64 (szV (msr_TCommand (⟨a_Op, a_Token, a_Seq, (⟨a_Event_Id, a_Event_Kind, a_Event_Sender, a_Event_User, a_Event_Member, a_Event_Levels, a_Event_Text, a_Event_Prev, a_Event_Depth⟩ : TEvent), a_Dest, a_Upto⟩ : TCommand)) left)), H) := by
  subst hn_a_Event_Levels hn_a_Event_Prev
  rw [runK_s]
  rw [wf_TCommand] at hw
  simp only at hw
  obtain ⟨_, _, _, w3, _, _, _⟩ := hw
  obtain ⟨k1, k2⟩ := id h1
  simp only [msr_TCommand]
  have x3 := w3
  obtain ⟨m0, e0⟩ : ∃ m, m = msr_TEvent (⟨a_Event_Id, a_Event_Kind, a_Event_Sender, a_Event_User, a_Event_Member, a_Event_Levels, a_Event_Text, a_Event_Prev, a_Event_Depth⟩ : TEvent) := ⟨_, rfl⟩
  rw [← e0]
  by_cases c0 : (m0 : Int) ≤ left
  · have q0 : ¬ (left - (m0 : Int) < 0) := by omega
    have r0 := szV_ok c0
    have t0 : Pre (left - (m0 : Int)) := ⟨by omega, by omega⟩
    have hall : szV (m0) left = left - (m0 : Int) := szV_ok' (by omega) (by omega)
    simp [Try.f36, mk, h1, hall, x3, ← e0, q0, r0, t0, v_szEvent]
  · have r0 := szV_no c0
    have hall : szV (m0) left = -1 := szV_no (by omega)
    simp [Try.f36, mk, h1, hall, x3, ← e0, r0, v_szEvent]
def msr_TReply (x : TReply) : Nat := msr_TCommand x.Command + x.Text.size
set_option maxHeartbeats 1000000 in
theorem v_szReply (d : Nat) (H : Hp) (a_Call : Int) (a_When : Int) (a_Index : Int) (a_Command_Op : Int) (a_Command_Token : Int) (a_Command_Seq : Int) (a_Command_Event_Id : Int) (a_Command_Event_Kind : Int) (a_Command_Event_Sender : Int) (a_Command_Event_User : Int) (a_Command_Event_Member : Int) (a_Command_Event_Levels : List Int) (a_Command_Event_Text : ByteArray) (a_Command_Event_Prev : List Int) (a_Command_Event_Depth : Int) (a_Command_Dest : Int) (a_Command_Upto : Int) (a_Text : ByteArray) (n_a_Command_Event_Levels : Nat) (hn_a_Command_Event_Levels : n_a_Command_Event_Levels = a_Command_Event_Levels.length) (n_a_Command_Event_Prev : Nat) (hn_a_Command_Event_Prev : n_a_Command_Event_Prev = a_Command_Event_Prev.length) (left : Int) (h1 : Pre left) (hw : Enc.wf (⟨a_Call, a_When, a_Index, (⟨a_Command_Op, a_Command_Token, a_Command_Seq, (⟨a_Command_Event_Id, a_Command_Event_Kind, a_Command_Event_Sender, a_Command_Event_User, a_Command_Event_Member, a_Command_Event_Levels, a_Command_Event_Text, a_Command_Event_Prev, a_Command_Event_Depth⟩ : TEvent), a_Command_Dest, a_Command_Upto⟩ : TCommand), a_Text⟩ : TReply)) :
    runK Try.prog md mk (d + 3) 22 Try.f22 H [.agg [.lit (.int .i64 a_Call), .lit (.int .i64 a_When), .lit (.int .i64 a_Index), .lit (.int .i64 a_Command_Op), .lit (.int .i64 a_Command_Token), .lit (.int .i64 a_Command_Seq), .lit (.int .i64 a_Command_Event_Id), .lit (.int .i64 a_Command_Event_Kind), .lit (.int .i64 a_Command_Event_Sender), .lit (.int .i64 a_Command_Event_User), .lit (.int .i64 a_Command_Event_Member), .rd (rows true a_Command_Event_Levels) n_a_Command_Event_Levels false false, .lit (.string a_Command_Event_Text), .rd (rows true a_Command_Event_Prev) n_a_Command_Event_Prev false false, .lit (.int .i64 a_Command_Event_Depth), .lit (.int .i64 a_Command_Dest), .lit (.int .i64 a_Command_Upto), .lit (.string a_Text)], .lit (.int .i64 left)] = some (.lit (.int .i64 (szV (msr_TReply (⟨a_Call, a_When, a_Index, (⟨a_Command_Op, a_Command_Token, a_Command_Seq, (⟨a_Command_Event_Id, a_Command_Event_Kind, a_Command_Event_Sender, a_Command_Event_User, a_Command_Event_Member, a_Command_Event_Levels, a_Command_Event_Text, a_Command_Event_Prev, a_Command_Event_Depth⟩ : TEvent), a_Command_Dest, a_Command_Upto⟩ : TCommand), a_Text⟩ : TReply)) left)), H) := by
  subst hn_a_Command_Event_Levels hn_a_Command_Event_Prev
  rw [runK_s]
  rw [wf_TReply] at hw
  simp only at hw
  obtain ⟨_, _, _, w3, w4, _⟩ := hw
  obtain ⟨k1, k2⟩ := id h1
  simp only [msr_TReply]
  have x3 := w3
  have x4 : a_Text.size ≤ 9223372036854775807 := w4
  obtain ⟨m0, e0⟩ : ∃ m, m = msr_TCommand (⟨a_Command_Op, a_Command_Token, a_Command_Seq, (⟨a_Command_Event_Id, a_Command_Event_Kind, a_Command_Event_Sender, a_Command_Event_User, a_Command_Event_Member, a_Command_Event_Levels, a_Command_Event_Text, a_Command_Event_Prev, a_Command_Event_Depth⟩ : TEvent), a_Command_Dest, a_Command_Upto⟩ : TCommand) := ⟨_, rfl⟩
  obtain ⟨m1, e1⟩ : ∃ m, m = a_Text.size := ⟨_, rfl⟩
  rw [← e0, ← e1]
  by_cases c0 : (m0 : Int) ≤ left
  · have q0 : ¬ (left - (m0 : Int) < 0) := by omega
    have r0 := szV_ok c0
    have t0 : Pre (left - (m0 : Int)) := ⟨by omega, by omega⟩
    by_cases c1 : (m1 : Int) ≤ left - (m0 : Int)
    · have q1 : ¬ (left - (m0 : Int) - (m1 : Int) < 0) := by omega
      have r1 : IntKind.i64.wrap (left - (m0 : Int) - (m1 : Int)) = left - (m0 : Int) - (m1 : Int) := wrap_id (by omega) (by omega)
      have t1 : Pre (left - (m0 : Int) - (m1 : Int)) := ⟨by omega, by omega⟩
      have hall : szV (m0 + m1) left = left - (m0 : Int) - (m1 : Int) := szV_ok' (by omega) (by omega)
      simp [Try.f22, mk, h1, hall, x3, ← e0, q0, r0, t0, x4, ← e1, q1, r1, t1, v_szCommand]
    · have q1 : left - (m0 : Int) - (m1 : Int) < 0 := by omega
      have r1 : IntKind.i64.wrap (left - (m0 : Int) - (m1 : Int)) = left - (m0 : Int) - (m1 : Int) := wrap_id (by omega) (by omega)
      have hall : szV (m0 + m1) left = -1 := szV_no (by omega)
      simp [Try.f22, mk, h1, hall, x3, ← e0, q0, r0, t0, x4, ← e1, q1, r1, v_szCommand]
  · have r0 := szV_no c0
    have hall : szV (m0 + m1) left = -1 := szV_no (by omega)
    simp [Try.f22, mk, h1, hall, x3, ← e0, r0, v_szCommand]
def R_szReplyS (x : Int) : Ex × St := if x < 0 then (.ret, ⟨[.bot, .bot, .bot, .bot, .lit (.int .i64 (-1)), .bot, .bot, .bot, .bot, .bot, .bot, .bot, .bot, .bot, .bot, .bot, .bot, .bot, .bot, .bot, .bot, .bot, .bot, .bot, .bot, .bot, .bot], []⟩) else (.exit 0, ⟨[.bot, .lit (.int .i64 x), .bot, .bot, .bot, .bot, .bot, .bot, .bot, .bot, .bot, .bot, .bot, .bot, .bot, .bot, .bot, .bot, .bot, .bot, .bot, .bot, .bot, .bot, .bot, .bot, .bot], []⟩)
set_option maxHeartbeats 1000000 in
theorem l_szReplyS (l : List TReply) (d : Nat) (D : Drawn) (n : Nat) (left : Int) (h1 : Pre left) (hw : ∀ x ∈ l, Enc.wf x) (k : Nat) (hk : l.length < k) (hl : l.length ≤ 1048576) (s : St)
    (hs : shrink (mk 6 5).1 0 s = ⟨[.rd (rows false l) l.length false false, .lit (.int .i64 left), .bot, .bot, .bot, .lit (.int .i64 0), .bot, .bot, .bot, .bot, .bot, .bot, .bot, .bot, .bot, .bot, .bot, .bot, .bot, .bot, .bot, .bot, .bot, .bot, .bot, .bot, .bot], []⟩) :
    xloop (mk 6 5) 0 (xcode Try.prog (E (d + 4)) (mk 6) D n (lp Try.f6 0)) k s = some (R_szReplyS (szV (l.map fun y => msr_TReply y).sum left)) := by
  refine loop_rule (σ := Nat × Int) (fun x => ⟨[.rd (rows false l) l.length false false, .lit (.int .i64 x.2), .bot, .bot, .bot, .lit (.int .i64 x.1), .bot, .bot, .bot, .bot, .bot, .bot, .bot, .bot, .bot, .bot, .bot, .bot, .bot, .bot, .bot, .bot, .bot, .bot, .bot, .bot, .bot], []⟩)
    (fun x => R_szReplyS (szV ((l.drop x.1).map fun y => msr_TReply y).sum x.2)) (fun x => l.length - x.1) (fun x => x.1 ≤ l.length ∧ Pre x.2) ?_ k (0, left) s ⟨by simp, h1⟩ (by simpa using hk) (by simpa using hs)
  rintro ⟨i, v⟩ ⟨hi, hv⟩
  simp only at hi hv
  obtain ⟨hv1, hv2⟩ := id hv
  rcases Nat.lt_or_ge i l.length with h | h
  · have hx : IntKind.i64.wrap ((i : Int) + 1) = ((i + 1 : Nat) : Int) := wrap_id (by omega) (by omega)
    have hwi := hw l[i] (List.getElem_mem h)
    have hne := ne_nil_of_lt h
    have hra := fun fr => rowAt_lt fr l i h
    simp only [List.drop_eq_getElem_cons h, List.map_cons, List.sum_cons]
    by_cases hneg : (msr_TReply l[i] : Int) ≤ v
    · left
      have hv' : ¬ (v - (msr_TReply l[i] : Int) < 0) := by omega
      have hsz := szV_ok hneg
      refine ⟨(i + 1, v - (msr_TReply l[i] : Int)), ?_, by simp only; omega, ⟨by simp only; omega, by simp only; omega, by simp only; omega⟩, ?_⟩
      · simp [lp, loopsOf, Try.f6, mk, h, hne, hra, hx, hv, hwi, hsz, hv', v_szReply]
      · simp only [szV_add _ hneg]
    · right
      have hsz := szV_no hneg
      have hall := szV_no' (b := ((l.drop (i + 1)).map fun y => msr_TReply y).sum) hneg
      rw [hall]
      simp [lp, loopsOf, Try.f6, mk, h, hne, hra, hx, hv, hwi, hsz, R_szReplyS, v_szReply]
  · right
    have e : i = l.length := by omega
    subst e
    have hv' : ¬ (v < 0) := by omega
    simp [lp, loopsOf, Try.f6, mk, R_szReplyS, szV, hv1, hv']
theorem v_szReplyS (d : Nat) (H : Hp) (l : List TReply) (n : Nat) (hn : n = l.length) (left : Int) (h1 : Pre left) (hw : Enc.wf l) :
    runK Try.prog md mk (d + 4) 6 Try.f6 H [.rd (rows false l) n false false, .lit (.int .i64 left)] = some (.lit (.int .i64 (szV (l.length + (l.map fun y => msr_TReply y).sum) left)), H) := by
  subst hn
  rw [runK_s]
  obtain ⟨hw1, hw2⟩ := hw
  obtain ⟨h1, h2⟩ := h1
  have hwr : IntKind.i64.wrap (left - l.length) = left - l.length := wrap_id (by omega) (by omega)
  by_cases h : (l.length : Int) ≤ left
  · have h' : ¬ (left - l.length < 0) := by omega
    have h3 : Pre (left - l.length) := ⟨by omega, by omega⟩
    have hloop := fun (D : Drawn) (s : St) => l_szReplyS l d D fuel (left - l.length) h3 hw1 fuel (by unfold fuel; omega) (by omega) s
    simp [lp, loopsOf, Try.f6, mk] at hloop
    rw [szV_add _ h]
    by_cases hs : szV (l.map fun y => msr_TReply y).sum (left - l.length) < 0
    · have hm := szV_neg hs
      simp [Try.f6, mk, hwr, h, h', hloop, R_szReplyS, hs, hm]
    · simp [Try.f6, mk, hwr, h, h', hloop, R_szReplyS, hs]
  · have h' : left - l.length < 0 := by omega
    have hno := szV_no' (b := (l.map fun y => msr_TReply y).sum) h
    simp [Try.f6, mk, hwr, h, h', hno]
theorem wf_TApplied (x : TApplied) : Enc.wf x = (Enc.wf x.Node ∧ Enc.wf x.Term ∧ Enc.wf x.Index ∧ Enc.wf x.Entry ∧ True) := rfl
theorem wf_TEntry (x : TEntry) : Enc.wf x = (Enc.wf x.Term ∧ Enc.wf x.Kind ∧ Enc.wf x.Data ∧ True) := rfl
def msr_TEntry (x : TEntry) : Nat := x.Data.size
set_option maxHeartbeats 1000000 in
theorem v_szEntry (d : Nat) (H : Hp) (a_Term : Int) (a_Kind : Int) (a_Data : ByteArray)  (left : Int) (h1 : Pre left) (hw : Enc.wf (⟨a_Term, a_Kind, a_Data⟩ : TEntry)) :
    runK Try.prog md mk d 39 Try.f39 H [.agg [.lit (.int .i64 a_Term), .lit (.int .i64 a_Kind), .lit (.string a_Data)], .lit (.int .i64 left)] = some (.lit (.int .i64 (szV (msr_TEntry (⟨a_Term, a_Kind, a_Data⟩ : TEntry)) left)), H) := by
  rw [runK_s]
  rw [wf_TEntry] at hw
  simp only at hw
  obtain ⟨_, _, w2, _⟩ := hw
  obtain ⟨k1, k2⟩ := id h1
  simp only [msr_TEntry]
  have x2 : a_Data.size ≤ 9223372036854775807 := w2
  obtain ⟨m0, e0⟩ : ∃ m, m = a_Data.size := ⟨_, rfl⟩
  rw [← e0]
  by_cases c0 : (m0 : Int) ≤ left
  · have q0 : ¬ (left - (m0 : Int) < 0) := by omega
    have r0 : IntKind.i64.wrap (left - (m0 : Int)) = left - (m0 : Int) := wrap_id (by omega) (by omega)
    have t0 : Pre (left - (m0 : Int)) := ⟨by omega, by omega⟩
    have hall : szV (m0) left = left - (m0 : Int) := szV_ok' (by omega) (by omega)
    simp [Try.f39, mk, h1, hall, x2, ← e0, q0, r0, t0]
  · have q0 : left - (m0 : Int) < 0 := by omega
    have r0 : IntKind.i64.wrap (left - (m0 : Int)) = left - (m0 : Int) := wrap_id (by omega) (by omega)
    have hall : szV (m0) left = -1 := szV_no (by omega)
    simp [Try.f39, mk, h1, hall, x2, ← e0, q0, r0]
def msr_TApplied (x : TApplied) : Nat := msr_TEntry x.Entry
set_option maxHeartbeats 1000000 in
theorem v_szApplied (d : Nat) (H : Hp) (a_Node : Int) (a_Term : Int) (a_Index : Int) (a_Entry_Term : Int) (a_Entry_Kind : Int) (a_Entry_Data : ByteArray)  (left : Int) (h1 : Pre left) (hw : Enc.wf (⟨a_Node, a_Term, a_Index, (⟨a_Entry_Term, a_Entry_Kind, a_Entry_Data⟩ : TEntry)⟩ : TApplied)) :
    runK Try.prog md mk (d + 1) 25 Try.f25 H [.agg [.lit (.int .i64 a_Node), .lit (.int .i64 a_Term), .lit (.int .i64 a_Index), .lit (.int .i64 a_Entry_Term), .lit (.int .i64 a_Entry_Kind), .lit (.string a_Entry_Data)], .lit (.int .i64 left)] = some (.lit (.int .i64 (szV (msr_TApplied (⟨a_Node, a_Term, a_Index, (⟨a_Entry_Term, a_Entry_Kind, a_Entry_Data⟩ : TEntry)⟩ : TApplied)) left)), H) := by
  rw [runK_s]
  rw [wf_TApplied] at hw
  simp only at hw
  obtain ⟨_, _, _, w3, _⟩ := hw
  obtain ⟨k1, k2⟩ := id h1
  simp only [msr_TApplied]
  have x3 := w3
  obtain ⟨m0, e0⟩ : ∃ m, m = msr_TEntry (⟨a_Entry_Term, a_Entry_Kind, a_Entry_Data⟩ : TEntry) := ⟨_, rfl⟩
  rw [← e0]
  by_cases c0 : (m0 : Int) ≤ left
  · have q0 : ¬ (left - (m0 : Int) < 0) := by omega
    have r0 := szV_ok c0
    have t0 : Pre (left - (m0 : Int)) := ⟨by omega, by omega⟩
    have hall : szV (m0) left = left - (m0 : Int) := szV_ok' (by omega) (by omega)
    simp [Try.f25, mk, h1, hall, x3, ← e0, q0, r0, t0, v_szEntry]
  · have r0 := szV_no c0
    have hall : szV (m0) left = -1 := szV_no (by omega)
    simp [Try.f25, mk, h1, hall, x3, ← e0, r0, v_szEntry]
def R_szAppliedS (x : Int) : Ex × St := if x < 0 then (.ret, ⟨[.bot, .bot, .bot, .bot, .lit (.int .i64 (-1)), .bot, .bot, .bot, .bot, .bot, .bot, .bot, .bot, .bot, .bot, .bot, .bot, .bot, .bot, .bot, .bot, .bot, .bot, .bot, .bot, .bot, .bot], []⟩) else (.exit 0, ⟨[.bot, .lit (.int .i64 x), .bot, .bot, .bot, .bot, .bot, .bot, .bot, .bot, .bot, .bot, .bot, .bot, .bot, .bot, .bot, .bot, .bot, .bot, .bot, .bot, .bot, .bot, .bot, .bot, .bot], []⟩)
set_option maxHeartbeats 1000000 in
theorem l_szAppliedS (l : List TApplied) (d : Nat) (D : Drawn) (n : Nat) (left : Int) (h1 : Pre left) (hw : ∀ x ∈ l, Enc.wf x) (k : Nat) (hk : l.length < k) (hl : l.length ≤ 1048576) (s : St)
    (hs : shrink (mk 11 5).1 0 s = ⟨[.rd (rows true l) l.length false false, .lit (.int .i64 left), .bot, .bot, .bot, .lit (.int .i64 0), .bot, .bot, .bot, .bot, .bot, .bot, .bot, .bot, .bot, .bot, .bot, .bot, .bot, .bot, .bot, .bot, .bot, .bot, .bot, .bot, .bot], []⟩) :
    xloop (mk 11 5) 0 (xcode Try.prog (E (d + 2)) (mk 11) D n (lp Try.f11 0)) k s = some (R_szAppliedS (szV (l.map fun y => msr_TApplied y).sum left)) := by
  refine loop_rule (σ := Nat × Int) (fun x => ⟨[.rd (rows true l) l.length false false, .lit (.int .i64 x.2), .bot, .bot, .bot, .lit (.int .i64 x.1), .bot, .bot, .bot, .bot, .bot, .bot, .bot, .bot, .bot, .bot, .bot, .bot, .bot, .bot, .bot, .bot, .bot, .bot, .bot, .bot, .bot], []⟩)
    (fun x => R_szAppliedS (szV ((l.drop x.1).map fun y => msr_TApplied y).sum x.2)) (fun x => l.length - x.1) (fun x => x.1 ≤ l.length ∧ Pre x.2) ?_ k (0, left) s ⟨by simp, h1⟩ (by simpa using hk) (by simpa using hs)
  rintro ⟨i, v⟩ ⟨hi, hv⟩
  simp only at hi hv
  obtain ⟨hv1, hv2⟩ := id hv
  rcases Nat.lt_or_ge i l.length with h | h
  · have hx : IntKind.i64.wrap ((i : Int) + 1) = ((i + 1 : Nat) : Int) := wrap_id (by omega) (by omega)
    have hwi := hw l[i] (List.getElem_mem h)
    have hne := ne_nil_of_lt h
    have hra := fun fr => rowAt_lt fr l i h
    simp only [List.drop_eq_getElem_cons h, List.map_cons, List.sum_cons]
    by_cases hneg : (msr_TApplied l[i] : Int) ≤ v
    · left
      have hv' : ¬ (v - (msr_TApplied l[i] : Int) < 0) := by omega
      have hsz := szV_ok hneg
      refine ⟨(i + 1, v - (msr_TApplied l[i] : Int)), ?_, by simp only; omega, ⟨by simp only; omega, by simp only; omega, by simp only; omega⟩, ?_⟩
      · simp [lp, loopsOf, Try.f11, mk, h, hne, hra, hx, hv, hwi, hsz, hv', v_szApplied]
      · simp only [szV_add _ hneg]
    · right
      have hsz := szV_no hneg
      have hall := szV_no' (b := ((l.drop (i + 1)).map fun y => msr_TApplied y).sum) hneg
      rw [hall]
      simp [lp, loopsOf, Try.f11, mk, h, hne, hra, hx, hv, hwi, hsz, R_szAppliedS, v_szApplied]
  · right
    have e : i = l.length := by omega
    subst e
    have hv' : ¬ (v < 0) := by omega
    simp [lp, loopsOf, Try.f11, mk, R_szAppliedS, szV, hv1, hv']
theorem v_szAppliedS (d : Nat) (H : Hp) (l : List TApplied) (n : Nat) (hn : n = l.length) (left : Int) (h1 : Pre left) (hw : Enc.wf l) :
    runK Try.prog md mk (d + 2) 11 Try.f11 H [.rd (rows true l) n false false, .lit (.int .i64 left)] = some (.lit (.int .i64 (szV (l.length + (l.map fun y => msr_TApplied y).sum) left)), H) := by
  subst hn
  rw [runK_s]
  obtain ⟨hw1, hw2⟩ := hw
  obtain ⟨h1, h2⟩ := h1
  have hwr : IntKind.i64.wrap (left - l.length) = left - l.length := wrap_id (by omega) (by omega)
  by_cases h : (l.length : Int) ≤ left
  · have h' : ¬ (left - l.length < 0) := by omega
    have h3 : Pre (left - l.length) := ⟨by omega, by omega⟩
    have hloop := fun (D : Drawn) (s : St) => l_szAppliedS l d D fuel (left - l.length) h3 hw1 fuel (by unfold fuel; omega) (by omega) s
    simp [lp, loopsOf, Try.f11, mk] at hloop
    rw [szV_add _ h]
    by_cases hs : szV (l.map fun y => msr_TApplied y).sum (left - l.length) < 0
    · have hm := szV_neg hs
      simp [Try.f11, mk, hwr, h, h', hloop, R_szAppliedS, hs, hm]
    · simp [Try.f11, mk, hwr, h, h', hloop, R_szAppliedS, hs]
  · have h' : left - l.length < 0 := by omega
    have hno := szV_no' (b := (l.map fun y => msr_TApplied y).sum) h
    simp [Try.f11, mk, hwr, h, h', hno]
def z_toIntS : List PV := [.lit (.int .i64 0)]
set_option maxHeartbeats 1000000 in
theorem l_toIntS (l : List Int) (d : Nat) (D : Drawn) (n : Nat) (k : Nat) (hk : l.length < k) (hl : l.length ≤ 1048576) (s : St)
    (hs : shrink (mk 45 3).1 1 s = ⟨[.rd (rows true l) l.length false false, .bot, .bot, .sl 0 0 0 l.length, .lit (.int .i64 0), .bot, .bot, .bot, .bot, .bot, .bot, .bot, .bot, .bot, .bot, .bot, .bot, .bot, .bot, .bot, .bot, .bot], [some ⟨3, 0, zs l.length z_toIntS⟩]⟩) :
    xloop (mk 45 3) 1 (xcode Try.prog (E d) (mk 45) D n (lp Try.f45 0)) k s = some (.exit 0, ⟨[.bot, .bot, .bot, .sl 0 0 0 l.length, .bot, .bot, .bot, .bot, .bot, .bot, .bot, .bot, .bot, .bot, .bot, .bot, .bot, .bot, .bot, .bot, .bot, .bot], [some ⟨3, 0, rows true l⟩]⟩) := by
  refine loop_rule (σ := Nat) (fun i => ⟨[.rd (rows true l) l.length false false, .bot, .bot, .sl 0 0 0 l.length, .lit (.int .i64 i), .bot, .bot, .bot, .bot, .bot, .bot, .bot, .bot, .bot, .bot, .bot, .bot, .bot, .bot, .bot, .bot, .bot], [some ⟨3, 0, rows true (l.take i) ++ zs (l.length - i) z_toIntS⟩]⟩)
    (fun _ => _) (fun i => l.length - i) (fun i => i ≤ l.length) ?_ k 0 s (by simp) (by simpa using hk) (by simpa using hs)
  intro i hi
  have hz : belowL 1 z_toIntS = true := by simp [z_toIntS]
  rcases Nat.lt_or_ge i l.length with h | h
  · left
    have hx : l[i]? = some l[i] := List.getElem?_eq_getElem h
    have hw : IntKind.i64.wrap ((i : Int) + 1) = ((i + 1 : Nat) : Int) := wrap_id (by omega) (by omega)
    have hne := ne_nil_of_lt h
    have hra := fun fr => rowAt_lt fr l i h
    have ho := over_push true (l.take i) l[i] (l.length - (i + 1)) z_toIntS rfl i (by simp; omega)
    rw [take_push l i _ hx, show l.length - (i + 1) + 1 = l.length - i by omega] at ho
    simp only [cells_1, cells_S, cells_B] at ho
    have hzl : z_toIntS.length = 1 := rfl
    have h2 : i < min i l.length + (l.length - i) := by omega
    have h3 : i + 1 ≤ min i l.length * 1 + (l.length - i) * 1 := by omega
    have h4 : i + 1 ≤ min i l.length + (l.length - i) := by omega
    refine ⟨i + 1, ?_, by omega, by omega, rfl⟩
    simp [lp, loopsOf, Try.f45, mk, h, hne, hra, hw, ho, h2, h3, h4, hz, hzl]
  · right
    have e : i = l.length := by omega
    subst e
    refine ⟨?_, by simp⟩
    simp [lp, loopsOf, Try.f45, mk]
@[simp] theorem v_toIntS (d : Nat) (H : Hp) (l : List Int) (n : Nat) (hn : n = l.length) (hl : l.length ≤ 1048576) :
    runK Try.prog md mk d 45 Try.f45 H [.rd (rows true l) n false false] = some (.rd (rows true l) l.length false true, H) := by
  subst hn
  rw [runK_s]
  have h1 : (l.length : Int) * 8 ≤ 140737488355328 ∧ (l.length : Int) ≤ 9223372036854775807 := by omega
  have h := fun (D : Drawn) (s : St) => l_toIntS l d D fuel fuel (by unfold fuel; omega) hl s
  simp [lp, loopsOf, Try.f45, mk, z_toIntS] at h
  simp [Try.f45, mk, h1, zs_eq, zs_one, h]
def Small_TEvent (x : TEvent) : Prop := (x.Levels.length ≤ 1048576) ∧ (x.Prev.length ≤ 1048576)
def Lens_TEvent (x : TEvent) : Prop := (x.Levels.length ≤ 9223372036854775807) ∧ (x.Prev.length ≤ 9223372036854775807)
theorem small_TEvent (x : TEvent) (h : msr_TEvent x ≤ 1048576) : Small_TEvent x := by
  simp only [msr_TEvent] at h
  exact ⟨by omega, by omega⟩
theorem lens_TEvent (x : TEvent) (h : Small_TEvent x) : Lens_TEvent x := by
  unfold Small_TEvent at h
  exact ⟨Nat.le_trans h.1 (by decide), Nat.le_trans h.2 (by decide)⟩
set_option maxHeartbeats 1000000 in
@[simp] theorem v_toEvent (d : Nat) (H : Hp) (a_Id : Int) (a_Kind : Int) (a_Sender : Int) (a_User : Int) (a_Member : Int) (a_Levels : List Int) (a_Text : ByteArray) (a_Prev : List Int) (a_Depth : Int) (n_a_Levels : Nat) (hn_a_Levels : n_a_Levels = a_Levels.length) (n_a_Prev : Nat) (hn_a_Prev : n_a_Prev = a_Prev.length) (hs : Small_TEvent (⟨a_Id, a_Kind, a_Sender, a_User, a_Member, a_Levels, a_Text, a_Prev, a_Depth⟩ : TEvent)) :
    runK Try.prog md mk (d + 1) 42 Try.f42 H [.agg [.lit (.int .i64 a_Id), .lit (.int .i64 a_Kind), .lit (.int .i64 a_Sender), .lit (.int .i64 a_User), .lit (.int .i64 a_Member), .rd (rows true a_Levels) n_a_Levels false false, .lit (.string a_Text), .rd (rows true a_Prev) n_a_Prev false false, .lit (.int .i64 a_Depth)]] = some (.agg [.lit (.int .i64 a_Id), .lit (.int .i64 a_Kind), .lit (.int .i64 a_Sender), .lit (.int .i64 a_User), .lit (.int .i64 a_Member), .rd (rows true a_Levels) a_Levels.length false true, .lit (.string a_Text), .rd (rows true a_Prev) a_Prev.length false true, .lit (.int .i64 a_Depth)], H) := by
  subst hn_a_Levels hn_a_Prev
  rw [runK_s]
  rw [Small_TEvent] at hs
  obtain ⟨s0, s1⟩ := hs
  simp [Try.f42, mk, s0, s1, v_toIntS, v_toIntS]
def Small_TCommand (x : TCommand) : Prop := (Small_TEvent x.Event)
def Lens_TCommand (x : TCommand) : Prop := (Lens_TEvent x.Event)
theorem small_TCommand (x : TCommand) (h : msr_TCommand x ≤ 1048576) : Small_TCommand x := by
  simp only [msr_TCommand] at h
  exact (show Small_TEvent x.Event from small_TEvent _ (by omega))
theorem lens_TCommand (x : TCommand) (h : Small_TCommand x) : Lens_TCommand x := by
  unfold Small_TCommand at h
  exact (show Lens_TEvent x.Event from lens_TEvent _ h)
set_option maxHeartbeats 1000000 in
@[simp] theorem v_toCommand (d : Nat) (H : Hp) (a_Op : Int) (a_Token : Int) (a_Seq : Int) (a_Event_Id : Int) (a_Event_Kind : Int) (a_Event_Sender : Int) (a_Event_User : Int) (a_Event_Member : Int) (a_Event_Levels : List Int) (a_Event_Text : ByteArray) (a_Event_Prev : List Int) (a_Event_Depth : Int) (a_Dest : Int) (a_Upto : Int) (n_a_Event_Levels : Nat) (hn_a_Event_Levels : n_a_Event_Levels = a_Event_Levels.length) (n_a_Event_Prev : Nat) (hn_a_Event_Prev : n_a_Event_Prev = a_Event_Prev.length) (hs : Small_TCommand (⟨a_Op, a_Token, a_Seq, (⟨a_Event_Id, a_Event_Kind, a_Event_Sender, a_Event_User, a_Event_Member, a_Event_Levels, a_Event_Text, a_Event_Prev, a_Event_Depth⟩ : TEvent), a_Dest, a_Upto⟩ : TCommand)) :
    runK Try.prog md mk (d + 2) 37 Try.f37 H [.agg [.lit (.int .i64 a_Op), .lit (.int .i64 a_Token), .lit (.int .i64 a_Seq), .lit (.int .i64 a_Event_Id), .lit (.int .i64 a_Event_Kind), .lit (.int .i64 a_Event_Sender), .lit (.int .i64 a_Event_User), .lit (.int .i64 a_Event_Member), .rd (rows true a_Event_Levels) n_a_Event_Levels false false, .lit (.string a_Event_Text), .rd (rows true a_Event_Prev) n_a_Event_Prev false false, .lit (.int .i64 a_Event_Depth), .lit (.int .i64 a_Dest), .lit (.int .i64 a_Upto)]] = some (.agg [.lit (.int .i64 a_Op), .lit (.int .i64 a_Token), .lit (.int .i64 a_Seq), .lit (.int .i64 a_Event_Id), .lit (.int .i64 a_Event_Kind), .lit (.int .i64 a_Event_Sender), .lit (.int .i64 a_Event_User), .lit (.int .i64 a_Event_Member), .rd (rows true a_Event_Levels) a_Event_Levels.length false true, .lit (.string a_Event_Text), .rd (rows true a_Event_Prev) a_Event_Prev.length false true, .lit (.int .i64 a_Event_Depth), .lit (.int .i64 a_Dest), .lit (.int .i64 a_Upto)], H) := by
  subst hn_a_Event_Levels hn_a_Event_Prev
  rw [runK_s]
  rw [Small_TCommand] at hs
  have s0 := hs
  simp [Try.f37, mk, s0, v_toEvent]
def Small_TReply (x : TReply) : Prop := (Small_TCommand x.Command)
def Lens_TReply (x : TReply) : Prop := (Lens_TCommand x.Command)
theorem small_TReply (x : TReply) (h : msr_TReply x ≤ 1048576) : Small_TReply x := by
  simp only [msr_TReply] at h
  exact (show Small_TCommand x.Command from small_TCommand _ (by omega))
theorem lens_TReply (x : TReply) (h : Small_TReply x) : Lens_TReply x := by
  unfold Small_TReply at h
  exact (show Lens_TCommand x.Command from lens_TCommand _ h)
set_option maxHeartbeats 1000000 in
@[simp] theorem v_toReply (d : Nat) (H : Hp) (a_Call : Int) (a_When : Int) (a_Index : Int) (a_Command_Op : Int) (a_Command_Token : Int) (a_Command_Seq : Int) (a_Command_Event_Id : Int) (a_Command_Event_Kind : Int) (a_Command_Event_Sender : Int) (a_Command_Event_User : Int) (a_Command_Event_Member : Int) (a_Command_Event_Levels : List Int) (a_Command_Event_Text : ByteArray) (a_Command_Event_Prev : List Int) (a_Command_Event_Depth : Int) (a_Command_Dest : Int) (a_Command_Upto : Int) (a_Text : ByteArray) (n_a_Command_Event_Levels : Nat) (hn_a_Command_Event_Levels : n_a_Command_Event_Levels = a_Command_Event_Levels.length) (n_a_Command_Event_Prev : Nat) (hn_a_Command_Event_Prev : n_a_Command_Event_Prev = a_Command_Event_Prev.length) (hs : Small_TReply (⟨a_Call, a_When, a_Index, (⟨a_Command_Op, a_Command_Token, a_Command_Seq, (⟨a_Command_Event_Id, a_Command_Event_Kind, a_Command_Event_Sender, a_Command_Event_User, a_Command_Event_Member, a_Command_Event_Levels, a_Command_Event_Text, a_Command_Event_Prev, a_Command_Event_Depth⟩ : TEvent), a_Command_Dest, a_Command_Upto⟩ : TCommand), a_Text⟩ : TReply)) :
    runK Try.prog md mk (d + 3) 23 Try.f23 H [.agg [.lit (.int .i64 a_Call), .lit (.int .i64 a_When), .lit (.int .i64 a_Index), .lit (.int .i64 a_Command_Op), .lit (.int .i64 a_Command_Token), .lit (.int .i64 a_Command_Seq), .lit (.int .i64 a_Command_Event_Id), .lit (.int .i64 a_Command_Event_Kind), .lit (.int .i64 a_Command_Event_Sender), .lit (.int .i64 a_Command_Event_User), .lit (.int .i64 a_Command_Event_Member), .rd (rows true a_Command_Event_Levels) n_a_Command_Event_Levels false false, .lit (.string a_Command_Event_Text), .rd (rows true a_Command_Event_Prev) n_a_Command_Event_Prev false false, .lit (.int .i64 a_Command_Event_Depth), .lit (.int .i64 a_Command_Dest), .lit (.int .i64 a_Command_Upto), .lit (.string a_Text)]] = some (.agg [.lit (.int .i64 a_Call), .lit (.int .i64 a_When), .lit (.int .i64 a_Index), .lit (.int .i64 a_Command_Op), .lit (.int .i64 a_Command_Token), .lit (.int .i64 a_Command_Seq), .lit (.int .i64 a_Command_Event_Id), .lit (.int .i64 a_Command_Event_Kind), .lit (.int .i64 a_Command_Event_Sender), .lit (.int .i64 a_Command_Event_User), .lit (.int .i64 a_Command_Event_Member), .rd (rows true a_Command_Event_Levels) a_Command_Event_Levels.length false true, .lit (.string a_Command_Event_Text), .rd (rows true a_Command_Event_Prev) a_Command_Event_Prev.length false true, .lit (.int .i64 a_Command_Event_Depth), .lit (.int .i64 a_Command_Dest), .lit (.int .i64 a_Command_Upto), .lit (.string a_Text)], H) := by
  subst hn_a_Command_Event_Levels hn_a_Command_Event_Prev
  rw [runK_s]
  rw [Small_TReply] at hs
  have s0 := hs
  simp [Try.f23, mk, s0, v_toCommand]
def z_toReplyS : List PV := [.lit (.int .i64 0), .lit (.int .i64 0), .lit (.int .i64 0), .lit (.int .i64 0), .lit (.int .i64 0), .lit (.int .i64 0), .lit (.int .i64 0), .lit (.int .i64 0), .lit (.int .i64 0), .lit (.int .i64 0), .lit (.int .i64 0), .rd [] 0 true true, .lit (.string ⟨#[]⟩), .rd [] 0 true true, .lit (.int .i64 0), .lit (.int .i64 0), .lit (.int .i64 0), .lit (.string ⟨#[]⟩)]
set_option maxHeartbeats 1000000 in
theorem l_toReplyS (l : List TReply) (d : Nat) (D : Drawn) (n : Nat) (k : Nat) (hk : l.length < k) (hl : l.length ≤ 1048576) (hsm : ∀ y ∈ l, Small_TReply y) (s : St)
    (hs : shrink (mk 8 3).1 1 s = ⟨[.rd (rows false l) l.length false false, .bot, .bot, .sl 0 0 0 l.length, .lit (.int .i64 0), .bot, .bot, .bot, .bot, .bot, .bot, .bot, .bot, .bot, .bot, .bot, .bot, .bot, .bot, .bot, .bot, .bot, .bot], [some ⟨53, 0, zs l.length z_toReplyS⟩]⟩) :
    xloop (mk 8 3) 1 (xcode Try.prog (E (d + 4)) (mk 8) D n (lp Try.f8 0)) k s = some (.exit 0, ⟨[.bot, .bot, .bot, .sl 0 0 0 l.length, .bot, .bot, .bot, .bot, .bot, .bot, .bot, .bot, .bot, .bot, .bot, .bot, .bot, .bot, .bot, .bot, .bot, .bot, .bot], [some ⟨53, 0, rows true l⟩]⟩) := by
  refine loop_rule (σ := Nat) (fun i => ⟨[.rd (rows false l) l.length false false, .bot, .bot, .sl 0 0 0 l.length, .lit (.int .i64 i), .bot, .bot, .bot, .bot, .bot, .bot, .bot, .bot, .bot, .bot, .bot, .bot, .bot, .bot, .bot, .bot, .bot, .bot], [some ⟨53, 0, rows true (l.take i) ++ zs (l.length - i) z_toReplyS⟩]⟩)
    (fun _ => _) (fun i => l.length - i) (fun i => i ≤ l.length) ?_ k 0 s (by simp) (by simpa using hk) (by simpa using hs)
  intro i hi
  have hz : belowL 1 z_toReplyS = true := by simp [z_toReplyS]
  rcases Nat.lt_or_ge i l.length with h | h
  · left
    have hx : l[i]? = some l[i] := List.getElem?_eq_getElem h
    have hw : IntKind.i64.wrap ((i : Int) + 1) = ((i + 1 : Nat) : Int) := wrap_id (by omega) (by omega)
    have hne := ne_nil_of_lt h
    have hra := fun fr => rowAt_lt fr l i h
    have hsi := hsm l[i] (List.getElem_mem h)
    have ho := over_push true (l.take i) l[i] (l.length - (i + 1)) z_toReplyS rfl (i * 18) (by simp; omega)
    rw [take_push l i _ hx, show l.length - (i + 1) + 1 = l.length - i by omega] at ho
    simp only [cells_1, cells_S, cells_B, cells_TReply] at ho
    have hzl : z_toReplyS.length = 18 := rfl
    have h2 : i < min i l.length + (l.length - i) := by omega
    have h3 : i * 18 + 18 ≤ min i l.length * 18 + (l.length - i) * 18 := by omega
    have h4 : i + 1 ≤ min i l.length + (l.length - i) := by omega
    refine ⟨i + 1, ?_, by omega, by omega, rfl⟩
    simp [lp, loopsOf, Try.f8, mk, h, hne, hra, hw, ho, h2, h3, h4, hz, hzl, v_toReply, hsi]
  · right
    have e : i = l.length := by omega
    subst e
    refine ⟨?_, by simp⟩
    simp [lp, loopsOf, Try.f8, mk]
@[simp] theorem v_toReplyS (d : Nat) (H : Hp) (l : List TReply) (n : Nat) (hn : n = l.length) (hl : l.length ≤ 1048576) (hsm : ∀ y ∈ l, Small_TReply y) :
    runK Try.prog md mk (d + 4) 8 Try.f8 H [.rd (rows false l) n false false] = some (.rd (rows true l) l.length false true, H) := by
  subst hn
  rw [runK_s]
  have h1 : (l.length : Int) * 192 ≤ 140737488355328 ∧ (l.length : Int) ≤ 9223372036854775807 := by omega
  have h := fun (D : Drawn) (s : St) => l_toReplyS l d D fuel fuel (by unfold fuel; omega) hl hsm s
  simp [lp, loopsOf, Try.f8, mk, z_toReplyS] at h
  simp [Try.f8, mk, h1, zs_eq, zs_one, h]
set_option maxHeartbeats 1000000 in
@[simp] theorem v_toEntry (d : Nat) (H : Hp) (a_Term : Int) (a_Kind : Int) (a_Data : ByteArray)  :
    runK Try.prog md mk d 40 Try.f40 H [.agg [.lit (.int .i64 a_Term), .lit (.int .i64 a_Kind), .lit (.string a_Data)]] = some (.agg [.lit (.int .i64 a_Term), .lit (.int .i64 a_Kind), .lit (.string a_Data)], H) := by
  rw [runK_s]
  simp [Try.f40, mk]
set_option maxHeartbeats 1000000 in
@[simp] theorem v_toApplied (d : Nat) (H : Hp) (a_Node : Int) (a_Term : Int) (a_Index : Int) (a_Entry_Term : Int) (a_Entry_Kind : Int) (a_Entry_Data : ByteArray)  :
    runK Try.prog md mk (d + 1) 27 Try.f27 H [.agg [.lit (.int .i64 a_Node), .lit (.int .i64 a_Term), .lit (.int .i64 a_Index), .lit (.int .i64 a_Entry_Term), .lit (.int .i64 a_Entry_Kind), .lit (.string a_Entry_Data)]] = some (.agg [.lit (.int .i64 a_Node), .lit (.int .i64 a_Term), .lit (.int .i64 a_Index), .lit (.int .i64 a_Entry_Term), .lit (.int .i64 a_Entry_Kind), .lit (.string a_Entry_Data)], H) := by
  rw [runK_s]
  simp [Try.f27, mk, v_toEntry]
def z_toAppliedS : List PV := [.lit (.int .i64 0), .lit (.int .i64 0), .lit (.int .i64 0), .lit (.int .i64 0), .lit (.int .i64 0), .lit (.string ⟨#[]⟩)]
set_option maxHeartbeats 1000000 in
theorem l_toAppliedS (l : List TApplied) (d : Nat) (D : Drawn) (n : Nat) (k : Nat) (hk : l.length < k) (hl : l.length ≤ 1048576) (s : St)
    (hs : shrink (mk 13 3).1 1 s = ⟨[.rd (rows true l) l.length false false, .bot, .bot, .sl 0 0 0 l.length, .lit (.int .i64 0), .bot, .bot, .bot, .bot, .bot, .bot, .bot, .bot, .bot, .bot, .bot, .bot, .bot, .bot, .bot, .bot, .bot, .bot], [some ⟨64, 0, zs l.length z_toAppliedS⟩]⟩) :
    xloop (mk 13 3) 1 (xcode Try.prog (E (d + 2)) (mk 13) D n (lp Try.f13 0)) k s = some (.exit 0, ⟨[.bot, .bot, .bot, .sl 0 0 0 l.length, .bot, .bot, .bot, .bot, .bot, .bot, .bot, .bot, .bot, .bot, .bot, .bot, .bot, .bot, .bot, .bot, .bot, .bot, .bot], [some ⟨64, 0, rows true l⟩]⟩) := by
  refine loop_rule (σ := Nat) (fun i => ⟨[.rd (rows true l) l.length false false, .bot, .bot, .sl 0 0 0 l.length, .lit (.int .i64 i), .bot, .bot, .bot, .bot, .bot, .bot, .bot, .bot, .bot, .bot, .bot, .bot, .bot, .bot, .bot, .bot, .bot, .bot], [some ⟨64, 0, rows true (l.take i) ++ zs (l.length - i) z_toAppliedS⟩]⟩)
    (fun _ => _) (fun i => l.length - i) (fun i => i ≤ l.length) ?_ k 0 s (by simp) (by simpa using hk) (by simpa using hs)
  intro i hi
  have hz : belowL 1 z_toAppliedS = true := by simp [z_toAppliedS]
  rcases Nat.lt_or_ge i l.length with h | h
  · left
    have hx : l[i]? = some l[i] := List.getElem?_eq_getElem h
    have hw : IntKind.i64.wrap ((i : Int) + 1) = ((i + 1 : Nat) : Int) := wrap_id (by omega) (by omega)
    have hne := ne_nil_of_lt h
    have hra := fun fr => rowAt_lt fr l i h
    have ho := over_push true (l.take i) l[i] (l.length - (i + 1)) z_toAppliedS rfl (i * 6) (by simp; omega)
    rw [take_push l i _ hx, show l.length - (i + 1) + 1 = l.length - i by omega] at ho
    simp only [cells_1, cells_S, cells_B, cells_TApplied] at ho
    have hzl : z_toAppliedS.length = 6 := rfl
    have h2 : i < min i l.length + (l.length - i) := by omega
    have h3 : i * 6 + 6 ≤ min i l.length * 6 + (l.length - i) * 6 := by omega
    have h4 : i + 1 ≤ min i l.length + (l.length - i) := by omega
    refine ⟨i + 1, ?_, by omega, by omega, rfl⟩
    simp [lp, loopsOf, Try.f13, mk, h, hne, hra, hw, ho, h2, h3, h4, hz, hzl, v_toApplied]
  · right
    have e : i = l.length := by omega
    subst e
    refine ⟨?_, by simp⟩
    simp [lp, loopsOf, Try.f13, mk]
@[simp] theorem v_toAppliedS (d : Nat) (H : Hp) (l : List TApplied) (n : Nat) (hn : n = l.length) (hl : l.length ≤ 1048576) :
    runO Try.prog md mk (d + 2) 13 Try.f13 H [.rd (rows true l) n false false] = some (.sl H.length 0 0 l.length, H ++ [some ⟨64, 0, rows true l⟩]) := by
  subst hn
  rw [runO_s]
  have h1 : (l.length : Int) * 56 ≤ 140737488355328 ∧ (l.length : Int) ≤ 9223372036854775807 := by omega
  have h := fun (D : Drawn) (s : St) => l_toAppliedS l d D fuel fuel (by unfold fuel; omega) hl s
  simp [lp, loopsOf, Try.f13, mk, z_toAppliedS] at h
  simp [Try.f13, mk, h1, zs_eq, zs_one, h, ownR, canR, canV, canC]
set_option maxHeartbeats 1000000 in
theorem l_eqIntS (l : List Int) (d : Nat) (n : Nat) (k : Nat) (hk : l.length < k) (hl : l.length ≤ 9223372036854775807) (s : St)
    (hs : shrink (mk 46 4).1 0 s = ⟨[.rd (rows true l) l.length false false, .rd (rows true l) l.length false false, .bot, .bot, .bot, .lit (.int .i64 0), .bot, .bot, .bot, .bot, .bot, .bot, .bot, .bot, .bot, .bot, .bot, .bot, .bot, .bot, .bot, .bot, .bot, .bot, .bot, .bot], []⟩) :
    xloop (mk 46 4) 0 (xcode Try.prog (E d) (mk 46) (drawn Try.prog (E d) (qv md)) n (lp Try.f46 0)) k s = some (.exit 0, ⟨[.bot, .bot, .bot, .bot, .bot, .bot, .bot, .bot, .bot, .bot, .bot, .bot, .bot, .bot, .bot, .bot, .bot, .bot, .bot, .bot, .bot, .bot, .bot, .bot, .bot, .bot], []⟩) := by
  refine loop_rule (σ := Nat) (fun i => ⟨[.rd (rows true l) l.length false false, .rd (rows true l) l.length false false, .bot, .bot, .bot, .lit (.int .i64 i), .bot, .bot, .bot, .bot, .bot, .bot, .bot, .bot, .bot, .bot, .bot, .bot, .bot, .bot, .bot, .bot, .bot, .bot, .bot, .bot], []⟩)
    (fun _ => _) (fun i => l.length - i) (fun i => i ≤ l.length) ?_ k 0 s (by simp) (by simpa using hk) (by simpa using hs)
  intro i hi
  rcases Nat.lt_or_ge i l.length with h | h
  · left
    have hw : IntKind.i64.wrap ((i : Int) + 1) = ((i + 1 : Nat) : Int) := wrap_id (by omega) (by omega)
    have hne := ne_nil_of_lt h
    have hra := fun fr => rowAt_lt fr l i h
    refine ⟨i + 1, ?_, by omega, by omega, rfl⟩
    simp [lp, loopsOf, Try.f46, mk, h, hne, hra, hw]
    rw [x_drawq]
    · simp [h, hne, hra, hw]
    · kernel_rfl
    · kernel_rfl
  · right
    have e : i = l.length := by omega
    subst e
    refine ⟨?_, by simp⟩
    simp [lp, loopsOf, Try.f46, mk]
@[simp] theorem v_eqIntS (d : Nat) (H : Hp) (l : List Int) (n n' : Nat) (hn : n = l.length) (hn' : n' = l.length) (hl : l.length ≤ 9223372036854775807) :
    runK Try.prog md mk d 46 Try.f46 H [.rd (rows true l) n false false, .rd (rows true l) n' false false] = some (.lit (.bool true), H) := by
  subst hn hn'
  rw [runK_s]
  have h := fun (s : St) => l_eqIntS l d fuel fuel (by unfold fuel; omega) hl s
  simp [lp, loopsOf, Try.f46, mk] at h
  simp [Try.f46, mk, h]
set_option maxHeartbeats 1000000 in
@[simp] theorem v_eqEvent (d : Nat) (H : Hp) (a_Id : Int) (a_Kind : Int) (a_Sender : Int) (a_User : Int) (a_Member : Int) (a_Levels : List Int) (a_Text : ByteArray) (a_Prev : List Int) (a_Depth : Int) (n_a_Levels : Nat) (hn_a_Levels : n_a_Levels = a_Levels.length) (n_a_Prev : Nat) (hn_a_Prev : n_a_Prev = a_Prev.length) (m_a_Levels : Nat) (hm_a_Levels : m_a_Levels = a_Levels.length) (m_a_Prev : Nat) (hm_a_Prev : m_a_Prev = a_Prev.length) (hw : Lens_TEvent (⟨a_Id, a_Kind, a_Sender, a_User, a_Member, a_Levels, a_Text, a_Prev, a_Depth⟩ : TEvent)) :
    runK Try.prog md mk (d + 1) 43 Try.f43 H [.agg [.lit (.int .i64 a_Id), .lit (.int .i64 a_Kind), .lit (.int .i64 a_Sender), .lit (.int .i64 a_User), .lit (.int .i64 a_Member), .rd (rows true a_Levels) n_a_Levels false false, .lit (.string a_Text), .rd (rows true a_Prev) n_a_Prev false false, .lit (.int .i64 a_Depth)], .agg [.lit (.int .i64 a_Id), .lit (.int .i64 a_Kind), .lit (.int .i64 a_Sender), .lit (.int .i64 a_User), .lit (.int .i64 a_Member), .rd (rows true a_Levels) m_a_Levels false false, .lit (.string a_Text), .rd (rows true a_Prev) m_a_Prev false false, .lit (.int .i64 a_Depth)]] = some (.lit (.bool true), H) := by
  subst hn_a_Levels hn_a_Prev
  subst hm_a_Levels hm_a_Prev
  rw [runK_s]
  simp only [Lens_TEvent] at hw
  simp [Try.f43, mk, hw, v_eqIntS, v_eqIntS]
set_option maxHeartbeats 1000000 in
@[simp] theorem v_eqCommand (d : Nat) (H : Hp) (a_Op : Int) (a_Token : Int) (a_Seq : Int) (a_Event_Id : Int) (a_Event_Kind : Int) (a_Event_Sender : Int) (a_Event_User : Int) (a_Event_Member : Int) (a_Event_Levels : List Int) (a_Event_Text : ByteArray) (a_Event_Prev : List Int) (a_Event_Depth : Int) (a_Dest : Int) (a_Upto : Int) (n_a_Event_Levels : Nat) (hn_a_Event_Levels : n_a_Event_Levels = a_Event_Levels.length) (n_a_Event_Prev : Nat) (hn_a_Event_Prev : n_a_Event_Prev = a_Event_Prev.length) (m_a_Event_Levels : Nat) (hm_a_Event_Levels : m_a_Event_Levels = a_Event_Levels.length) (m_a_Event_Prev : Nat) (hm_a_Event_Prev : m_a_Event_Prev = a_Event_Prev.length) (hw : Lens_TCommand (⟨a_Op, a_Token, a_Seq, (⟨a_Event_Id, a_Event_Kind, a_Event_Sender, a_Event_User, a_Event_Member, a_Event_Levels, a_Event_Text, a_Event_Prev, a_Event_Depth⟩ : TEvent), a_Dest, a_Upto⟩ : TCommand)) :
    runK Try.prog md mk (d + 2) 38 Try.f38 H [.agg [.lit (.int .i64 a_Op), .lit (.int .i64 a_Token), .lit (.int .i64 a_Seq), .lit (.int .i64 a_Event_Id), .lit (.int .i64 a_Event_Kind), .lit (.int .i64 a_Event_Sender), .lit (.int .i64 a_Event_User), .lit (.int .i64 a_Event_Member), .rd (rows true a_Event_Levels) n_a_Event_Levels false false, .lit (.string a_Event_Text), .rd (rows true a_Event_Prev) n_a_Event_Prev false false, .lit (.int .i64 a_Event_Depth), .lit (.int .i64 a_Dest), .lit (.int .i64 a_Upto)], .agg [.lit (.int .i64 a_Op), .lit (.int .i64 a_Token), .lit (.int .i64 a_Seq), .lit (.int .i64 a_Event_Id), .lit (.int .i64 a_Event_Kind), .lit (.int .i64 a_Event_Sender), .lit (.int .i64 a_Event_User), .lit (.int .i64 a_Event_Member), .rd (rows true a_Event_Levels) m_a_Event_Levels false false, .lit (.string a_Event_Text), .rd (rows true a_Event_Prev) m_a_Event_Prev false false, .lit (.int .i64 a_Event_Depth), .lit (.int .i64 a_Dest), .lit (.int .i64 a_Upto)]] = some (.lit (.bool true), H) := by
  subst hn_a_Event_Levels hn_a_Event_Prev
  subst hm_a_Event_Levels hm_a_Event_Prev
  rw [runK_s]
  simp only [Lens_TCommand] at hw
  simp [Try.f38, mk, hw, v_eqEvent]
set_option maxHeartbeats 1000000 in
@[simp] theorem v_eqReply (d : Nat) (H : Hp) (a_Call : Int) (a_When : Int) (a_Index : Int) (a_Command_Op : Int) (a_Command_Token : Int) (a_Command_Seq : Int) (a_Command_Event_Id : Int) (a_Command_Event_Kind : Int) (a_Command_Event_Sender : Int) (a_Command_Event_User : Int) (a_Command_Event_Member : Int) (a_Command_Event_Levels : List Int) (a_Command_Event_Text : ByteArray) (a_Command_Event_Prev : List Int) (a_Command_Event_Depth : Int) (a_Command_Dest : Int) (a_Command_Upto : Int) (a_Text : ByteArray) (n_a_Command_Event_Levels : Nat) (hn_a_Command_Event_Levels : n_a_Command_Event_Levels = a_Command_Event_Levels.length) (n_a_Command_Event_Prev : Nat) (hn_a_Command_Event_Prev : n_a_Command_Event_Prev = a_Command_Event_Prev.length) (m_a_Command_Event_Levels : Nat) (hm_a_Command_Event_Levels : m_a_Command_Event_Levels = a_Command_Event_Levels.length) (m_a_Command_Event_Prev : Nat) (hm_a_Command_Event_Prev : m_a_Command_Event_Prev = a_Command_Event_Prev.length) (hw : Lens_TReply (⟨a_Call, a_When, a_Index, (⟨a_Command_Op, a_Command_Token, a_Command_Seq, (⟨a_Command_Event_Id, a_Command_Event_Kind, a_Command_Event_Sender, a_Command_Event_User, a_Command_Event_Member, a_Command_Event_Levels, a_Command_Event_Text, a_Command_Event_Prev, a_Command_Event_Depth⟩ : TEvent), a_Command_Dest, a_Command_Upto⟩ : TCommand), a_Text⟩ : TReply)) :
    runK Try.prog md mk (d + 3) 24 Try.f24 H [.agg [.lit (.int .i64 a_Call), .lit (.int .i64 a_When), .lit (.int .i64 a_Index), .lit (.int .i64 a_Command_Op), .lit (.int .i64 a_Command_Token), .lit (.int .i64 a_Command_Seq), .lit (.int .i64 a_Command_Event_Id), .lit (.int .i64 a_Command_Event_Kind), .lit (.int .i64 a_Command_Event_Sender), .lit (.int .i64 a_Command_Event_User), .lit (.int .i64 a_Command_Event_Member), .rd (rows true a_Command_Event_Levels) n_a_Command_Event_Levels false false, .lit (.string a_Command_Event_Text), .rd (rows true a_Command_Event_Prev) n_a_Command_Event_Prev false false, .lit (.int .i64 a_Command_Event_Depth), .lit (.int .i64 a_Command_Dest), .lit (.int .i64 a_Command_Upto), .lit (.string a_Text)], .agg [.lit (.int .i64 a_Call), .lit (.int .i64 a_When), .lit (.int .i64 a_Index), .lit (.int .i64 a_Command_Op), .lit (.int .i64 a_Command_Token), .lit (.int .i64 a_Command_Seq), .lit (.int .i64 a_Command_Event_Id), .lit (.int .i64 a_Command_Event_Kind), .lit (.int .i64 a_Command_Event_Sender), .lit (.int .i64 a_Command_Event_User), .lit (.int .i64 a_Command_Event_Member), .rd (rows true a_Command_Event_Levels) m_a_Command_Event_Levels false false, .lit (.string a_Command_Event_Text), .rd (rows true a_Command_Event_Prev) m_a_Command_Event_Prev false false, .lit (.int .i64 a_Command_Event_Depth), .lit (.int .i64 a_Command_Dest), .lit (.int .i64 a_Command_Upto), .lit (.string a_Text)]] = some (.lit (.bool true), H) := by
  subst hn_a_Command_Event_Levels hn_a_Command_Event_Prev
  subst hm_a_Command_Event_Levels hm_a_Command_Event_Prev
  rw [runK_s]
  simp only [Lens_TReply] at hw
  simp [Try.f24, mk, hw, v_eqCommand]
set_option maxHeartbeats 1000000 in
theorem l_eqReplyS (l : List TReply) (d : Nat) (n : Nat) (k : Nat) (hk : l.length < k) (hl : l.length ≤ 9223372036854775807) (hsm : ∀ y ∈ l, Lens_TReply y) (s : St)
    (hs : shrink (mk 10 4).1 0 s = ⟨[.rd (rows false l) l.length false false, .rd (rows false l) l.length false false, .bot, .bot, .bot, .lit (.int .i64 0), .bot, .bot, .bot, .bot, .bot, .bot, .bot, .bot, .bot, .bot, .bot, .bot, .bot, .bot, .bot, .bot, .bot, .bot, .bot, .bot, .bot], []⟩) :
    xloop (mk 10 4) 0 (xcode Try.prog (E (d + 4)) (mk 10) (drawn Try.prog (E (d + 4)) (qv md)) n (lp Try.f10 0)) k s = some (.exit 0, ⟨[.bot, .bot, .bot, .bot, .bot, .bot, .bot, .bot, .bot, .bot, .bot, .bot, .bot, .bot, .bot, .bot, .bot, .bot, .bot, .bot, .bot, .bot, .bot, .bot, .bot, .bot, .bot], []⟩) := by
  refine loop_rule (σ := Nat) (fun i => ⟨[.rd (rows false l) l.length false false, .rd (rows false l) l.length false false, .bot, .bot, .bot, .lit (.int .i64 i), .bot, .bot, .bot, .bot, .bot, .bot, .bot, .bot, .bot, .bot, .bot, .bot, .bot, .bot, .bot, .bot, .bot, .bot, .bot, .bot, .bot], []⟩)
    (fun _ => _) (fun i => l.length - i) (fun i => i ≤ l.length) ?_ k 0 s (by simp) (by simpa using hk) (by simpa using hs)
  intro i hi
  rcases Nat.lt_or_ge i l.length with h | h
  · left
    have hw : IntKind.i64.wrap ((i : Int) + 1) = ((i + 1 : Nat) : Int) := wrap_id (by omega) (by omega)
    have hne := ne_nil_of_lt h
    have hra := fun fr => rowAt_lt fr l i h
    have hsi := hsm l[i] (List.getElem_mem h)
    refine ⟨i + 1, ?_, by omega, by omega, rfl⟩
    simp [lp, loopsOf, Try.f10, mk, h, hne, hra, hw]
    rw [x_drawq]
    · simp [h, hne, hra, hw, v_eqReply, hsi]
    · kernel_rfl
    · kernel_rfl
  · right
    have e : i = l.length := by omega
    subst e
    refine ⟨?_, by simp⟩
    simp [lp, loopsOf, Try.f10, mk]
@[simp] theorem v_eqReplyS (d : Nat) (H : Hp) (l : List TReply) (n n' : Nat) (hn : n = l.length) (hn' : n' = l.length) (hl : l.length ≤ 9223372036854775807) (hsm : ∀ y ∈ l, Lens_TReply y) :
    runK Try.prog md mk (d + 4) 10 Try.f10 H [.rd (rows false l) n false false, .rd (rows false l) n' false false] = some (.lit (.bool true), H) := by
  subst hn hn'
  rw [runK_s]
  have h := fun (s : St) => l_eqReplyS l d fuel fuel (by unfold fuel; omega) hl hsm s
  simp [lp, loopsOf, Try.f10, mk] at h
  simp [Try.f10, mk, h]
set_option maxHeartbeats 1000000 in
@[simp] theorem v_eqEntry (d : Nat) (H : Hp) (a_Term : Int) (a_Kind : Int) (a_Data : ByteArray)   :
    runK Try.prog md mk d 31 Try.f31 H [.agg [.lit (.int .i64 a_Term), .lit (.int .i64 a_Kind), .lit (.string a_Data)], .agg [.lit (.int .i64 a_Term), .lit (.int .i64 a_Kind), .lit (.string a_Data)]] = some (.lit (.bool true), H) := by
  rw [runK_s]
  simp [Try.f31, mk]
set_option maxHeartbeats 1000000 in
@[simp] theorem v_eqApplied (d : Nat) (H : Hp) (a_Node : Int) (a_Term : Int) (a_Index : Int) (a_Entry_Term : Int) (a_Entry_Kind : Int) (a_Entry_Data : ByteArray)   :
    runK Try.prog md mk (d + 1) 32 Try.f32 H [.agg [.lit (.int .i64 a_Node), .lit (.int .i64 a_Term), .lit (.int .i64 a_Index), .lit (.int .i64 a_Entry_Term), .lit (.int .i64 a_Entry_Kind), .lit (.string a_Entry_Data)], .agg [.lit (.int .i64 a_Node), .lit (.int .i64 a_Term), .lit (.int .i64 a_Index), .lit (.int .i64 a_Entry_Term), .lit (.int .i64 a_Entry_Kind), .lit (.string a_Entry_Data)]] = some (.lit (.bool true), H) := by
  rw [runK_s]
  simp [Try.f32, mk, v_eqEntry]
set_option maxHeartbeats 1000000 in
theorem l_eqAppliedS (l : List TApplied) (d : Nat) (n : Nat) (k : Nat) (hk : l.length < k) (hl : l.length ≤ 9223372036854775807) (s : St)
    (hs : shrink (mk 16 4).1 0 s = ⟨[.rd (rows true l) l.length false false, .rd (rows true l) l.length false false, .bot, .bot, .bot, .lit (.int .i64 0), .bot, .bot, .bot, .bot, .bot, .bot, .bot, .bot, .bot, .bot, .bot, .bot, .bot, .bot, .bot, .bot, .bot, .bot, .bot, .bot, .bot], []⟩) :
    xloop (mk 16 4) 0 (xcode Try.prog (E (d + 2)) (mk 16) (drawn Try.prog (E (d + 2)) (qv md)) n (lp Try.f16 0)) k s = some (.exit 0, ⟨[.bot, .bot, .bot, .bot, .bot, .bot, .bot, .bot, .bot, .bot, .bot, .bot, .bot, .bot, .bot, .bot, .bot, .bot, .bot, .bot, .bot, .bot, .bot, .bot, .bot, .bot, .bot], []⟩) := by
  refine loop_rule (σ := Nat) (fun i => ⟨[.rd (rows true l) l.length false false, .rd (rows true l) l.length false false, .bot, .bot, .bot, .lit (.int .i64 i), .bot, .bot, .bot, .bot, .bot, .bot, .bot, .bot, .bot, .bot, .bot, .bot, .bot, .bot, .bot, .bot, .bot, .bot, .bot, .bot, .bot], []⟩)
    (fun _ => _) (fun i => l.length - i) (fun i => i ≤ l.length) ?_ k 0 s (by simp) (by simpa using hk) (by simpa using hs)
  intro i hi
  rcases Nat.lt_or_ge i l.length with h | h
  · left
    have hw : IntKind.i64.wrap ((i : Int) + 1) = ((i + 1 : Nat) : Int) := wrap_id (by omega) (by omega)
    have hne := ne_nil_of_lt h
    have hra := fun fr => rowAt_lt fr l i h
    refine ⟨i + 1, ?_, by omega, by omega, rfl⟩
    simp [lp, loopsOf, Try.f16, mk, h, hne, hra, hw]
    rw [x_drawq]
    · simp [h, hne, hra, hw, v_eqApplied]
    · kernel_rfl
    · kernel_rfl
  · right
    have e : i = l.length := by omega
    subst e
    refine ⟨?_, by simp⟩
    simp [lp, loopsOf, Try.f16, mk]
@[simp] theorem v_eqAppliedS (d : Nat) (H : Hp) (l : List TApplied) (n n' : Nat) (hn : n = l.length) (hn' : n' = l.length) (hl : l.length ≤ 9223372036854775807) :
    runK Try.prog md mk (d + 2) 16 Try.f16 H [.rd (rows true l) n false false, .rd (rows true l) n' false false] = some (.lit (.bool true), H) := by
  subst hn hn'
  rw [runK_s]
  have h := fun (s : St) => l_eqAppliedS l d fuel fuel (by unfold fuel; omega) hl s
  simp [lp, loopsOf, Try.f16, mk] at h
  simp [Try.f16, mk, h]
set_option maxHeartbeats 1000000 in
theorem l_eqEntryS (l : List TEntry) (d : Nat) (n : Nat) (k : Nat) (hk : l.length < k) (hl : l.length ≤ 9223372036854775807) (s : St)
    (hs : shrink (mk 15 4).1 0 s = ⟨[.rd (rows true l) l.length false false, .rd (rows true l) l.length false false, .bot, .bot, .bot, .lit (.int .i64 0), .bot, .bot, .bot, .bot, .bot, .bot, .bot, .bot, .bot, .bot, .bot, .bot, .bot, .bot, .bot, .bot, .bot, .bot, .bot, .bot, .bot], []⟩) :
    xloop (mk 15 4) 0 (xcode Try.prog (E (d + 1)) (mk 15) (drawn Try.prog (E (d + 1)) (qv md)) n (lp Try.f15 0)) k s = some (.exit 0, ⟨[.bot, .bot, .bot, .bot, .bot, .bot, .bot, .bot, .bot, .bot, .bot, .bot, .bot, .bot, .bot, .bot, .bot, .bot, .bot, .bot, .bot, .bot, .bot, .bot, .bot, .bot, .bot], []⟩) := by
  refine loop_rule (σ := Nat) (fun i => ⟨[.rd (rows true l) l.length false false, .rd (rows true l) l.length false false, .bot, .bot, .bot, .lit (.int .i64 i), .bot, .bot, .bot, .bot, .bot, .bot, .bot, .bot, .bot, .bot, .bot, .bot, .bot, .bot, .bot, .bot, .bot, .bot, .bot, .bot, .bot], []⟩)
    (fun _ => _) (fun i => l.length - i) (fun i => i ≤ l.length) ?_ k 0 s (by simp) (by simpa using hk) (by simpa using hs)
  intro i hi
  rcases Nat.lt_or_ge i l.length with h | h
  · left
    have hw : IntKind.i64.wrap ((i : Int) + 1) = ((i + 1 : Nat) : Int) := wrap_id (by omega) (by omega)
    have hne := ne_nil_of_lt h
    have hra := fun fr => rowAt_lt fr l i h
    refine ⟨i + 1, ?_, by omega, by omega, rfl⟩
    simp [lp, loopsOf, Try.f15, mk, h, hne, hra, hw]
    rw [x_drawq]
    · simp [h, hne, hra, hw, v_eqEntry]
    · kernel_rfl
    · kernel_rfl
  · right
    have e : i = l.length := by omega
    subst e
    refine ⟨?_, by simp⟩
    simp [lp, loopsOf, Try.f15, mk]
@[simp] theorem v_eqEntryS (d : Nat) (H : Hp) (l : List TEntry) (n n' : Nat) (hn : n = l.length) (hn' : n' = l.length) (hl : l.length ≤ 9223372036854775807) :
    runK Try.prog md mk (d + 1) 15 Try.f15 H [.rd (rows true l) n false false, .rd (rows true l) n' false false] = some (.lit (.bool true), H) := by
  subst hn hn'
  rw [runK_s]
  have h := fun (s : St) => l_eqEntryS l d fuel fuel (by unfold fuel; omega) hl s
  simp [lp, loopsOf, Try.f15, mk] at h
  simp [Try.f15, mk, h]
end Go.Proofs.Ytjleanfcjipofaa.Eng
