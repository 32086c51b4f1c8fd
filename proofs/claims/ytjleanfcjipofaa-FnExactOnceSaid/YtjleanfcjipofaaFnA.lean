/- Once, as the program and the reference have it. Condition: a row of at most 1048576 parts. -/
import Derived.Test.YtjleanfcjipofaaExA
import Derived.Test.YtjleanfcjipofaaEngY
namespace Go.Proofs.Ytjleanfcjipofaa.Eng
open Go Go.RowKit Go.Proofs
/-- The three texts that tell nothing of a command. -/
def plain (t : ByteArray) : Bool := decide (t = ⟨#[103, 97, 112]⟩) || decide (t = ⟨#[110, 111, 110, 101]⟩) || decide (t = ⟨#[111, 108, 100]⟩)
def counts (a : TReply) : Bool := !plain a.Text && !decide (a.Command.Token = 0)
def cl (a b : TReply) : Bool := !decide (a.Command.Token = 0) && decide (a.Command.Token = b.Command.Token) && decide (a.Command.Seq = b.Command.Seq) && !decide (a.Text = b.Text) && !plain a.Text && !plain b.Text
theorem cl_comm (a b : TReply) : cl a b = cl b a := by
  rw [Bool.eq_iff_iff]
  simp only [cl, Bool.and_eq_true, Bool.not_eq_true', decide_eq_true_eq, decide_eq_false_iff_not]
  constructor <;> rintro ⟨⟨⟨⟨⟨h1, h2⟩, h3⟩, h4⟩, h5⟩, h6⟩ <;> exact ⟨⟨⟨⟨⟨h2 ▸ h1, h2.symm⟩, h3.symm⟩, fun e => h4 e.symm⟩, h6⟩, h5⟩
theorem cl_self (a : TReply) : cl a a = false := by simp [cl]
set_option maxHeartbeats 2000000 in
@[simp] theorem v_spec_l19Plain (d : Nat) (H : Hp) (text : ByteArray)   :
    runK Try.prog md mk d 34 Try.f34 H [.lit (.string text)] = some (.lit (.bool (plain text)), H) := by
  rw [runK_s]
  by_cases h1 : text = ⟨#[103, 97, 112]⟩
  · simp [Try.f34, plain, h1]
  by_cases h2 : text = ⟨#[110, 111, 110, 101]⟩
  · simp [Try.f34, plain, h2]
  by_cases h3 : text = ⟨#[111, 108, 100]⟩ <;> simp [Try.f34, plain, h1, h2, h3]
set_option maxHeartbeats 2000000 in
@[simp] theorem v_impl_Once_1 (d : Nat) (H : Hp) (r_Call : Int) (r_When : Int) (r_Index : Int) (r_Command_Op : Int) (r_Command_Token : Int) (r_Command_Seq : Int) (r_Command_Event_Id : Int) (r_Command_Event_Kind : Int) (r_Command_Event_Sender : Int) (r_Command_Event_User : Int) (r_Command_Event_Member : Int) (r_Command_Event_Levels : List Int) (r_Command_Event_Text : ByteArray) (r_Command_Event_Prev : List Int) (r_Command_Event_Depth : Int) (r_Command_Dest : Int) (r_Command_Upto : Int) (r_Text : ByteArray) (n_r_Command_Event_Levels : Nat) (hn_r_Command_Event_Levels : n_r_Command_Event_Levels = r_Command_Event_Levels.length) (n_r_Command_Event_Prev : Nat) (hn_r_Command_Event_Prev : n_r_Command_Event_Prev = r_Command_Event_Prev.length)  :
    runK Try.prog md mk d 35 Try.f35 H [.agg [.lit (.int .i64 r_Call), .lit (.int .i64 r_When), .lit (.int .i64 r_Index), .lit (.int .i64 r_Command_Op), .lit (.int .i64 r_Command_Token), .lit (.int .i64 r_Command_Seq), .lit (.int .i64 r_Command_Event_Id), .lit (.int .i64 r_Command_Event_Kind), .lit (.int .i64 r_Command_Event_Sender), .lit (.int .i64 r_Command_Event_User), .lit (.int .i64 r_Command_Event_Member), .rd (rows true r_Command_Event_Levels) n_r_Command_Event_Levels false false, .lit (.string r_Command_Event_Text), .rd (rows true r_Command_Event_Prev) n_r_Command_Event_Prev false false, .lit (.int .i64 r_Command_Event_Depth), .lit (.int .i64 r_Command_Dest), .lit (.int .i64 r_Command_Upto), .lit (.string r_Text)]] = some (.lit (.bool (counts (⟨r_Call, r_When, r_Index, (⟨r_Command_Op, r_Command_Token, r_Command_Seq, (⟨r_Command_Event_Id, r_Command_Event_Kind, r_Command_Event_Sender, r_Command_Event_User, r_Command_Event_Member, r_Command_Event_Levels, r_Command_Event_Text, r_Command_Event_Prev, r_Command_Event_Depth⟩ : TEvent), r_Command_Dest, r_Command_Upto⟩ : TCommand), r_Text⟩ : TReply))), H) := by
  subst hn_r_Command_Event_Levels hn_r_Command_Event_Prev
  rw [runK_s]
  by_cases h1 : r_Text = ⟨#[103, 97, 112]⟩
  · simp [Try.f35, counts, plain, h1]
  by_cases h2 : r_Text = ⟨#[110, 111, 110, 101]⟩
  · simp [Try.f35, counts, plain, h2]
  by_cases h3 : r_Text = ⟨#[111, 108, 100]⟩
  · simp [Try.f35, counts, plain, h3]
  by_cases h4 : r_Command_Token = 0 <;> simp [Try.f35, counts, plain, h1, h2, h3, h4]
def R20 (l : List TReply) (i : Nat) (b : Bool) : Ex × St := if b = true then (.ret, ⟨(.bot :: .bot :: .lit (.bool false) :: .bot :: .bot :: .bot :: .bot :: .bot :: .bot :: .bot :: .bot :: .bot :: .bot :: .bot :: .bot :: .bot :: .bot :: .bot :: .bot :: .bot :: .bot :: .bot :: .bot :: .bot :: .bot :: .bot :: .bot :: .bot :: .bot :: .bot :: .bot :: .bot :: .bot :: .bot :: .bot :: .bot :: .bot :: .bot :: .bot :: .bot :: .bot :: .bot :: .bot :: .bot :: .bot :: .bot :: .bot :: .bot :: .bot :: .bot :: .bot :: .bot :: .bot :: .bot :: .bot :: .bot :: .bot :: .bot :: .bot :: .bot :: .bot :: .bot :: .bot :: .bot :: .bot :: .bot :: .bot :: []), []⟩) else (.exit 2, ⟨(.rd (rows false l) l.length false false :: .bot :: .bot :: .lit (.int .i64 i) :: .bot :: .bot :: .bot :: .bot :: .bot :: .bot :: .bot :: .bot :: .bot :: .bot :: .bot :: .bot :: .bot :: .bot :: .bot :: .bot :: .bot :: .bot :: .bot :: .bot :: .bot :: .bot :: .bot :: .bot :: .bot :: .bot :: .bot :: .bot :: .bot :: .bot :: .bot :: .bot :: .bot :: .bot :: .bot :: .bot :: .bot :: .bot :: .bot :: .bot :: .bot :: .bot :: .bot :: .bot :: .bot :: .bot :: .bot :: .bot :: .bot :: .bot :: .bot :: .bot :: .bot :: .bot :: .bot :: .bot :: .bot :: .bot :: .bot :: .bot :: .bot :: .bot :: .bot :: []), []⟩)
set_option maxHeartbeats 4000000 in
theorem l_spec_Once_in (d n : Nat) (l : List TReply) (i : Nat) (hi : i < l.length) (hl : l.length ≤ 1048576) (k : Nat) (hk : i < k) (s : St)
    (hs : shrink (mk 20 5).1 0 s = ⟨(.rd (rows false l) l.length false false :: .bot :: .bot :: .lit (.int .i64 i) :: .lit (.int .i64 0) :: .bot :: .bot :: .bot :: .bot :: .bot :: .bot :: .bot :: .bot :: .bot :: .bot :: .bot :: .bot :: .bot :: .bot :: .bot :: .bot :: .bot :: .bot :: .bot :: .bot :: .bot :: .bot :: .bot :: .bot :: .bot :: .bot :: .bot :: .bot :: .bot :: .bot :: .bot :: .bot :: .bot :: .bot :: .bot :: .bot :: .bot :: .bot :: .bot :: .bot :: .bot :: .bot :: .bot :: .bot :: .bot :: .bot :: .bot :: .bot :: .bot :: .bot :: .bot :: .bot :: .bot :: .bot :: .bot :: .bot :: .bot :: .bot :: .bot :: .bot :: .bot :: .bot :: []), []⟩) :
    xloop (mk 20 5) 0 (xcode Try.prog (E (d + 1)) (mk 20) (drawn Try.prog (E (d + 1)) (qv md)) n (lp Try.f20 1)) k s = some (R20 l i (anyN (fun j => onAt l i fun a => onAt l j fun b => cl a b) i 0)) := by
  refine loop_rule (σ := Nat) (fun k => ⟨(.rd (rows false l) l.length false false :: .bot :: .bot :: .lit (.int .i64 i) :: .lit (.int .i64 k) :: .bot :: .bot :: .bot :: .bot :: .bot :: .bot :: .bot :: .bot :: .bot :: .bot :: .bot :: .bot :: .bot :: .bot :: .bot :: .bot :: .bot :: .bot :: .bot :: .bot :: .bot :: .bot :: .bot :: .bot :: .bot :: .bot :: .bot :: .bot :: .bot :: .bot :: .bot :: .bot :: .bot :: .bot :: .bot :: .bot :: .bot :: .bot :: .bot :: .bot :: .bot :: .bot :: .bot :: .bot :: .bot :: .bot :: .bot :: .bot :: .bot :: .bot :: .bot :: .bot :: .bot :: .bot :: .bot :: .bot :: .bot :: .bot :: .bot :: .bot :: .bot :: .bot :: []), []⟩)
    (fun k => R20 l i (anyN (fun j => onAt l i fun a => onAt l j fun b => cl a b) i k)) (fun k => i - k) (fun k => k ≤ i) ?_ k 0 s (by simp) (by simpa using hk) (by simpa using hs)
  intro k hk
  rcases Nat.lt_or_ge k i with h | h
  · have hw := wrap_succ h (by omega)
    have hkl : k < l.length := by omega
    have hne := ne_nil_of_lt hi
    have hri := rowAt_lt false l i hi
    have hrk := rowAt_lt false l k hkl
    rw [anyN_step h]
    simp only [onAt_lt hi, onAt_lt hkl]
    have run : ∀ b, cl l[i] l[k] = b → (xcode Try.prog (E (d + 1)) (mk 20) (drawn Try.prog (E (d + 1)) (qv md)) n (lp Try.f20 1) ⟨(.rd (rows false l) l.length false false :: .bot :: .bot :: .lit (.int .i64 i) :: .lit (.int .i64 k) :: .bot :: .bot :: .bot :: .bot :: .bot :: .bot :: .bot :: .bot :: .bot :: .bot :: .bot :: .bot :: .bot :: .bot :: .bot :: .bot :: .bot :: .bot :: .bot :: .bot :: .bot :: .bot :: .bot :: .bot :: .bot :: .bot :: .bot :: .bot :: .bot :: .bot :: .bot :: .bot :: .bot :: .bot :: .bot :: .bot :: .bot :: .bot :: .bot :: .bot :: .bot :: .bot :: .bot :: .bot :: .bot :: .bot :: .bot :: .bot :: .bot :: .bot :: .bot :: .bot :: .bot :: .bot :: .bot :: .bot :: .bot :: .bot :: .bot :: .bot :: .bot :: .bot :: []), []⟩).obind (shK (mk 20 5) 0) = some (if b = true then R20 l i true else (.normal, ⟨(.rd (rows false l) l.length false false :: .bot :: .bot :: .lit (.int .i64 i) :: .lit (.int .i64 (k + 1 : Nat)) :: .bot :: .bot :: .bot :: .bot :: .bot :: .bot :: .bot :: .bot :: .bot :: .bot :: .bot :: .bot :: .bot :: .bot :: .bot :: .bot :: .bot :: .bot :: .bot :: .bot :: .bot :: .bot :: .bot :: .bot :: .bot :: .bot :: .bot :: .bot :: .bot :: .bot :: .bot :: .bot :: .bot :: .bot :: .bot :: .bot :: .bot :: .bot :: .bot :: .bot :: .bot :: .bot :: .bot :: .bot :: .bot :: .bot :: .bot :: .bot :: .bot :: .bot :: .bot :: .bot :: .bot :: .bot :: .bot :: .bot :: .bot :: .bot :: .bot :: .bot :: .bot :: .bot :: []), []⟩)) := by
      intro b hb
      subst hb
      simp [lp, loopsOf, Try.f20, mk, h, hi, hkl, hne, hri, hrk, hw]
      by_cases c1 : l[i].Command.Token = 0
      · simp [c1, cl, hw]
      by_cases c2 : l[i].Command.Token = l[k].Command.Token
      · by_cases c3 : l[i].Command.Seq = l[k].Command.Seq
        · by_cases c4 : l[i].Text = l[k].Text
          · simp [← c2, c1, c3, c4, cl, hw]
          · cases c5 : plain l[i].Text
            · cases c6 : plain l[k].Text <;> simp [← c2, c1, c3, c4, c5, c6, cl, hw, R20]
            · simp [← c2, c1, c3, c4, c5, cl, hw]
        · simp [← c2, c1, c3, cl, hw]
      · simp [c1, c2, cl, hw]
    cases hb : cl l[i] l[k] with
    | true =>
      right
      rw [run true hb]
      simp [R20]
    | false =>
      left
      exact ⟨k + 1, by rw [run false hb]; simp, by omega, by omega, by simp⟩
  · right
    have e : k = i := by omega
    subst e
    simp [lp, loopsOf, Try.f20, mk, R20]
def clS (l : List TReply) (i : Nat) : Bool := anyN (fun j => onAt l i fun a => onAt l j fun b => cl a b) i 0
def R20o (l : List TReply) (b : Bool) : Ex × St := if b = true then (.ret, ⟨(.bot :: .bot :: .lit (.bool false) :: .bot :: .bot :: .bot :: .bot :: .bot :: .bot :: .bot :: .bot :: .bot :: .bot :: .bot :: .bot :: .bot :: .bot :: .bot :: .bot :: .bot :: .bot :: .bot :: .bot :: .bot :: .bot :: .bot :: .bot :: .bot :: .bot :: .bot :: .bot :: .bot :: .bot :: .bot :: .bot :: .bot :: .bot :: .bot :: .bot :: .bot :: .bot :: .bot :: .bot :: .bot :: .bot :: .bot :: .bot :: .bot :: .bot :: .bot :: .bot :: .bot :: .bot :: .bot :: .bot :: .bot :: .bot :: .bot :: .bot :: .bot :: .bot :: .bot :: .bot :: .bot :: .bot :: .bot :: .bot :: []), []⟩) else (.exit 0, ⟨(.bot :: .bot :: .bot :: .bot :: .bot :: .bot :: .bot :: .bot :: .bot :: .bot :: .bot :: .bot :: .bot :: .bot :: .bot :: .bot :: .bot :: .bot :: .bot :: .bot :: .bot :: .bot :: .bot :: .bot :: .bot :: .bot :: .bot :: .bot :: .bot :: .bot :: .bot :: .bot :: .bot :: .bot :: .bot :: .bot :: .bot :: .bot :: .bot :: .bot :: .bot :: .bot :: .bot :: .bot :: .bot :: .bot :: .bot :: .bot :: .bot :: .bot :: .bot :: .bot :: .bot :: .bot :: .bot :: .bot :: .bot :: .bot :: .bot :: .bot :: .bot :: .bot :: .bot :: .bot :: .bot :: .bot :: .bot :: []), []⟩)
set_option maxHeartbeats 4000000 in
theorem l_spec_Once (d n : Nat) (l : List TReply) (hl : l.length ≤ 1048576) (hn : 1048576 < n) (k : Nat) (hk : l.length - 0 < k) (s : St)
    (hs : shrink (mk 20 2).1 0 s = ⟨(.rd (rows false l) l.length false false :: .bot :: .bot :: .lit (.int .i64 0) :: .bot :: .bot :: .bot :: .bot :: .bot :: .bot :: .bot :: .bot :: .bot :: .bot :: .bot :: .bot :: .bot :: .bot :: .bot :: .bot :: .bot :: .bot :: .bot :: .bot :: .bot :: .bot :: .bot :: .bot :: .bot :: .bot :: .bot :: .bot :: .bot :: .bot :: .bot :: .bot :: .bot :: .bot :: .bot :: .bot :: .bot :: .bot :: .bot :: .bot :: .bot :: .bot :: .bot :: .bot :: .bot :: .bot :: .bot :: .bot :: .bot :: .bot :: .bot :: .bot :: .bot :: .bot :: .bot :: .bot :: .bot :: .bot :: .bot :: .bot :: .bot :: .bot :: .bot :: []), []⟩) :
    xloop (mk 20 2) 0 (xcode Try.prog (E (d + 1)) (mk 20) (drawn Try.prog (E (d + 1)) (qv md)) n (lp Try.f20 0)) k s = some (R20o l (anyN (clS l) l.length 0)) := by
  refine loop_rule (σ := Nat) (fun i => ⟨(.rd (rows false l) l.length false false :: .bot :: .bot :: .lit (.int .i64 i) :: .bot :: .bot :: .bot :: .bot :: .bot :: .bot :: .bot :: .bot :: .bot :: .bot :: .bot :: .bot :: .bot :: .bot :: .bot :: .bot :: .bot :: .bot :: .bot :: .bot :: .bot :: .bot :: .bot :: .bot :: .bot :: .bot :: .bot :: .bot :: .bot :: .bot :: .bot :: .bot :: .bot :: .bot :: .bot :: .bot :: .bot :: .bot :: .bot :: .bot :: .bot :: .bot :: .bot :: .bot :: .bot :: .bot :: .bot :: .bot :: .bot :: .bot :: .bot :: .bot :: .bot :: .bot :: .bot :: .bot :: .bot :: .bot :: .bot :: .bot :: .bot :: .bot :: .bot :: []), []⟩)
    (fun i => R20o l (anyN (clS l) l.length i)) (fun i => l.length - i) (fun i => i ≤ l.length) ?_ k 0 s (by simp) (by simpa using hk) (by simpa using hs)
  intro i hi
  rcases Nat.lt_or_ge i l.length with h | h
  · have hw := wrap_succ h (by omega)
    have hin := fun (s : St) => l_spec_Once_in d n l i h hl n (by omega) s
    simp [lp, loopsOf, Try.f20, mk] at hin
    rw [anyN_step h]
    cases hb : clS l i with
    | true =>
      right
      rw [clS] at hb
      simp [lp, loopsOf, Try.f20, mk, h, hin, hb, R20, R20o]
    | false =>
      left
      refine ⟨i + 1, ?_, by omega, by omega, by simp⟩
      rw [clS] at hb
      simp [lp, loopsOf, Try.f20, mk, h, hin, hb, R20, hw]
  · right
    have e : i = l.length := by omega
    subst e
    simp [lp, loopsOf, Try.f20, mk, R20o]
def onceOk (l : List TReply) : Bool := !anyN (clS l) l.length 0
set_option maxHeartbeats 2000000 in
@[simp] theorem v_spec_Once (d : Nat) (H : Hp) (l : List TReply) (n_l : Nat) (hn_l : n_l = l.length) (hl : l.length ≤ 1048576) :
    runK Try.prog md mk (d + 1) 20 Try.f20 H [.rd (rows false l) n_l false false] = some (.lit (.bool (onceOk l)), H) := by
  subst hn_l
  rw [runK_s]
  have h := fun (s : St) => l_spec_Once d fuel l hl (by unfold fuel; omega) fuel (by unfold fuel; omega) s
  simp [lp, loopsOf, Try.f20, mk] at h
  unfold onceOk
  cases hb : anyN (clS l) l.length 0 <;> simp [Try.f20, mk, h, hb, R20o]
def R21 (l : List TReply) (i : Nat) (H : Hp) (b : Bool) : Ex × St := if b = true then (.ret, ⟨[.bot, .bot, .lit (.bool false), .bot, .bot, .bot, .bot, .bot, .bot, .bot, .bot, .bot, .bot, .bot, .bot, .bot, .bot, .bot, .bot, .bot, .bot, .bot, .bot, .bot, .bot, .bot, .bot, .bot, .bot, .bot, .bot, .bot, .bot, .bot, .bot, .bot, .bot, .bot, .bot, .bot, .bot, .bot, .bot, .bot, .bot, .bot, .bot, .bot, .bot, .bot, .bot, .bot, .bot, .bot, .bot], H⟩) else (.exit 2, ⟨[.rd (rows false l) l.length false false, .bot, .bot, .fn 35 [], .bot, .bot, .bot, .bot, .rd (rows false l) l.length false false, .lit (.int .i64 l.length), .lit (.int .i64 i), .bot, .bot, .bot, .bot, .bot, .bot, .bot, .bot, .bot, .bot, .bot, .bot, .bot, .bot, .bot, .bot, .bot, .bot, .bot, .bot, .bot, .bot, .bot, .bot, .bot, .bot, .bot, .bot, .bot, .bot, .bot, .bot, .bot, .bot, .bot, .bot, .bot, .bot, .bot, .bot, .bot, .bot, .bot, .bot], H⟩)
def clI (a b : TReply) : Bool := counts a && counts b && decide (a.Command.Token = b.Command.Token) && decide (a.Command.Seq = b.Command.Seq) && !decide (a.Text = b.Text)
theorem clI_eq (a b : TReply) : clI a b = cl a b := by
  rw [Bool.eq_iff_iff]
  simp only [cl, clI, counts, Bool.and_eq_true, Bool.not_eq_true', decide_eq_true_eq, decide_eq_false_iff_not]
  constructor
  · rintro ⟨⟨⟨⟨⟨h1, h2⟩, h3, h4⟩, h5⟩, h6⟩, h7⟩; exact ⟨⟨⟨⟨⟨h2, h5⟩, h6⟩, h7⟩, h1⟩, h3⟩
  · rintro ⟨⟨⟨⟨⟨h2, h5⟩, h6⟩, h7⟩, h1⟩, h3⟩; exact ⟨⟨⟨⟨⟨h1, h2⟩, h3, h5 ▸ h2⟩, h5⟩, h6⟩, h7⟩
set_option maxHeartbeats 4000000 in
theorem l_impl_Once_in (d n : Nat) (l : List TReply) (i : Nat) (hi : i < l.length) (hl : l.length ≤ 1048576) (k : Nat) (hk : l.length - 0 < k) (s : St)
    (hs : shrink (mk 21 6).1 1 s = ⟨[.rd (rows false l) l.length false false, .bot, .bot, .fn 35 [], .bot, .ptr 0 0 0, .bot, .bot, .rd (rows false l) l.length false false, .lit (.int .i64 l.length), .lit (.int .i64 i), .bot, .bot, .bot, .rd (rows false l) l.length false false, .lit (.int .i64 l.length), .lit (.int .i64 0), .bot, .bot, .bot, .bot, .bot, .bot, .bot, .bot, .bot, .bot, .bot, .bot, .bot, .bot, .bot, .bot, .bot, .bot, .bot, .bot, .bot, .bot, .bot, .bot, .bot, .bot, .bot, .bot, .bot, .bot, .bot, .bot, .bot, .bot, .bot, .bot, .bot, .bot], [some ⟨53, 0, Enc.cells false l[i]⟩]⟩) :
    xloop (mk 21 6) 1 (xcode Try.prog (E (d + 1)) (mk 21) (drawn Try.prog (E (d + 1)) (qv md)) n (lp Try.f21 1)) k s = some (R21 l i [some ⟨53, 0, Enc.cells false l[i]⟩] (anyN (fun j => onAt l i fun a => onAt l j fun b => cl a b) l.length 0)) := by
  refine loop_rule (σ := Nat) (fun k => ⟨[.rd (rows false l) l.length false false, .bot, .bot, .fn 35 [], .bot, .ptr 0 0 0, .bot, .bot, .rd (rows false l) l.length false false, .lit (.int .i64 l.length), .lit (.int .i64 i), .bot, .bot, .bot, .rd (rows false l) l.length false false, .lit (.int .i64 l.length), .lit (.int .i64 k), .bot, .bot, .bot, .bot, .bot, .bot, .bot, .bot, .bot, .bot, .bot, .bot, .bot, .bot, .bot, .bot, .bot, .bot, .bot, .bot, .bot, .bot, .bot, .bot, .bot, .bot, .bot, .bot, .bot, .bot, .bot, .bot, .bot, .bot, .bot, .bot, .bot, .bot], [some ⟨53, 0, Enc.cells false l[i]⟩]⟩)
    (fun k => R21 l i [some ⟨53, 0, Enc.cells false l[i]⟩] (anyN (fun j => onAt l i fun a => onAt l j fun b => cl a b) l.length k)) (fun k => l.length - k) (fun k => k ≤ l.length) ?_ k 0 s (by simp) (by simpa using hk) (by simpa using hs)
  intro k hk
  rcases Nat.lt_or_ge k l.length with hkl | h
  · have hw := wrap_succ hkl (by omega)
    have hne := ne_nil_of_lt hi
    have hri := rowAt_lt false l i hi
    have hrk := rowAt_lt false l k hkl
    rw [anyN_step hkl]
    simp only [onAt_lt hi, onAt_lt hkl]
    have run : (xcode Try.prog (E (d + 1)) (mk 21) (drawn Try.prog (E (d + 1)) (qv md)) n (lp Try.f21 1) ⟨[.rd (rows false l) l.length false false, .bot, .bot, .fn 35 [], .bot, .ptr 0 0 0, .bot, .bot, .rd (rows false l) l.length false false, .lit (.int .i64 l.length), .lit (.int .i64 i), .bot, .bot, .bot, .rd (rows false l) l.length false false, .lit (.int .i64 l.length), .lit (.int .i64 k), .bot, .bot, .bot, .bot, .bot, .bot, .bot, .bot, .bot, .bot, .bot, .bot, .bot, .bot, .bot, .bot, .bot, .bot, .bot, .bot, .bot, .bot, .bot, .bot, .bot, .bot, .bot, .bot, .bot, .bot, .bot, .bot, .bot, .bot, .bot, .bot, .bot, .bot], [some ⟨53, 0, Enc.cells false l[i]⟩]⟩).obind (shK (mk 21 6) 1) =
        some (if clI l[i] l[k] = true then R21 l i [some ⟨53, 0, Enc.cells false l[i]⟩] true else (.normal, ⟨[.rd (rows false l) l.length false false, .bot, .bot, .fn 35 [], .bot, .ptr 0 0 0, .bot, .bot, .rd (rows false l) l.length false false, .lit (.int .i64 l.length), .lit (.int .i64 i), .bot, .bot, .bot, .rd (rows false l) l.length false false, .lit (.int .i64 l.length), .lit (.int .i64 (k + 1 : Nat)), .bot, .bot, .bot, .bot, .bot, .bot, .bot, .bot, .bot, .bot, .bot, .bot, .bot, .bot, .bot, .bot, .bot, .bot, .bot, .bot, .bot, .bot, .bot, .bot, .bot, .bot, .bot, .bot, .bot, .bot, .bot, .bot, .bot, .bot, .bot, .bot, .bot, .bot], [some ⟨53, 0, Enc.cells false l[i]⟩]⟩)) := by
      cases c1 : counts l[i]
      · simp [lp, loopsOf, Try.f21, mk, hi, hkl, hne, hri, hrk, hw, c1, clI]
      cases c2 : counts l[k]
      · simp [lp, loopsOf, Try.f21, mk, hi, hkl, hne, hri, hrk, hw, c1, c2, clI]
      simp [lp, loopsOf, Try.f21, mk, hi, hkl, hne, hri, hrk, hw, c1, c2, clI]
      by_cases c3 : l[i].Command.Token = l[k].Command.Token
      · by_cases c4 : l[i].Command.Seq = l[k].Command.Seq
        · by_cases c5 : l[i].Text = l[k].Text <;> simp [c3, c4, c5, hw, R21]
        · simp [c3, c4, hw]
      · simp [c3, hw]
    rw [← clI_eq]
    cases hb : clI l[i] l[k] with
    | true =>
      right
      rw [run, hb]
      simp [R21]
    | false =>
      left
      exact ⟨k + 1, by rw [run, hb]; simp, by omega, by omega, by simp⟩
  · right
    have e : k = l.length := by omega
    subst e
    simp [lp, loopsOf, Try.f21, mk, R21]
def clA (l : List TReply) (i : Nat) : Bool := anyN (fun j => onAt l i fun a => onAt l j fun b => cl a b) l.length 0
def R21o (l : List TReply) (b : Bool) : Ex × St := if b = true then (.ret, ⟨[.bot, .bot, .lit (.bool false), .bot, .bot, .bot, .bot, .bot, .bot, .bot, .bot, .bot, .bot, .bot, .bot, .bot, .bot, .bot, .bot, .bot, .bot, .bot, .bot, .bot, .bot, .bot, .bot, .bot, .bot, .bot, .bot, .bot, .bot, .bot, .bot, .bot, .bot, .bot, .bot, .bot, .bot, .bot, .bot, .bot, .bot, .bot, .bot, .bot, .bot, .bot, .bot, .bot, .bot, .bot, .bot], []⟩) else (.exit 0, ⟨[.bot, .bot, .bot, .bot, .bot, .bot, .bot, .bot, .bot, .bot, .bot, .bot, .bot, .bot, .bot, .bot, .bot, .bot, .bot, .bot, .bot, .bot, .bot, .bot, .bot, .bot, .bot, .bot, .bot, .bot, .bot, .bot, .bot, .bot, .bot, .bot, .bot, .bot, .bot, .bot, .bot, .bot, .bot, .bot, .bot, .bot, .bot, .bot, .bot, .bot, .bot, .bot, .bot, .bot, .bot], []⟩)
set_option maxHeartbeats 4000000 in
theorem l_impl_Once (d n : Nat) (l : List TReply) (hl : l.length ≤ 1048576) (hn : 1048576 < n) (k : Nat) (hk : l.length - 0 < k) (s : St)
    (hs : shrink (mk 21 3).1 0 s = ⟨[.rd (rows false l) l.length false false, .bot, .bot, .fn 35 [], .bot, .bot, .bot, .bot, .rd (rows false l) l.length false false, .lit (.int .i64 l.length), .lit (.int .i64 0), .bot, .bot, .bot, .bot, .bot, .bot, .bot, .bot, .bot, .bot, .bot, .bot, .bot, .bot, .bot, .bot, .bot, .bot, .bot, .bot, .bot, .bot, .bot, .bot, .bot, .bot, .bot, .bot, .bot, .bot, .bot, .bot, .bot, .bot, .bot, .bot, .bot, .bot, .bot, .bot, .bot, .bot, .bot, .bot], []⟩) :
    xloop (mk 21 3) 0 (xcode Try.prog (E (d + 1)) (mk 21) (drawn Try.prog (E (d + 1)) (qv md)) n (lp Try.f21 0)) k s = some (R21o l (anyN (clA l) l.length 0)) := by
  refine loop_rule (σ := Nat) (fun i => ⟨[.rd (rows false l) l.length false false, .bot, .bot, .fn 35 [], .bot, .bot, .bot, .bot, .rd (rows false l) l.length false false, .lit (.int .i64 l.length), .lit (.int .i64 i), .bot, .bot, .bot, .bot, .bot, .bot, .bot, .bot, .bot, .bot, .bot, .bot, .bot, .bot, .bot, .bot, .bot, .bot, .bot, .bot, .bot, .bot, .bot, .bot, .bot, .bot, .bot, .bot, .bot, .bot, .bot, .bot, .bot, .bot, .bot, .bot, .bot, .bot, .bot, .bot, .bot, .bot, .bot, .bot], []⟩)
    (fun i => R21o l (anyN (clA l) l.length i)) (fun i => l.length - i) (fun i => i ≤ l.length) ?_ k 0 s (by simp) (by simpa using hk) (by simpa using hs)
  intro i hi
  rcases Nat.lt_or_ge i l.length with h | h
  · have hw := wrap_succ h (by omega)
    have hne := ne_nil_of_lt h
    have hri := rowAt_lt false l i h
    have hin := fun (s : St) => l_impl_Once_in d n l i h hl n (by omega) s
    simp [lp, loopsOf, Try.f21, mk] at hin
    rw [anyN_step h]
    cases hb : clA l i with
    | true =>
      right
      rw [clA] at hb
      simp [lp, loopsOf, Try.f21, mk, h, hne, hri, hin, hb, R21, R21o]
    | false =>
      left
      refine ⟨i + 1, ?_, by omega, by omega, by simp⟩
      rw [clA] at hb
      simp [lp, loopsOf, Try.f21, mk, h, hne, hri, hin, hb, R21, hw]
  · right
    have e : i = l.length := by omega
    subst e
    simp [lp, loopsOf, Try.f21, mk, R21o]
theorem once_same (l : List TReply) : anyN (clA l) l.length 0 = anyN (clS l) l.length 0 := by
  rw [Bool.eq_iff_iff, anyN_iff, anyN_iff]
  constructor
  · rintro ⟨i, _, hi, h⟩
    unfold clA at h
    obtain ⟨k, _, hk, h⟩ := anyN_iff.1 h
    simp only [onAt_lt hi, onAt_lt hk] at h
    rcases Nat.lt_trichotomy k i with e | e | e
    · exact ⟨i, by omega, hi, anyN_iff.2 ⟨k, by omega, e, by simp only [onAt_lt hi, onAt_lt hk]; exact h⟩⟩
    · subst e; rw [cl_self] at h; cases h
    · exact ⟨k, by omega, hk, anyN_iff.2 ⟨i, by omega, e, by simp only [onAt_lt hi, onAt_lt hk]; rw [cl_comm]; exact h⟩⟩
  · rintro ⟨i, _, hi, h⟩
    unfold clS at h
    obtain ⟨k, _, hk, h⟩ := anyN_iff.1 h
    exact ⟨i, by omega, hi, anyN_iff.2 ⟨k, by omega, by omega, h⟩⟩
set_option maxHeartbeats 2000000 in
@[simp] theorem v_impl_Once (d : Nat) (H : Hp) (list : List TReply) (n_list : Nat) (hn_list : n_list = list.length) (hl : list.length ≤ 1048576) :
    runK Try.prog md mk (d + 1) 21 Try.f21 H [.rd (rows false list) n_list false false] = some (.lit (.bool (onceOk list)), H) := by
  subst hn_list
  rw [runK_s]
  have h := fun (s : St) => l_impl_Once d fuel list hl (by unfold fuel; omega) fuel (by unfold fuel; omega) s
  simp [lp, loopsOf, Try.f21, mk] at h
  unfold onceOk
  rw [← once_same]
  cases hb : anyN (clA list) list.length 0 <;> simp [Try.f21, mk, h, hb, R21o]
set_option maxHeartbeats 2000000 in
@[simp] theorem v_laws_FnExactOnce (d : Nat) (H : Hp) (aList : List TReply) (n_aList : Nat) (hn_aList : n_aList = aList.length) (hw : Enc.wf aList) :
    runK Try.prog md mk (d + 5) 5 Try.f5 H [.rd (rows false aList) n_aList false false] = some (.lit (.bool true), H) := by
  subst hn_aList
  rw [runK_s]
  have hp : Pre 1048576 := ⟨by decide, by decide⟩
  by_cases h : szV (aList.length + (aList.map fun y => msr_TReply y).sum) 1048576 < 0
  · simp [Try.f5, mk, v_szReplyS, hw, hp, h]
  · have hm := szV_le h
    have hl : aList.length ≤ 1048576 := by omega
    have hs : ∀ y ∈ aList, Small_TReply y := fun y hy => small_TReply y (by have := mem_sum_le (fun y => msr_TReply y) aList y hy; omega)
    have t1 := fun d H n hn => v_toReplyS d H aList n hn hl hs
    have t2 := fun d H n n' hn hn' => v_eqReplyS d H aList n n' hn hn' (by omega) (fun y hy => lens_TReply y (hs y hy))
    simp [Try.f5, mk, v_szReplyS, hw, hp, h, hl, t1, t2]

end Go.Proofs.Ytjleanfcjipofaa.Eng
