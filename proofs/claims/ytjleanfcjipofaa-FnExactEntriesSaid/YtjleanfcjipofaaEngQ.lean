/- Plain Lean data for the structs of the program, told as cells. No condition. -/
import Derived.Test.YtjleanfcjipofaaEngP
set_option linter.all false
namespace Go.Proofs.Ytjleanfcjipofaa.Eng
open Go Go.RowKit
@[ext] structure TEvent where
  Id : Int
  Kind : Int
  Sender : Int
  User : Int
  Member : Int
  Levels : List Int
  Text : ByteArray
  Prev : List Int
  Depth : Int
  deriving DecidableEq
def TEvent.prod (x : TEvent) : Int × Int × Int × Int × Int × (List Int) × ByteArray × (List Int) × Int × Unit := (x.Id, x.Kind, x.Sender, x.User, x.Member, x.Levels, x.Text, x.Prev, x.Depth, ())
def TEvent.of (p : Int × Int × Int × Int × Int × (List Int) × ByteArray × (List Int) × Int × Unit) : TEvent := ⟨p.1, p.2.1, p.2.2.1, p.2.2.2.1, p.2.2.2.2.1, p.2.2.2.2.2.1, p.2.2.2.2.2.2.1, p.2.2.2.2.2.2.2.1, p.2.2.2.2.2.2.2.2.1⟩
instance : Enc TEvent where
  w := 9
  cells fr x := Enc.cells fr x.prod
  wf x := Enc.wf x.prod
  len fr a := Enc.len fr a.prod
  trv g kp fr a := Enc.trv g kp fr a.prod
  frs a := Enc.frs a.prod
  bel n fr a := Enc.bel n fr a.prod
  cel fr a := Enc.cel fr a.prod
@[simp] theorem w_TEvent : Enc.w TEvent = 9 := rfl
theorem cells0_TEvent (fr : Bool) (x : TEvent) : Enc.cells fr x = [.lit (.int .i64 x.Id), .lit (.int .i64 x.Kind), .lit (.int .i64 x.Sender), .lit (.int .i64 x.User), .lit (.int .i64 x.Member), .rd (rows fr x.Levels) x.Levels.length false fr, .lit (.string x.Text), .rd (rows fr x.Prev) x.Prev.length false fr, .lit (.int .i64 x.Depth)] := rfl
@[simp] theorem cells_TEvent (fr : Bool) (x : TEvent) : Enc.cells fr x = [.lit (.int .i64 x.Id), .lit (.int .i64 x.Kind), .lit (.int .i64 x.Sender), .lit (.int .i64 x.User), .lit (.int .i64 x.Member), .rd (rows true x.Levels) x.Levels.length false fr, .lit (.string x.Text), .rd (rows true x.Prev) x.Prev.length false fr, .lit (.int .i64 x.Depth)] := by cases fr <;> simp only [cells0_TEvent, rows_flat]
theorem of_TEvent (p : Int × Int × Int × Int × Int × (List Int) × ByteArray × (List Int) × Int × Unit) : Enc.cells false (TEvent.of p) = Enc.cells false p := rfl
theorem wfof_TEvent (p : Int × Int × Int × Int × Int × (List Int) × ByteArray × (List Int) × Int × Unit) (h : Enc.wf p) : Enc.wf (TEvent.of p) := h
@[simp] theorem eta_TEvent (x : TEvent) : (⟨x.Id, x.Kind, x.Sender, x.User, x.Member, x.Levels, x.Text, x.Prev, x.Depth⟩ : TEvent) = x := rfl
@[simp] theorem cell_TEvent (fr : Bool) (l : List TEvent) (i k : Nat) (hk : k < 9) : (rows fr l)[i * 9 + k]? = (rowAt fr l i)[k]? := rows_cell fr l i k hk
@[simp] theorem cell0_TEvent (fr : Bool) (l : List TEvent) (i : Nat) : (rows fr l)[i * 9]? = (rowAt fr l i)[0]? := rows_cell0 fr l i (by decide)
@[simp] theorem cellg_TEvent (fr : Bool) (l : List TEvent) (i k : Nat) (hk : k < 9) (h : i * 9 + k < (rows fr l).length) : (rows fr l)[i * 9 + k] = ((rowAt fr l i)[k]?).getD .bot := rows_cellg fr l i k hk h
@[simp] theorem cellg0_TEvent (fr : Bool) (l : List TEvent) (i : Nat) (h : i * 9 < (rows fr l).length) : (rows fr l)[i * 9] = ((rowAt fr l i)[0]?).getD .bot := rows_cellg0 fr l i (by decide) h
@[simp] theorem taken_TEvent (fr : Bool) (l : List TEvent) (i : Nat) : ((rows fr l).drop (i * 9)).take 9 = rowAt fr l i := rows_taken fr l i
@[simp] theorem part_TEvent (fr : Bool) (l : List TEvent) (i off k : Nat) (h : off + k ≤ 9) : ((rows fr l).drop (i * 9 + off)).take k = ((rowAt fr l i).drop off).take k := rows_part fr l i off k h
@[simp] theorem part0_TEvent (fr : Bool) (l : List TEvent) (i k : Nat) (h : 0 + k ≤ 9) : ((rows fr l).drop (i * 9)).take k = ((rowAt fr l i).drop 0).take k := rows_part fr l i 0 k h
@[simp] theorem sub_TEvent (fr : Bool) (l : List TEvent) (a b : Nat) : ((rows fr l).take (b * 9)).drop (a * 9) = rows fr ((l.take b).drop a) := rows_sub fr l a b
@[ext] structure TCommand where
  Op : Int
  Token : Int
  Seq : Int
  Event : TEvent
  Dest : Int
  Upto : Int
  deriving DecidableEq
def TCommand.prod (x : TCommand) : Int × Int × Int × TEvent × Int × Int × Unit := (x.Op, x.Token, x.Seq, x.Event, x.Dest, x.Upto, ())
def TCommand.of (p : Int × Int × Int × TEvent × Int × Int × Unit) : TCommand := ⟨p.1, p.2.1, p.2.2.1, p.2.2.2.1, p.2.2.2.2.1, p.2.2.2.2.2.1⟩
instance : Enc TCommand where
  w := 14
  cells fr x := Enc.cells fr x.prod
  wf x := Enc.wf x.prod
  len fr a := Enc.len fr a.prod
  trv g kp fr a := Enc.trv g kp fr a.prod
  frs a := Enc.frs a.prod
  bel n fr a := Enc.bel n fr a.prod
  cel fr a := Enc.cel fr a.prod
@[simp] theorem w_TCommand : Enc.w TCommand = 14 := rfl
theorem cells0_TCommand (fr : Bool) (x : TCommand) : Enc.cells fr x = [.lit (.int .i64 x.Op), .lit (.int .i64 x.Token), .lit (.int .i64 x.Seq), .lit (.int .i64 x.Event.Id), .lit (.int .i64 x.Event.Kind), .lit (.int .i64 x.Event.Sender), .lit (.int .i64 x.Event.User), .lit (.int .i64 x.Event.Member), .rd (rows fr x.Event.Levels) x.Event.Levels.length false fr, .lit (.string x.Event.Text), .rd (rows fr x.Event.Prev) x.Event.Prev.length false fr, .lit (.int .i64 x.Event.Depth), .lit (.int .i64 x.Dest), .lit (.int .i64 x.Upto)] := rfl
@[simp] theorem cells_TCommand (fr : Bool) (x : TCommand) : Enc.cells fr x = [.lit (.int .i64 x.Op), .lit (.int .i64 x.Token), .lit (.int .i64 x.Seq), .lit (.int .i64 x.Event.Id), .lit (.int .i64 x.Event.Kind), .lit (.int .i64 x.Event.Sender), .lit (.int .i64 x.Event.User), .lit (.int .i64 x.Event.Member), .rd (rows true x.Event.Levels) x.Event.Levels.length false fr, .lit (.string x.Event.Text), .rd (rows true x.Event.Prev) x.Event.Prev.length false fr, .lit (.int .i64 x.Event.Depth), .lit (.int .i64 x.Dest), .lit (.int .i64 x.Upto)] := by cases fr <;> simp only [cells0_TCommand, rows_flat]
theorem of_TCommand (p : Int × Int × Int × TEvent × Int × Int × Unit) : Enc.cells false (TCommand.of p) = Enc.cells false p := rfl
theorem wfof_TCommand (p : Int × Int × Int × TEvent × Int × Int × Unit) (h : Enc.wf p) : Enc.wf (TCommand.of p) := h
@[simp] theorem eta_TCommand (x : TCommand) : (⟨x.Op, x.Token, x.Seq, x.Event, x.Dest, x.Upto⟩ : TCommand) = x := rfl
@[simp] theorem cell_TCommand (fr : Bool) (l : List TCommand) (i k : Nat) (hk : k < 14) : (rows fr l)[i * 14 + k]? = (rowAt fr l i)[k]? := rows_cell fr l i k hk
@[simp] theorem cell0_TCommand (fr : Bool) (l : List TCommand) (i : Nat) : (rows fr l)[i * 14]? = (rowAt fr l i)[0]? := rows_cell0 fr l i (by decide)
@[simp] theorem cellg_TCommand (fr : Bool) (l : List TCommand) (i k : Nat) (hk : k < 14) (h : i * 14 + k < (rows fr l).length) : (rows fr l)[i * 14 + k] = ((rowAt fr l i)[k]?).getD .bot := rows_cellg fr l i k hk h
@[simp] theorem cellg0_TCommand (fr : Bool) (l : List TCommand) (i : Nat) (h : i * 14 < (rows fr l).length) : (rows fr l)[i * 14] = ((rowAt fr l i)[0]?).getD .bot := rows_cellg0 fr l i (by decide) h
@[simp] theorem taken_TCommand (fr : Bool) (l : List TCommand) (i : Nat) : ((rows fr l).drop (i * 14)).take 14 = rowAt fr l i := rows_taken fr l i
@[simp] theorem part_TCommand (fr : Bool) (l : List TCommand) (i off k : Nat) (h : off + k ≤ 14) : ((rows fr l).drop (i * 14 + off)).take k = ((rowAt fr l i).drop off).take k := rows_part fr l i off k h
@[simp] theorem part0_TCommand (fr : Bool) (l : List TCommand) (i k : Nat) (h : 0 + k ≤ 14) : ((rows fr l).drop (i * 14)).take k = ((rowAt fr l i).drop 0).take k := rows_part fr l i 0 k h
@[simp] theorem sub_TCommand (fr : Bool) (l : List TCommand) (a b : Nat) : ((rows fr l).take (b * 14)).drop (a * 14) = rows fr ((l.take b).drop a) := rows_sub fr l a b
@[ext] structure TReply where
  Call : Int
  When : Int
  Index : Int
  Command : TCommand
  Text : ByteArray
  deriving DecidableEq
def TReply.prod (x : TReply) : Int × Int × Int × TCommand × ByteArray × Unit := (x.Call, x.When, x.Index, x.Command, x.Text, ())
def TReply.of (p : Int × Int × Int × TCommand × ByteArray × Unit) : TReply := ⟨p.1, p.2.1, p.2.2.1, p.2.2.2.1, p.2.2.2.2.1⟩
instance : Enc TReply where
  w := 18
  cells fr x := Enc.cells fr x.prod
  wf x := Enc.wf x.prod
  len fr a := Enc.len fr a.prod
  trv g kp fr a := Enc.trv g kp fr a.prod
  frs a := Enc.frs a.prod
  bel n fr a := Enc.bel n fr a.prod
  cel fr a := Enc.cel fr a.prod
@[simp] theorem w_TReply : Enc.w TReply = 18 := rfl
theorem cells0_TReply (fr : Bool) (x : TReply) : Enc.cells fr x = [.lit (.int .i64 x.Call), .lit (.int .i64 x.When), .lit (.int .i64 x.Index), .lit (.int .i64 x.Command.Op), .lit (.int .i64 x.Command.Token), .lit (.int .i64 x.Command.Seq), .lit (.int .i64 x.Command.Event.Id), .lit (.int .i64 x.Command.Event.Kind), .lit (.int .i64 x.Command.Event.Sender), .lit (.int .i64 x.Command.Event.User), .lit (.int .i64 x.Command.Event.Member), .rd (rows fr x.Command.Event.Levels) x.Command.Event.Levels.length false fr, .lit (.string x.Command.Event.Text), .rd (rows fr x.Command.Event.Prev) x.Command.Event.Prev.length false fr, .lit (.int .i64 x.Command.Event.Depth), .lit (.int .i64 x.Command.Dest), .lit (.int .i64 x.Command.Upto), .lit (.string x.Text)] := rfl
@[simp] theorem cells_TReply (fr : Bool) (x : TReply) : Enc.cells fr x = [.lit (.int .i64 x.Call), .lit (.int .i64 x.When), .lit (.int .i64 x.Index), .lit (.int .i64 x.Command.Op), .lit (.int .i64 x.Command.Token), .lit (.int .i64 x.Command.Seq), .lit (.int .i64 x.Command.Event.Id), .lit (.int .i64 x.Command.Event.Kind), .lit (.int .i64 x.Command.Event.Sender), .lit (.int .i64 x.Command.Event.User), .lit (.int .i64 x.Command.Event.Member), .rd (rows true x.Command.Event.Levels) x.Command.Event.Levels.length false fr, .lit (.string x.Command.Event.Text), .rd (rows true x.Command.Event.Prev) x.Command.Event.Prev.length false fr, .lit (.int .i64 x.Command.Event.Depth), .lit (.int .i64 x.Command.Dest), .lit (.int .i64 x.Command.Upto), .lit (.string x.Text)] := by cases fr <;> simp only [cells0_TReply, rows_flat]
theorem of_TReply (p : Int × Int × Int × TCommand × ByteArray × Unit) : Enc.cells false (TReply.of p) = Enc.cells false p := rfl
theorem wfof_TReply (p : Int × Int × Int × TCommand × ByteArray × Unit) (h : Enc.wf p) : Enc.wf (TReply.of p) := h
@[simp] theorem eta_TReply (x : TReply) : (⟨x.Call, x.When, x.Index, x.Command, x.Text⟩ : TReply) = x := rfl
@[simp] theorem cell_TReply (fr : Bool) (l : List TReply) (i k : Nat) (hk : k < 18) : (rows fr l)[i * 18 + k]? = (rowAt fr l i)[k]? := rows_cell fr l i k hk
@[simp] theorem cell0_TReply (fr : Bool) (l : List TReply) (i : Nat) : (rows fr l)[i * 18]? = (rowAt fr l i)[0]? := rows_cell0 fr l i (by decide)
@[simp] theorem cellg_TReply (fr : Bool) (l : List TReply) (i k : Nat) (hk : k < 18) (h : i * 18 + k < (rows fr l).length) : (rows fr l)[i * 18 + k] = ((rowAt fr l i)[k]?).getD .bot := rows_cellg fr l i k hk h
@[simp] theorem cellg0_TReply (fr : Bool) (l : List TReply) (i : Nat) (h : i * 18 < (rows fr l).length) : (rows fr l)[i * 18] = ((rowAt fr l i)[0]?).getD .bot := rows_cellg0 fr l i (by decide) h
@[simp] theorem taken_TReply (fr : Bool) (l : List TReply) (i : Nat) : ((rows fr l).drop (i * 18)).take 18 = rowAt fr l i := rows_taken fr l i
@[simp] theorem part_TReply (fr : Bool) (l : List TReply) (i off k : Nat) (h : off + k ≤ 18) : ((rows fr l).drop (i * 18 + off)).take k = ((rowAt fr l i).drop off).take k := rows_part fr l i off k h
@[simp] theorem part0_TReply (fr : Bool) (l : List TReply) (i k : Nat) (h : 0 + k ≤ 18) : ((rows fr l).drop (i * 18)).take k = ((rowAt fr l i).drop 0).take k := rows_part fr l i 0 k h
@[simp] theorem sub_TReply (fr : Bool) (l : List TReply) (a b : Nat) : ((rows fr l).take (b * 18)).drop (a * 18) = rows fr ((l.take b).drop a) := rows_sub fr l a b
@[ext] structure TEntry where
  Term : Int
  Kind : Int
  Data : ByteArray
  deriving DecidableEq
def TEntry.prod (x : TEntry) : Int × Int × ByteArray × Unit := (x.Term, x.Kind, x.Data, ())
def TEntry.of (p : Int × Int × ByteArray × Unit) : TEntry := ⟨p.1, p.2.1, p.2.2.1⟩
instance : Enc TEntry where
  w := 3
  cells fr x := Enc.cells fr x.prod
  wf x := Enc.wf x.prod
  len fr a := Enc.len fr a.prod
  trv g kp fr a := Enc.trv g kp fr a.prod
  frs a := Enc.frs a.prod
  bel n fr a := Enc.bel n fr a.prod
  cel fr a := Enc.cel fr a.prod
@[simp] theorem w_TEntry : Enc.w TEntry = 3 := rfl
theorem cells0_TEntry (fr : Bool) (x : TEntry) : Enc.cells fr x = [.lit (.int .i64 x.Term), .lit (.int .i64 x.Kind), .lit (.string x.Data)] := rfl
instance : Flat TEntry := ⟨fun _ _ => rfl⟩
@[simp] theorem cells_TEntry (fr : Bool) (x : TEntry) : Enc.cells fr x = [.lit (.int .i64 x.Term), .lit (.int .i64 x.Kind), .lit (.string x.Data)] := rfl
theorem of_TEntry (p : Int × Int × ByteArray × Unit) : Enc.cells false (TEntry.of p) = Enc.cells false p := rfl
theorem wfof_TEntry (p : Int × Int × ByteArray × Unit) (h : Enc.wf p) : Enc.wf (TEntry.of p) := h
@[simp] theorem eta_TEntry (x : TEntry) : (⟨x.Term, x.Kind, x.Data⟩ : TEntry) = x := rfl
@[simp] theorem cell_TEntry (fr : Bool) (l : List TEntry) (i k : Nat) (hk : k < 3) : (rows fr l)[i * 3 + k]? = (rowAt fr l i)[k]? := rows_cell fr l i k hk
@[simp] theorem cell0_TEntry (fr : Bool) (l : List TEntry) (i : Nat) : (rows fr l)[i * 3]? = (rowAt fr l i)[0]? := rows_cell0 fr l i (by decide)
@[simp] theorem cellg_TEntry (fr : Bool) (l : List TEntry) (i k : Nat) (hk : k < 3) (h : i * 3 + k < (rows fr l).length) : (rows fr l)[i * 3 + k] = ((rowAt fr l i)[k]?).getD .bot := rows_cellg fr l i k hk h
@[simp] theorem cellg0_TEntry (fr : Bool) (l : List TEntry) (i : Nat) (h : i * 3 < (rows fr l).length) : (rows fr l)[i * 3] = ((rowAt fr l i)[0]?).getD .bot := rows_cellg0 fr l i (by decide) h
@[simp] theorem taken_TEntry (fr : Bool) (l : List TEntry) (i : Nat) : ((rows fr l).drop (i * 3)).take 3 = rowAt fr l i := rows_taken fr l i
@[simp] theorem part_TEntry (fr : Bool) (l : List TEntry) (i off k : Nat) (h : off + k ≤ 3) : ((rows fr l).drop (i * 3 + off)).take k = ((rowAt fr l i).drop off).take k := rows_part fr l i off k h
@[simp] theorem part0_TEntry (fr : Bool) (l : List TEntry) (i k : Nat) (h : 0 + k ≤ 3) : ((rows fr l).drop (i * 3)).take k = ((rowAt fr l i).drop 0).take k := rows_part fr l i 0 k h
@[simp] theorem sub_TEntry (fr : Bool) (l : List TEntry) (a b : Nat) : ((rows fr l).take (b * 3)).drop (a * 3) = rows fr ((l.take b).drop a) := rows_sub fr l a b
@[ext] structure TApplied where
  Node : Int
  Term : Int
  Index : Int
  Entry : TEntry
  deriving DecidableEq
def TApplied.prod (x : TApplied) : Int × Int × Int × TEntry × Unit := (x.Node, x.Term, x.Index, x.Entry, ())
def TApplied.of (p : Int × Int × Int × TEntry × Unit) : TApplied := ⟨p.1, p.2.1, p.2.2.1, p.2.2.2.1⟩
instance : Enc TApplied where
  w := 6
  cells fr x := Enc.cells fr x.prod
  wf x := Enc.wf x.prod
  len fr a := Enc.len fr a.prod
  trv g kp fr a := Enc.trv g kp fr a.prod
  frs a := Enc.frs a.prod
  bel n fr a := Enc.bel n fr a.prod
  cel fr a := Enc.cel fr a.prod
@[simp] theorem w_TApplied : Enc.w TApplied = 6 := rfl
theorem cells0_TApplied (fr : Bool) (x : TApplied) : Enc.cells fr x = [.lit (.int .i64 x.Node), .lit (.int .i64 x.Term), .lit (.int .i64 x.Index), .lit (.int .i64 x.Entry.Term), .lit (.int .i64 x.Entry.Kind), .lit (.string x.Entry.Data)] := rfl
instance : Flat TApplied := ⟨fun _ _ => rfl⟩
@[simp] theorem cells_TApplied (fr : Bool) (x : TApplied) : Enc.cells fr x = [.lit (.int .i64 x.Node), .lit (.int .i64 x.Term), .lit (.int .i64 x.Index), .lit (.int .i64 x.Entry.Term), .lit (.int .i64 x.Entry.Kind), .lit (.string x.Entry.Data)] := rfl
theorem of_TApplied (p : Int × Int × Int × TEntry × Unit) : Enc.cells false (TApplied.of p) = Enc.cells false p := rfl
theorem wfof_TApplied (p : Int × Int × Int × TEntry × Unit) (h : Enc.wf p) : Enc.wf (TApplied.of p) := h
@[simp] theorem eta_TApplied (x : TApplied) : (⟨x.Node, x.Term, x.Index, x.Entry⟩ : TApplied) = x := rfl
@[simp] theorem cell_TApplied (fr : Bool) (l : List TApplied) (i k : Nat) (hk : k < 6) : (rows fr l)[i * 6 + k]? = (rowAt fr l i)[k]? := rows_cell fr l i k hk
@[simp] theorem cell0_TApplied (fr : Bool) (l : List TApplied) (i : Nat) : (rows fr l)[i * 6]? = (rowAt fr l i)[0]? := rows_cell0 fr l i (by decide)
@[simp] theorem cellg_TApplied (fr : Bool) (l : List TApplied) (i k : Nat) (hk : k < 6) (h : i * 6 + k < (rows fr l).length) : (rows fr l)[i * 6 + k] = ((rowAt fr l i)[k]?).getD .bot := rows_cellg fr l i k hk h
@[simp] theorem cellg0_TApplied (fr : Bool) (l : List TApplied) (i : Nat) (h : i * 6 < (rows fr l).length) : (rows fr l)[i * 6] = ((rowAt fr l i)[0]?).getD .bot := rows_cellg0 fr l i (by decide) h
@[simp] theorem taken_TApplied (fr : Bool) (l : List TApplied) (i : Nat) : ((rows fr l).drop (i * 6)).take 6 = rowAt fr l i := rows_taken fr l i
@[simp] theorem part_TApplied (fr : Bool) (l : List TApplied) (i off k : Nat) (h : off + k ≤ 6) : ((rows fr l).drop (i * 6 + off)).take k = ((rowAt fr l i).drop off).take k := rows_part fr l i off k h
@[simp] theorem part0_TApplied (fr : Bool) (l : List TApplied) (i k : Nat) (h : 0 + k ≤ 6) : ((rows fr l).drop (i * 6)).take k = ((rowAt fr l i).drop 0).take k := rows_part fr l i 0 k h
@[simp] theorem sub_TApplied (fr : Bool) (l : List TApplied) (a b : Nat) : ((rows fr l).take (b * 6)).drop (a * 6) = rows fr ((l.take b).drop a) := rows_sub fr l a b
@[simp] theorem fitp_3 (i n o k : Nat) (h : 0 < o + k) (hk : o + k ≤ 3) (hi : i < n) : (i * 3 + o + k ≤ n * 3) = True := by rw [Nat.add_assoc]; exact rows_fits' i n 3 (o + k) h hk hi
@[simp] theorem fitq_3 (i n k : Nat) (h : 0 < k) (hk : k ≤ 3) (hi : i < n) : (i * 3 + k ≤ n * 3) = True := rows_fits' i n 3 k h hk hi
@[simp] theorem fits_3 (i n : Nat) : (i * 3 + 3 ≤ n * 3) = (i < n) := rows_fits i n 3 (by decide)
@[simp] theorem fitp_6 (i n o k : Nat) (h : 0 < o + k) (hk : o + k ≤ 6) (hi : i < n) : (i * 6 + o + k ≤ n * 6) = True := by rw [Nat.add_assoc]; exact rows_fits' i n 6 (o + k) h hk hi
@[simp] theorem fitq_6 (i n k : Nat) (h : 0 < k) (hk : k ≤ 6) (hi : i < n) : (i * 6 + k ≤ n * 6) = True := rows_fits' i n 6 k h hk hi
@[simp] theorem fits_6 (i n : Nat) : (i * 6 + 6 ≤ n * 6) = (i < n) := rows_fits i n 6 (by decide)
@[simp] theorem fitp_9 (i n o k : Nat) (h : 0 < o + k) (hk : o + k ≤ 9) (hi : i < n) : (i * 9 + o + k ≤ n * 9) = True := by rw [Nat.add_assoc]; exact rows_fits' i n 9 (o + k) h hk hi
@[simp] theorem fitq_9 (i n k : Nat) (h : 0 < k) (hk : k ≤ 9) (hi : i < n) : (i * 9 + k ≤ n * 9) = True := rows_fits' i n 9 k h hk hi
@[simp] theorem fits_9 (i n : Nat) : (i * 9 + 9 ≤ n * 9) = (i < n) := rows_fits i n 9 (by decide)
@[simp] theorem fitp_14 (i n o k : Nat) (h : 0 < o + k) (hk : o + k ≤ 14) (hi : i < n) : (i * 14 + o + k ≤ n * 14) = True := by rw [Nat.add_assoc]; exact rows_fits' i n 14 (o + k) h hk hi
@[simp] theorem fitq_14 (i n k : Nat) (h : 0 < k) (hk : k ≤ 14) (hi : i < n) : (i * 14 + k ≤ n * 14) = True := rows_fits' i n 14 k h hk hi
@[simp] theorem fits_14 (i n : Nat) : (i * 14 + 14 ≤ n * 14) = (i < n) := rows_fits i n 14 (by decide)
@[simp] theorem fitp_18 (i n o k : Nat) (h : 0 < o + k) (hk : o + k ≤ 18) (hi : i < n) : (i * 18 + o + k ≤ n * 18) = True := by rw [Nat.add_assoc]; exact rows_fits' i n 18 (o + k) h hk hi
@[simp] theorem fitq_18 (i n k : Nat) (h : 0 < k) (hk : k ≤ 18) (hi : i < n) : (i * 18 + k ≤ n * 18) = True := rows_fits' i n 18 k h hk hi
@[simp] theorem fits_18 (i n : Nat) : (i * 18 + 18 ≤ n * 18) = (i < n) := rows_fits i n 18 (by decide)
end Go.Proofs.Ytjleanfcjipofaa.Eng
