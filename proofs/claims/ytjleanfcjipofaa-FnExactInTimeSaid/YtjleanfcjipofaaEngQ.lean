/- Plain Lean data for the structs of the program, told as cells. No condition. -/
import Derived.Test.YtjleanfcjipofaaEngP
namespace Go.Proofs.Ytjleanfcjipofaa.Eng
open Go Go.RowKit
@[ext] structure Event where
  id : Int
  kind : Int
  sender : Int
  user : Int
  member : Int
  levels : List Int
  text : ByteArray
  prev : List Int
  depth : Int
def Event.prod (x : Event) : Int × Int × Int × Int × Int × (List Int) × ByteArray × (List Int) × Int × Unit := (x.id, x.kind, x.sender, x.user, x.member, x.levels, x.text, x.prev, x.depth, ())
def Event.of (p : Int × Int × Int × Int × Int × (List Int) × ByteArray × (List Int) × Int × Unit) : Event := ⟨p.1, p.2.1, p.2.2.1, p.2.2.2.1, p.2.2.2.2.1, p.2.2.2.2.2.1, p.2.2.2.2.2.2.1, p.2.2.2.2.2.2.2.1, p.2.2.2.2.2.2.2.2.1⟩
instance : Enc Event where
  w := 9
  cells fr x := Enc.cells fr x.prod
  wf x := Enc.wf x.prod
  len fr a := Enc.len fr a.prod
  trv g kp fr a := Enc.trv g kp fr a.prod
  frs a := Enc.frs a.prod
  bel n fr a := Enc.bel n fr a.prod
  cel fr a := Enc.cel fr a.prod
@[simp] theorem w_Event : Enc.w Event = 9 := rfl
@[simp] theorem cells_Event (fr : Bool) (x : Event) : Enc.cells fr x = [.lit (.int .i64 x.id), .lit (.int .i64 x.kind), .lit (.int .i64 x.sender), .lit (.int .i64 x.user), .lit (.int .i64 x.member), .rd (rows fr x.levels) x.levels.length false fr, .lit (.string x.text), .rd (rows fr x.prev) x.prev.length false fr, .lit (.int .i64 x.depth)] := rfl
theorem of_Event (p : Int × Int × Int × Int × Int × (List Int) × ByteArray × (List Int) × Int × Unit) : Enc.cells false (Event.of p) = Enc.cells false p := rfl
theorem wfof_Event (p : Int × Int × Int × Int × Int × (List Int) × ByteArray × (List Int) × Int × Unit) (h : Enc.wf p) : Enc.wf (Event.of p) := h
@[ext] structure Command where
  op : Int
  token : Int
  seq : Int
  event : Event
  dest : Int
  upto : Int
def Command.prod (x : Command) : Int × Int × Int × Event × Int × Int × Unit := (x.op, x.token, x.seq, x.event, x.dest, x.upto, ())
def Command.of (p : Int × Int × Int × Event × Int × Int × Unit) : Command := ⟨p.1, p.2.1, p.2.2.1, p.2.2.2.1, p.2.2.2.2.1, p.2.2.2.2.2.1⟩
instance : Enc Command where
  w := 14
  cells fr x := Enc.cells fr x.prod
  wf x := Enc.wf x.prod
  len fr a := Enc.len fr a.prod
  trv g kp fr a := Enc.trv g kp fr a.prod
  frs a := Enc.frs a.prod
  bel n fr a := Enc.bel n fr a.prod
  cel fr a := Enc.cel fr a.prod
@[simp] theorem w_Command : Enc.w Command = 14 := rfl
@[simp] theorem cells_Command (fr : Bool) (x : Command) : Enc.cells fr x = [.lit (.int .i64 x.op), .lit (.int .i64 x.token), .lit (.int .i64 x.seq), .lit (.int .i64 x.event.id), .lit (.int .i64 x.event.kind), .lit (.int .i64 x.event.sender), .lit (.int .i64 x.event.user), .lit (.int .i64 x.event.member), .rd (rows fr x.event.levels) x.event.levels.length false fr, .lit (.string x.event.text), .rd (rows fr x.event.prev) x.event.prev.length false fr, .lit (.int .i64 x.event.depth), .lit (.int .i64 x.dest), .lit (.int .i64 x.upto)] := rfl
theorem of_Command (p : Int × Int × Int × Event × Int × Int × Unit) : Enc.cells false (Command.of p) = Enc.cells false p := rfl
theorem wfof_Command (p : Int × Int × Int × Event × Int × Int × Unit) (h : Enc.wf p) : Enc.wf (Command.of p) := h
@[ext] structure Reply where
  call : Int
  whenn : Int
  index : Int
  command : Command
  text : ByteArray
def Reply.prod (x : Reply) : Int × Int × Int × Command × ByteArray × Unit := (x.call, x.whenn, x.index, x.command, x.text, ())
def Reply.of (p : Int × Int × Int × Command × ByteArray × Unit) : Reply := ⟨p.1, p.2.1, p.2.2.1, p.2.2.2.1, p.2.2.2.2.1⟩
instance : Enc Reply where
  w := 18
  cells fr x := Enc.cells fr x.prod
  wf x := Enc.wf x.prod
  len fr a := Enc.len fr a.prod
  trv g kp fr a := Enc.trv g kp fr a.prod
  frs a := Enc.frs a.prod
  bel n fr a := Enc.bel n fr a.prod
  cel fr a := Enc.cel fr a.prod
@[simp] theorem w_Reply : Enc.w Reply = 18 := rfl
@[simp] theorem cells_Reply (fr : Bool) (x : Reply) : Enc.cells fr x = [.lit (.int .i64 x.call), .lit (.int .i64 x.whenn), .lit (.int .i64 x.index), .lit (.int .i64 x.command.op), .lit (.int .i64 x.command.token), .lit (.int .i64 x.command.seq), .lit (.int .i64 x.command.event.id), .lit (.int .i64 x.command.event.kind), .lit (.int .i64 x.command.event.sender), .lit (.int .i64 x.command.event.user), .lit (.int .i64 x.command.event.member), .rd (rows fr x.command.event.levels) x.command.event.levels.length false fr, .lit (.string x.command.event.text), .rd (rows fr x.command.event.prev) x.command.event.prev.length false fr, .lit (.int .i64 x.command.event.depth), .lit (.int .i64 x.command.dest), .lit (.int .i64 x.command.upto), .lit (.string x.text)] := rfl
theorem of_Reply (p : Int × Int × Int × Command × ByteArray × Unit) : Enc.cells false (Reply.of p) = Enc.cells false p := rfl
theorem wfof_Reply (p : Int × Int × Int × Command × ByteArray × Unit) (h : Enc.wf p) : Enc.wf (Reply.of p) := h
@[ext] structure Entry where
  term : Int
  kind : Int
  data : ByteArray
def Entry.prod (x : Entry) : Int × Int × ByteArray × Unit := (x.term, x.kind, x.data, ())
def Entry.of (p : Int × Int × ByteArray × Unit) : Entry := ⟨p.1, p.2.1, p.2.2.1⟩
instance : Enc Entry where
  w := 3
  cells fr x := Enc.cells fr x.prod
  wf x := Enc.wf x.prod
  len fr a := Enc.len fr a.prod
  trv g kp fr a := Enc.trv g kp fr a.prod
  frs a := Enc.frs a.prod
  bel n fr a := Enc.bel n fr a.prod
  cel fr a := Enc.cel fr a.prod
@[simp] theorem w_Entry : Enc.w Entry = 3 := rfl
@[simp] theorem cells_Entry (fr : Bool) (x : Entry) : Enc.cells fr x = [.lit (.int .i64 x.term), .lit (.int .i64 x.kind), .lit (.string x.data)] := rfl
theorem of_Entry (p : Int × Int × ByteArray × Unit) : Enc.cells false (Entry.of p) = Enc.cells false p := rfl
theorem wfof_Entry (p : Int × Int × ByteArray × Unit) (h : Enc.wf p) : Enc.wf (Entry.of p) := h
@[ext] structure Applied where
  node : Int
  term : Int
  index : Int
  entry : Entry
def Applied.prod (x : Applied) : Int × Int × Int × Entry × Unit := (x.node, x.term, x.index, x.entry, ())
def Applied.of (p : Int × Int × Int × Entry × Unit) : Applied := ⟨p.1, p.2.1, p.2.2.1, p.2.2.2.1⟩
instance : Enc Applied where
  w := 6
  cells fr x := Enc.cells fr x.prod
  wf x := Enc.wf x.prod
  len fr a := Enc.len fr a.prod
  trv g kp fr a := Enc.trv g kp fr a.prod
  frs a := Enc.frs a.prod
  bel n fr a := Enc.bel n fr a.prod
  cel fr a := Enc.cel fr a.prod
@[simp] theorem w_Applied : Enc.w Applied = 6 := rfl
@[simp] theorem cells_Applied (fr : Bool) (x : Applied) : Enc.cells fr x = [.lit (.int .i64 x.node), .lit (.int .i64 x.term), .lit (.int .i64 x.index), .lit (.int .i64 x.entry.term), .lit (.int .i64 x.entry.kind), .lit (.string x.entry.data)] := rfl
theorem of_Applied (p : Int × Int × Int × Entry × Unit) : Enc.cells false (Applied.of p) = Enc.cells false p := rfl
theorem wfof_Applied (p : Int × Int × Int × Entry × Unit) (h : Enc.wf p) : Enc.wf (Applied.of p) := h
end Go.Proofs.Ytjleanfcjipofaa.Eng
