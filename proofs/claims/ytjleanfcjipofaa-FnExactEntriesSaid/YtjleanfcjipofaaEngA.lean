/- The engine, part A: abstract values, a small abstract heap, and the abstract run of one operation. Definitions alone; no condition. -/
import Derived.Below
import Derived.Orders
import Derived.Deep.Draws
import Derived.Maps.AppendAt
import Derived.Laws.BytesArg
import Derived.DeepKeys
set_option linter.all false
namespace Go.Proofs.Ytjleanfcjipofaa.Eng
open Go

/-- An abstract value. 'rd': a slice whose cells are known and that nobody writes (cs: its cells; n: its length; full: its capacity is its length; fr: its row was made by this call). 'rp': a pointer into such a row. 'sl', 'ptr': a slice of, a pointer into, a block of the abstract heap (at this version of it). 'bot': whatever. -/
inductive PV where
  | lit (v : Value)
  | agg (cs : List PV)
  | tup (vs : List PV)
  | rd (cs : List PV) (n : Nat) (full fr : Bool)
  | rp (cs : List PV) (off : Nat) (fr : Bool)
  | sl (b ver off n : Nat)
  | ptr (b ver off : Nat)
  | fn (f : FuncId) (caps : List PV)
  | bot
  deriving Inhabited

/-- A block of the abstract heap: the type of its elements, how often it has grown, its cells. -/
structure Blk where
  e : TypeId
  ver : Nat
  cs : List PV

abbrev Hp := List (Option Blk)

/-- What is asked of a type. -/
structure TI where
  d : TypeDesc
  size : Nat
  bytes : Nat
  zero : Value

def ti (P : Program) (t : TypeId) : Option TI :=
  match P.underlying t, P.info? t with
  | some d, some i => match i.zero with
    | some z => some ⟨d, i.size, i.bytes, z⟩
    | none => none
  | _, _ => none

/-- A value of one cell that bears no address. -/
def flat : Value → Bool
  | .bool _ | .int _ _ | .string _ | .nilFunc | .nilIface | .pointer none | .map none => true
  | _ => false
def ofCell : Value → PV
  | .slice none 0 0 => .rd [] 0 true true
  | v => if flat v then .lit v else .bot
def ofConst : Value → PV
  | .agg cs => .agg (cs.toList.map ofCell)
  | v => ofCell v

def isCell : PV → Bool
  | .lit _ | .rd .. | .rp .. | .sl .. | .ptr .. | .fn .. => true
  | _ => false
def isVal : PV → Bool
  | .bot | .tup _ => false
  | _ => true
def cellsOf : PV → List PV
  | .agg cs => cs
  | p => [p]

def peval (A : List PV) : Operand → PV
  | .tmp t => (A[t]?).getD .bot
  | .const v => ofConst v
  | .func f => .fn f []
  | .global _ => .bot

/-- What an operation leaves: its value; blocks of the heap that are other ones now; new blocks. -/
structure Res where
  v : PV
  upd : List (Nat × Blk) := []
  new : List Blk := []

def Hp.upds (H : Hp) : List (Nat × Blk) → Hp
  | [] => H
  | (b, k) :: r => Hp.upds (H.set b (some k)) r
def Hp.app (H : Hp) (r : Res) : Hp := (H.upds r.upd) ++ r.new.map some

def blkAt (H : Hp) (b ver : Nat) : Option Blk :=
  match H[b]? with
  | some (some k) => if k.ver = ver then some k else none
  | _ => none

def isAggD : TypeDesc → Bool
  | .struct _ | .array _ _ => true
  | _ => false

def takeCells (i : TI) (cs : List PV) (off : Nat) : Option PV :=
  if isAggD i.d then (if off + i.size ≤ cs.length then some (.agg ((cs.drop off).take i.size)) else none) else cs[off]?

def over {α : Type} (cs : List α) (off : Nat) (new : List α) : List α := cs.take off ++ new ++ cs.drop (off + new.length)

def loadP (P : Program) (H : Hp) (t : TypeId) : PV → Option PV
  | .ptr b ver off => (ti P t).bind fun i => (blkAt H b ver).bind fun k => takeCells i k.cs off
  | .rp cs off _ => (ti P t).bind fun i => takeCells i cs off
  | _ => none

def storeP (P : Program) (H : Hp) (t : TypeId) (x : PV) : PV → Option (Nat × Blk)
  | .ptr b ver off => (ti P t).bind fun i => (blkAt H b ver).bind fun k =>
      if (cellsOf x).length = i.size ∧ (cellsOf x).all isCell = true ∧ off + i.size ≤ k.cs.length then some (b, { k with cs := over k.cs off (cellsOf x) }) else none
  | _ => none

/-- The parts of a composite, each at its place. -/
def fillP (place : Nat → Option (Nat × Nat)) : List PV → List (Nat × PV) → Option (List PV)
  | cs, [] => some cs
  | cs, (i, x) :: r => (place i).bind fun pl =>
      if isVal x = true ∧ (cellsOf x).length = pl.2 ∧ pl.1 + pl.2 ≤ cs.length then fillP place (over cs pl.1 (cellsOf x)) r else none

/-- Where the fields of a struct lie, and of what size. -/
def placesOf (P : Program) (s : TypeId) : Option (List (Nat × Nat)) :=
  match P.underlying s with
  | some (.struct fs) => fs.toList.mapM fun fd => (P.info? fd.type).map fun j => (fd.offset, j.size)
  | _ => none
def fieldOf (P : Program) (s : TypeId) (f : Nat) : Option (Nat × Nat) := (placesOf P s).bind fun l => l[f]?

def bitsOp (op : BinOp) (k : IntKind) (x y : Int) : Int :=
  let a := BitVec.ofInt k.bits x
  let b := BitVec.ofInt k.bits y
  k.wrap (match op with
    | .and => (a &&& b).toNat
    | .or => (a ||| b).toNat
    | .xor => (a ^^^ b).toNat
    | _ => (a &&& ~~~b).toNat)

def intBin (op : BinOp) (k : IntKind) (a b : Int) : Option Value :=
  match op with
  | .add => some (.int k (k.wrap (a + b)))
  | .sub => some (.int k (k.wrap (a - b)))
  | .mul => some (.int k (k.wrap (a * b)))
  | .quo => if b = 0 then none else some (.int k (k.wrap (a.tdiv b)))
  | .rem => if b = 0 then none else some (.int k (a.tmod b))
  | .and | .or | .xor | .andNot => some (.int k (bitsOp op k a b))
  | .eql => some (.bool (a == b))
  | .neq => some (.bool (a != b))
  | .lss => some (.bool (decide (a < b)))
  | .leq => some (.bool (decide (a ≤ b)))
  | .gtr => some (.bool (decide (a > b)))
  | .geq => some (.bool (decide (a ≥ b)))
  | _ => none

def shiftBin (op : BinOp) (k : IntKind) (a b : Int) : Option Value :=
  if b < 0 then none else match op with
  | .shl => some (.int k (k.wrap (a * 2 ^ min b.toNat k.bits)))
  | .shr => some (.int k (a.fdiv (2 ^ min b.toNat k.bits)))
  | _ => none

def strBin (op : BinOp) (a b : ByteArray) : Option Value :=
  match op with
  | .add => if a.size + b.size ≤ 9223372036854775807 then some (.string (a ++ b)) else none
  | .eql => some (.bool (a.toList == b.toList))
  | .neq => some (.bool (!(a.toList == b.toList)))
  | .lss => some (.bool (Op.bytesLess a.toList b.toList))
  | .leq => some (.bool (Op.bytesLess a.toList b.toList || a.toList == b.toList))
  | .gtr => some (.bool (!(Op.bytesLess a.toList b.toList || a.toList == b.toList)))
  | .geq => some (.bool (!Op.bytesLess a.toList b.toList))
  | _ => none

def litBin (op : BinOp) (x y : Value) : Option Value :=
  match op, x, y with
  | .shl, .int k a, .int _ b | .shr, .int k a, .int _ b => shiftBin op k a b
  | _, .int k a, .int k' b => if k = k' then intBin op k a b else none
  | _, .string a, .string b => strBin op a b
  | _, _, _ => none
def boolBin (op : BinOp) (a b : Bool) : Option Value :=
  match op with
  | .eql => some (.bool (a == b))
  | .neq => some (.bool (!(a == b)))
  | _ => none

/-- The cells of two structs, one by one, each of its kind: 0 an int, 1 a bool, 2 a string. -/
def cellsEq : List Nat → List PV → List PV → Option Bool
  | [], [], [] => some true
  | 0 :: ks, .lit (.int k a) :: r, .lit (.int k' b) :: s => if k = k' then (cellsEq ks r s).map fun t => (a == b) && t else none
  | 1 :: ks, .lit (.bool a) :: r, .lit (.bool b) :: s => (cellsEq ks r s).map fun t => (a == b) && t
  | 2 :: ks, .lit (.string a) :: r, .lit (.string b) :: s => (cellsEq ks r s).map fun t => (a.toList == b.toList) && t
  | _, _, _ => none

/-- The kinds of a struct's fields, each plain and of one cell. -/
def plainFields (P : Program) : Nat → List Field → Option (List Nat)
  | _, [] => some []
  | j, f :: r => if f.offset = j ∧ (f.name != "_") = true then
      match P.underlying f.type with
      | some (.int _) => (plainFields P (j + 1) r).map (0 :: ·)
      | some .bool => (plainFields P (j + 1) r).map (1 :: ·)
      | some .string => (plainFields P (j + 1) r).map (2 :: ·)
      | _ => none
    else none
def plainKinds (P : Program) (t : TypeId) : Option (List Nat) :=
  match P.underlying t with
  | some (.struct fs) => if P.stoodInHeld t = false ∧ P.eqGuardType P.depth t = false then plainFields P 0 fs.toList else none
  | _ => none

def binP (P : Program) (op : BinOp) (t : TypeId) : PV → PV → Option PV
  | .lit (.bool a), .lit (.bool b) => match P.underlying t with
    | some .bool => (boolBin op a b).map .lit
    | _ => none
  | .lit x, .lit y => (litBin op x y).map .lit
  | .agg xs, .agg ys => (plainKinds P t).bind fun ks => match op with
      | .eql => (cellsEq ks xs ys).map fun b => .lit (.bool b)
      | .neq => (cellsEq ks xs ys).map fun b => .lit (.bool (!b))
      | _ => none
  | _, _ => none

def unP (op : UnOp) : PV → Option PV
  | .lit (.bool b) => match op with
    | .not => some (.lit (.bool (!b)))
    | _ => none
  | .lit (.int k n) => match op with
    | .neg => some (.lit (.int k (k.wrap (0 - n))))
    | .xor => some (.lit (.int k (bitsOp .xor k (if k.signed then -1 else k.max) n)))
    | _ => none
  | _ => none

/-- The bytes that cells hold. -/
def bytesOfCells : List PV → Option (List UInt8)
  | [] => some []
  | .lit (.int .u8 n) :: r => (bytesOfCells r).map (UInt8.ofNat n.toNat :: ·)
  | _ => none

/-- A slice's cells and its length. -/
def sliceOf (P : Program) (H : Hp) : PV → Option (List PV × Nat)
  | .rd cs n _ _ => some (cs, n)
  | .sl b ver off n => (blkAt H b ver).bind fun k => (P.info? k.e).bind fun i => if off + n * i.size ≤ k.cs.length then some ((k.cs.drop off).take (n * i.size), n) else none
  | _ => none
def lenS : PV → Option Nat
  | .rd _ n _ _ => some n
  | .sl _ _ _ n => some n
  | _ => none
def lenT : PV → Option Nat
  | .lit (.string s) => some s.size
  | _ => none
def lenP : PV → Option Nat
  | .rd _ n _ _ => some n
  | .sl _ _ _ n => some n
  | .lit (.string s) => some s.size
  | _ => none

def convP (P : Program) (H : Hp) (src dst : TypeId) (x : PV) : Option PV :=
  (P.underlying src).bind fun s => (P.underlying dst).bind fun d =>
  match s, d, x with
  | .int _, .int k, .lit (.int _ n) => some (.lit (.int k (k.wrap n)))
  | .string, .string, .lit (.string t) => some (.lit (.string t))
  | .string, .slice e, .lit (.string t) => match P.underlying e with
    | some (.int .u8) => some (.rd (t.data.toList.map fun b => .lit (.int .u8 b.toNat)) t.size false true)
    | _ => none
  | .slice e, .string, x => match P.underlying e, P.info? e with
    | some (.int .u8), some i => if i.size = 1 then (sliceOf P H x).bind fun c => if c.1.length = c.2 then (bytesOfCells c.1).map fun l => .lit (.string ⟨l.toArray⟩) else none else none
    | _, _ => none
  | _, _, _ => none

def idx : PV → Option Int
  | .lit (.int _ i) => some i
  | _ => none

def indexAddrP (P : Program) (H : Hp) (t : TypeId) (x ix : PV) : Option PV :=
  (idx ix).bind fun i => match P.underlying t with
  | some (.slice e) => (P.info? e).bind fun j => match x with
    | .rd cs n _ fr => if 0 ≤ i ∧ i < (n : Int) ∧ cs ≠ [] then some (.rp cs (i.toNat * j.size) fr) else none
    | .sl b ver off n => (blkAt H b ver).bind fun k => if k.e = e ∧ 0 ≤ i ∧ i < (n : Int) then some (.ptr b ver (off + i.toNat * j.size)) else none
    | _ => none
  | _ => none

def indexP (P : Program) (t : TypeId) (x ix : PV) : Option PV :=
  match x, ix, P.underlying t with
  | .lit (.string s), .lit (.int _ i), some .string => if 0 ≤ i then (s[i.toNat]?).map fun b => .lit (.int .u8 b.toNat) else none
  | _, _, _ => none

def bound (x : Option PV) (d : Int) : Option Int :=
  match x with
  | none => some d
  | some p => idx p

def sliceP (P : Program) (H : Hp) (t : TypeId) (x : PV) (lo hi : Option PV) : Option PV :=
  (lenP x).bind fun n => (bound lo 0).bind fun l => (bound hi n).bind fun h => if 0 ≤ l ∧ l ≤ h ∧ h ≤ (n : Int) then
    match x with
    | .lit v => match v, P.underlying t with
      | .string s, some .string => some (.lit (.string (s.extract l.toNat h.toNat)))
      | _, _ => none
    | .rd cs _ _ fr => match P.underlying t with
      | some (.slice e) => (P.info? e).map fun j => .rd ((cs.take (h.toNat * j.size)).drop (l.toNat * j.size)) (h.toNat - l.toNat) false fr
      | _ => none
    | .sl b ver off _ => match P.underlying t with
      | some (.slice e) => (P.info? e).bind fun j => (blkAt H b ver).bind fun k => if k.e = e then some (.sl b ver (off + l.toNat * j.size) (h.toNat - l.toNat)) else none
      | _ => none
    | _ => none
  else none

/-- 2^47: beyond it no append is spoken of. -/
def room : Nat := 140737488355328

/-- The version of a block that grows to k elements. -/
def nx (v k : Nat) : Nat := max (v + 1) k

/-- append(s, x...): the cells that come behind. -/
def appendP (P : Program) (H : Hp) (t : TypeId) (s : PV) (new : List PV) (m : Nat) : Option Res :=
  match P.underlying t with
  | some (.slice e) => (ti P e).bind fun j =>
    if new.length = m * j.size ∧ 0 < j.size ∧ 0 < j.bytes ∧ (cellsOf (ofConst j.zero)).length = j.size ∧ new.all isCell = true then
      match s with
      | .rd cs n true fr => if (n + m) * j.bytes ≤ room ∧ cs.length = n * j.size ∧ cs.all isCell = true ∧ (n = 0 ∨ 0 < m) then some ⟨.sl H.length (n + m) 0 (n + m), [], [⟨e, n + m, cs ++ new⟩]⟩ else none
      | .sl b ver 0 n => (blkAt H b ver).bind fun k =>
          if (n + m) * j.bytes ≤ room ∧ k.cs.length = n * j.size ∧ k.e = e then some ⟨.sl b (nx ver (n + m)) 0 (n + m), [(b, ⟨e, nx ver (n + m), k.cs ++ new⟩)], []⟩
          else if k.e = e ∧ (n + m) * j.size ≤ k.cs.length then some ⟨.sl b ver 0 (n + m), [(b, { k with cs := over k.cs (n * j.size) new })], []⟩
          else none
      | _ => none
    else none
  | _ => none

def minP : PV → PV → Option PV
  | .lit (.int k a), .lit (.int k' b) => if k = k' then some (.lit (.int k (if b < a then b else a))) else none
  | _, _ => none
def maxP : PV → PV → Option PV
  | .lit (.int k a), .lit (.int k' b) => if k = k' then some (.lit (.int k (if b > a then b else a))) else none
  | _, _ => none

def builtinP (P : Program) (H : Hp) (b : Builtin) (ts : Array TypeId) (xs : List PV) : Option Res :=
  match b, xs with
  | .len, [x] => match ts[0]?.bind P.underlying with
    | some (.slice _) => (lenS x).map fun (n : Nat) => ⟨.lit (.int .i64 (n : Int)), [], []⟩
    | some .string => (lenT x).map fun (n : Nat) => ⟨.lit (.int .i64 (n : Int)), [], []⟩
    | _ => none
  | .append, [s, x] => match ts[0]?, ts[1]? with
    | some t, some u => match P.underlying u, x with
      | some (.slice _), _ => (sliceOf P H x).bind fun c => appendP P H t s c.1 c.2
      | some .string, .lit (.string y) => appendP P H t s (y.data.toList.map fun b => .lit (.int .u8 b.toNat)) y.size
      | _, _ => none
    | _, _ => none
  | .min, [x, y] => (minP x y).map fun v => ⟨v, [], []⟩
  | .max, [x, y] => (maxP x y).map fun v => ⟨v, [], []⟩
  | _, _ => none

def makeSliceP (P : Program) (H : Hp) (t : TypeId) (len cap : PV) : Option Res :=
  match P.underlying t, len, cap with
  | some (.slice e), .lit (.int _ l), .lit (.int _ c) => (ti P e).bind fun j =>
    if l ≤ c ∧ 0 ≤ l ∧ c * j.bytes ≤ room ∧ c ≤ 9223372036854775807 ∧ 0 < j.size ∧ (cellsOf (ofConst j.zero)).length = j.size then
      some ⟨.sl H.length 0 0 l.toNat, [], [⟨e, 0, (List.replicate l.toNat (cellsOf (ofConst j.zero))).flatten⟩]⟩ else none
  | _, _, _ => none

def one (v : Option PV) : Option Res := v.map fun v => ⟨v, [], []⟩

/-- The abstract run of an operation that is no call of a function. -/
def aop (P : Program) (o : Op) (ρ : Operand → PV) (H : Hp) : Option Res :=
  match o with
  | .move x | .assign x => one (some (ρ x))
  | .pick c a b => match ρ c with
    | .lit (.bool t) => one (some (if t then ρ a else ρ b))
    | _ => none
  | .alloc e => (ti P e).map fun i => ⟨.ptr H.length 0 0, [], [⟨e, 0, cellsOf (ofConst i.zero)⟩]⟩
  | .box e x => if isVal (ρ x) then some ⟨.ptr H.length 0 0, [], [⟨e, 0, cellsOf (ρ x)⟩]⟩ else none
  | .build t parts => (ti P t).bind fun i => (placesOf P t).bind fun l => (fillP (fun i => l[i]?) (cellsOf (ofConst i.zero)) (parts.toList.map fun q => (q.1, ρ q.2))).bind fun cs => one (some (.agg cs))
  | .buildSlice t len parts => match P.underlying t with
    | some (.slice e) => (ti P e).bind fun j => if len * j.size ≤ 16777216 ∧ 0 < j.size ∧ (cellsOf (ofConst j.zero)).length = j.size then
        (fillP (fun i => some (i * j.size, j.size)) (List.replicate len (cellsOf (ofConst j.zero))).flatten (parts.toList.map fun q => (q.1, ρ q.2))).bind fun cs => one (some (.rd cs len true true)) else none
    | _ => none
  | .load t a => one (loadP P H t (ρ a))
  | .store t a x => (storeP P H t (ρ x) (ρ a)).map fun u => ⟨.tup [], [u], []⟩
  | .nilCheck x => match ρ x with
    | .ptr b ver off => (blkAt H b ver).bind fun _ => one (some (.ptr b ver off))
    | .rp cs off fr => one (some (.rp cs off fr))
    | .fn f caps => one (some (.fn f caps))
    | _ => none
  | .binOp op t x y _ => one (binP P op t (ρ x) (ρ y))
  | .unOp op _ x => one (unP op (ρ x))
  | .convert src dst x => one (convP P H src dst (ρ x))
  | .makeFunc (.func f) first caps => if first.isEmpty then one (some (.fn f (caps.toList.map ρ))) else none
  | .makeSlice t l c => makeSliceP P H t (ρ l) (ρ c)
  | .slice t x lo hi none => one (sliceP P H t (ρ x) (lo.map ρ) (hi.map ρ))
  | .fieldAddr s x f => (fieldOf P s f).bind fun q => if q.2 = 0 then none else match ρ x with
    | .ptr b ver off => (blkAt H b ver).bind fun _ => one (some (.ptr b ver (off + q.1)))
    | .rp cs off fr => one (some (.rp cs (off + q.1) fr))
    | _ => none
  | .indexAddr t x ix => one (indexAddrP P H t (ρ x) (ρ ix))
  | .index t x ix => one (indexP P t (ρ x) (ρ ix))
  | .extract x i => match ρ x with
    | .tup vs => one (vs[i]?)
    | _ => none
  | .call { callee := .builtin b, args, argTypes } => builtinP P H b argTypes (args.toList.map ρ)
  | _ => none

end Go.Proofs.Ytjleanfcjipofaa.Eng
