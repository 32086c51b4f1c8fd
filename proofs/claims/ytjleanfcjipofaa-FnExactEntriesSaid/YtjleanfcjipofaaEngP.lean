/- The engine, part P: the words for running a function of a program by 'simp'. No condition. -/
import Derived.Test.YtjleanfcjipofaaEngO
set_option linter.all false
namespace Go.Proofs.Ytjleanfcjipofaa.Eng
open Go Go.RowKit

/-- The bodies of a code's loops, outermost first. -/
def loopsOf : Code → List Code
  | .seq a b => loopsOf a ++ loopsOf b
  | .cond _ a b => loopsOf a ++ loopsOf b
  | .block _ b => loopsOf b
  | .loop b => b :: loopsOf b
  | _ => []
/-- The i-th loop of a function. -/
def lp (fn : Func) (i : Nat) : Code := ((loopsOf (fn.body.getD .skip))[i]?).getD .skip

theorem wrap_id {n : Int} (h : -9223372036854775808 ≤ n) (h' : n ≤ 9223372036854775807) : IntKind.i64.wrap n = n := by
  unfold IntKind.wrap
  simp only [IntKind.bits, IntKind.signed, Bool.true_and, decide_eq_true_eq, Int.reducePow, Nat.reduceSub, ge_iff_le]
  split <;> omega

/-! ### Code, one step at a time: only from a state that is known -/

/-- 'bind', under a name that the kernel does not look through on its own. -/
def _root_.Option.obind {α β : Type} (o : Option α) (f : α → Option β) : Option β := o.bind f
@[simp] theorem obind_some {α β : Type} (a : α) (f : α → Option β) : (some a).obind f = f a := Eq.trans rfl rfl
@[simp] theorem obind_ite {α β : Type} (c : Prop) [Decidable c] (x y : Option α) (f : α → Option β) : (if c then x else y).obind f = if c then x.obind f else y.obind f := by split <;> rfl
@[simp] theorem obind_none {α β : Type} (f : α → Option β) : (none : Option α).obind f = none := Eq.trans rfl rfl

def seqK (f : St → Option (Ex × St)) : Ex × St → Option (Ex × St)
  | (.normal, s) => f s
  | (.exit i, s) => some (.exit i, s)
  | (.ret, s) => some (.ret, s)
def nK (s : St) : Option (Ex × St) := some (.normal, s)
def condK (p : PV) (f g : St → Option (Ex × St)) (s : St) : Option (Ex × St) :=
  match p with
  | .lit (.bool true) => f s
  | .lit (.bool false) => g s
  | _ => none
def blockK (id : Nat) : Ex × St → Option (Ex × St)
  | (.exit i, s) => if i = id then some (.normal, s) else some (.exit i, s)
  | r => some r
def putK (A : List PV) (dst : Option Tmp) (r : PV × Hp) : Option St := some ⟨putP A dst r.1, r.2⟩
def appK (H : Hp) (r : Res) : Option (PV × Hp) := some (r.v, H.app r)
def callK (Ω : Orc) (f : PV) (args : List PV) (H : Hp) : Option (PV × Hp) :=
  match f with
  | .fn g caps => Ω g (args ++ caps) H
  | _ => none
def endK (P : Program) (l : List ResultVar) : Ex × St → Option (PV × Hp)
  | (.exit _, _) => none
  | (_, s) => (resultsOf P s.H s.A l).map fun v => (v, s.H)
def wantK (b : Option Bool) (f : St → Option (PV × Hp)) (A : List PV) (dst : Option Tmp) (H : Hp) : Option St :=
  match b with
  | some true => (f ⟨A, H⟩).bind (putK A dst)
  | some false => some ⟨putP A dst (.tup []), H⟩
  | none => none

section
variable {P : Program} {Ω : Orc} {M : Mask} {MM : Nat → Mask} {D : Drawn} {n : Nat} {A : List PV} {H : Hp}

@[simp] theorem seqK_n (f : St → Option (Ex × St)) (s : St) : seqK f (.normal, s) = f s := Eq.trans rfl rfl
@[simp] theorem seqK_e (f : St → Option (Ex × St)) (i : Nat) (s : St) : seqK f (.exit i, s) = some (.exit i, s) := Eq.trans rfl rfl
@[simp] theorem seqK_r (f : St → Option (Ex × St)) (s : St) : seqK f (.ret, s) = some (.ret, s) := Eq.trans rfl rfl
@[simp] theorem nK_s (s : St) : nK s = some (.normal, s) := Eq.trans rfl rfl
@[simp] theorem condK_t (f g : St → Option (Ex × St)) (s : St) : condK (.lit (.bool true)) f g s = f s := Eq.trans rfl rfl
@[simp] theorem condK_f (f g : St → Option (Ex × St)) (s : St) : condK (.lit (.bool false)) f g s = g s := Eq.trans rfl rfl
@[simp] theorem condK_if (b : Bool) (f g : St → Option (Ex × St)) (s : St) : condK (.lit (.bool b)) f g s = if b = true then f s else g s := by cases b <;> rfl
@[simp] theorem blockK_n (id : Nat) (s : St) : blockK id (.normal, s) = some (.normal, s) := Eq.trans rfl rfl
@[simp] theorem blockK_r (id : Nat) (s : St) : blockK id (.ret, s) = some (.ret, s) := Eq.trans rfl rfl
@[simp] theorem blockK_e (id i : Nat) (s : St) : blockK id (.exit i, s) = if i = id then some (.normal, s) else some (.exit i, s) := Eq.trans rfl rfl
@[simp] theorem putK_s (dst : Option Tmp) (v : PV) (H' : Hp) : putK A dst (v, H') = some ⟨putP A dst v, H'⟩ := Eq.trans rfl rfl
@[simp] theorem appK_s (v : PV) (u : List (Nat × Blk)) (w : List Blk) : appK H ⟨v, u, w⟩ = some (v, H.upds u ++ w.map some) := Eq.trans rfl rfl
@[simp] theorem callK_s (g : FuncId) (caps args : List PV) : callK Ω (.fn g caps) args H = Ω g (args ++ caps) H := Eq.trans rfl rfl
@[simp] theorem endK_n (l : List ResultVar) (s : St) : endK P l (.normal, s) = (resultsOf P s.H s.A l).map fun v => (v, s.H) := Eq.trans rfl rfl
@[simp] theorem endK_r (l : List ResultVar) (s : St) : endK P l (.ret, s) = (resultsOf P s.H s.A l).map fun v => (v, s.H) := Eq.trans rfl rfl

@[simp] theorem x_skip : xcode P Ω MM D n .skip ⟨A, H⟩ = some (.normal, ⟨A, H⟩) := Eq.trans rfl rfl
@[simp] theorem x_ret : xcode P Ω MM D n .ret ⟨A, H⟩ = some (.ret, ⟨A, H⟩) := Eq.trans rfl rfl
@[simp] theorem x_exit (i : Nat) : xcode P Ω MM D n (.exit i) ⟨A, H⟩ = some (.exit i, ⟨A, H⟩) := Eq.trans rfl rfl
@[simp] theorem x_label (i : Nat) : xcode P Ω MM D n (.label i) ⟨A, H⟩ = some (.normal, ⟨A, H⟩) := Eq.trans rfl rfl
@[simp] theorem x_seq (a b : Code) : xcode P Ω MM D n (.seq a b) ⟨A, H⟩ = (xcode P Ω MM D n a ⟨A, H⟩).obind (seqK (xcode P Ω MM D n b)) := by
  simp only [xcode]
  congr
  funext r
  obtain ⟨e, s⟩ := r
  cases e <;> rfl
@[simp] theorem x_region (id : Nat) (ops : Array Oper) : xcode P Ω MM D n (.region id ops false) ⟨A, H⟩ = (xops P Ω ops ops.toList ⟨A, H⟩).obind nK := by
  simp only [xcode]
  cases xops P Ω ops ops.toList ⟨A, H⟩ <;> rfl
theorem x_draw {q : FuncId → Bool} (id : Nat) (ops : Array Oper) (h : okB q ops = true) (h' : floats q ops = []) : xcode P Ω MM (drawn P Ω q) n (.region id ops true) ⟨A, H⟩ = (xops P Ω ops ops.toList ⟨A, H⟩).obind nK := by
  have hD : Draws P Ω q ops ⟨A, H⟩ := by
    refine ⟨h, ?_⟩
    rw [h']
    trivial
  have : drawn P Ω q ops ⟨A, H⟩ = true := by
    simp only [drawn, decide_eq_true_eq]
    exact hD
  simp only [xcode, this, if_true]
  cases xops P Ω ops ops.toList ⟨A, H⟩ <;> rfl
theorem floats_quiet {q : FuncId → Bool} {ops : Array Oper} (h : (ops.toList.all fun o => !isW q o) = true) : floats q ops = [] := by
  have hw : ∀ k, wAt q ops k = false := by
    intro k
    unfold wAt
    cases ho : ops[k]? with
    | none => rfl
    | some o =>
      have := List.all_eq_true.1 h o (by simpa using Array.mem_of_getElem? ho)
      simpa using this
  unfold floats
  rw [List.flatMap_eq_nil_iff]
  intro i _
  rw [List.map_eq_nil_iff, List.filter_eq_nil_iff]
  intro m _
  simp [cutAt, hw]
theorem x_drawq {q : FuncId → Bool} (id : Nat) (ops : Array Oper) (h : okB q ops = true) (h' : (ops.toList.all fun o => !isW q o) = true) : xcode P Ω MM (drawn P Ω q) n (.region id ops true) ⟨A, H⟩ = (xops P Ω ops ops.toList ⟨A, H⟩).obind nK :=
  x_draw id ops h (floats_quiet h')
theorem x_drawf {q : FuncId → Bool} (id : Nat) (ops : Array Oper) (h : okB q ops = true) (fl : List (Nat × Nat)) (h' : floats q ops = fl) (hs : List Hp) (A' : List PV) (hx : xhs P Ω ops ops.toList ⟨A, H⟩ = some (hs, A')) (hf : floatsOk P Ω ops hs A' fl) :
    xcode P Ω MM (drawn P Ω q) n (.region id ops true) ⟨A, H⟩ = (xops P Ω ops ops.toList ⟨A, H⟩).obind nK := by
  have hD : Draws P Ω q ops ⟨A, H⟩ := by
    refine ⟨h, ?_⟩
    rw [h']
    cases fl with
    | nil => trivial
    | cons x l => simp only [hx]; exact hf
  have : drawn P Ω q ops ⟨A, H⟩ = true := by
    simp only [drawn, decide_eq_true_eq]
    exact hD
  simp only [xcode, this, if_true]
  cases xops P Ω ops ops.toList ⟨A, H⟩ <;> rfl
@[simp] theorem x_cond (c : Operand) (t e : Code) : xcode P Ω MM D n (.cond c t e) ⟨A, H⟩ = condK (peval A c) (xcode P Ω MM D n t) (xcode P Ω MM D n e) ⟨A, H⟩ := by
  simp only [xcode]
  cases peval A c with
  | lit v => cases v with
    | bool b => cases b <;> rfl
    | _ => rfl
  | _ => rfl
@[simp] theorem x_block (id : Nat) (b : Code) : xcode P Ω MM D n (.block id b) ⟨A, H⟩ = (xcode P Ω MM D n b ⟨A, H⟩).obind (blockK id) := by
  simp only [xcode]
  cases xcode P Ω MM D n b ⟨A, H⟩ with
  | none => rfl
  | some r =>
    obtain ⟨e, s⟩ := r
    cases e with
    | exit i =>
      simp only [Option.map_some, obind_some, blockK_e]
      split <;> rfl
    | _ => rfl
@[simp] theorem x_loop (b : Code) : xcode P Ω MM D n (.loop b) ⟨A, H⟩ = xloop (MM (keyOf b)) H.length (xcode P Ω MM D n b) n ⟨A, H⟩ := Eq.trans rfl rfl

def shK (M : Mask) (m : Nat) : Ex × St → Option (Ex × St)
  | (.normal, s) => some (.normal, shrink M.1 m s)
  | (.exit i, s) => some (.exit i, shrink M.2.1 m s)
  | (.ret, s) => some (.ret, shrink M.2.2 m s)
@[simp] theorem shK_n (m : Nat) (s : St) : shK M m (.normal, s) = some (.normal, shrink M.1 m s) := Eq.trans rfl rfl
@[simp] theorem shK_e (m i : Nat) (s : St) : shK M m (.exit i, s) = some (.exit i, shrink M.2.1 m s) := Eq.trans rfl rfl
@[simp] theorem shK_r (m : Nat) (s : St) : shK M m (.ret, s) = some (.ret, shrink M.2.2 m s) := Eq.trans rfl rfl
@[simp] theorem shrink_s (B : List Bool) (m : Nat) (A : List PV) (H : Hp) : shrink B m ⟨A, H⟩ =
  if (belowL (sweep m (roots (forget B A)) 0 H).length (forget B A) && belowH (sweep m (roots (forget B A)) 0 H).length (sweep m (roots (forget B A)) 0 H)) = true
  then ⟨forget B A, sweep m (roots (forget B A)) 0 H⟩ else ⟨forget B A, H⟩ := Eq.trans rfl rfl
/-- A loop: a family of states at its head, what it comes to from each, and a measure that falls. -/
theorem loop_rule {σ : Type} {m : Nat} {f : St → Option (Ex × St)} (S : σ → St) (R : σ → Ex × St) (μ : σ → Nat) (I : σ → Prop)
    (step : ∀ x, I x → (∃ y, (f (S x)).obind (shK M m) = some (.normal, S y) ∧ μ y < μ x ∧ I y ∧ R y = R x) ∨ ((f (S x)).obind (shK M m) = some (R x) ∧ (R x).1 ≠ .normal)) :
    ∀ k x s, I x → μ x < k → shrink M.1 m s = S x → xloop M m f k s = some (R x)
  | 0, x, s, _, h, _ => by omega
  | k + 1, x, s, hI, h, hs => by
    simp only [xloop, hs]
    rcases step x hI with ⟨y, h1, h3, h4, h5⟩ | ⟨h1, h2⟩
    · obtain ⟨⟨e, s2⟩, h6, h7⟩ := Option.bind_eq_some_iff.1 (show Option.bind _ _ = _ from h1)
      cases e with
      | normal =>
        simp only [shK_n, Option.some.injEq, Prod.mk.injEq, true_and] at h7
        rw [h6, Option.bind_some]
        simp only []
        rw [← h5]
        exact loop_rule S R μ I step k y s2 h4 (by omega) h7
      | exit i => simp only [shK_e, Option.some.injEq, Prod.mk.injEq, reduceCtorEq, false_and] at h7
      | ret => simp only [shK_r, Option.some.injEq, Prod.mk.injEq, reduceCtorEq, false_and] at h7
    · obtain ⟨⟨e, s2⟩, h6, h7⟩ := Option.bind_eq_some_iff.1 (show Option.bind _ _ = _ from h1)
      rw [h6, Option.bind_some]
      cases e with
      | normal =>
        simp only [shK_n, Option.some.injEq] at h7
        rw [← h7] at h2
        exact absurd rfl h2
      | exit i => simp only [shK_e, Option.some.injEq] at h7; simp only []; rw [h7]
      | ret => simp only [shK_r, Option.some.injEq] at h7; simp only []; rw [h7]

theorem sweep_id (m : Nat) (R : List Nat) : ∀ (H : Hp) (j : Nat), j + H.length ≤ m → sweep m R j H = H
  | [], _, _ => rfl
  | x :: r, j, h => by
    have hj : j < m := by simp at h; omega
    simp only [sweep, hj, decide_true, Bool.true_or, if_true]
    rw [sweep_id m R r (j + 1) (by simp at h; omega)]
theorem shrink_id (B : List Bool) (m : Nat) (A : List PV) (H : Hp) (h : H.length ≤ m) : shrink B m ⟨A, H⟩ = ⟨forget B A, H⟩ := by
  rw [shrink_s, sweep_id m _ H 0 (by omega)]
  split <;> rfl
@[simp] theorem x_nil (ops : Array Oper) : xops P Ω ops [] ⟨A, H⟩ = some ⟨A, H⟩ := Eq.trans rfl rfl
@[simp] theorem x_cons (ops : Array Oper) (o : Oper) (r : List Oper) : xops P Ω ops (o :: r) ⟨A, H⟩ = (xstep P Ω ops o ⟨A, H⟩).obind (xops P Ω ops r) := Eq.trans rfl rfl
@[simp] theorem x_step (ops : Array Oper) (dst : Option Tmp) (op : Op) (ty : TypeId) (pos : String) (af : Array Edge) : xstep P Ω ops ⟨dst, op, ty, pos, af, none⟩ ⟨A, H⟩ = (xop P Ω ⟨dst, op, ty, pos, af, none⟩ ⟨A, H⟩).obind (putK A dst) := by
  simp only [xstep, guardOk]
  cases xop P Ω ⟨dst, op, ty, pos, af, none⟩ ⟨A, H⟩ <;> rfl
theorem x_stepg (ops : Array Oper) (dst : Option Tmp) (op : Op) (ty : TypeId) (pos : String) (af : Array Edge) (j : Nat) (w : Bool) :
    xstep P Ω ops ⟨dst, op, ty, pos, af, some (j, w)⟩ ⟨A, H⟩ = wantK (guardOk ops A ⟨dst, op, ty, pos, af, some (j, w)⟩) (xop P Ω ⟨dst, op, ty, pos, af, some (j, w)⟩) A dst H := by
  unfold xstep wantK
  simp only []
  split
  · rename_i h; rw [h]; simp only []
    cases xop P Ω ⟨dst, op, ty, pos, af, some (j, w)⟩ ⟨A, H⟩ <;> rfl
  · rename_i h; rw [h]
  · rename_i h; rw [h]
@[simp] theorem x_stepg_f (ops : Array Oper) (dst : Option Tmp) (op : Op) (ty : TypeId) (pos : String) (af : Array Edge) (j : Nat) (w : Bool) (h : guardOk ops A ⟨dst, op, ty, pos, af, some (j, w)⟩ = some false) :
    xstep P Ω ops ⟨dst, op, ty, pos, af, some (j, w)⟩ ⟨A, H⟩ = some ⟨putP A dst (.tup []), H⟩ := by
  simp only [xstep, h]
@[simp] theorem x_stepg_t (ops : Array Oper) (dst : Option Tmp) (op : Op) (ty : TypeId) (pos : String) (af : Array Edge) (j : Nat) (w : Bool) (h : guardOk ops A ⟨dst, op, ty, pos, af, some (j, w)⟩ = some true) :
    xstep P Ω ops ⟨dst, op, ty, pos, af, some (j, w)⟩ ⟨A, H⟩ = (xop P Ω ⟨dst, op, ty, pos, af, some (j, w)⟩ ⟨A, H⟩).obind (putK A dst) := by
  simp only [xstep, h]
  cases xop P Ω ⟨dst, op, ty, pos, af, some (j, w)⟩ ⟨A, H⟩ <;> rfl
@[simp] theorem wantK_t (f : St → Option (PV × Hp)) (dst : Option Tmp) : wantK (some true) f A dst H = (f ⟨A, H⟩).obind (putK A dst) := Eq.trans rfl rfl
@[simp] theorem wantK_b (b : Bool) (f : St → Option (PV × Hp)) (dst : Option Tmp) : wantK (some b) f A dst H = if b = true then (f ⟨A, H⟩).obind (putK A dst) else some ⟨putP A dst (.tup []), H⟩ := by cases b <;> rfl
@[simp] theorem wantK_f (f : St → Option (PV × Hp)) (dst : Option Tmp) : wantK (some false) f A dst H = some ⟨putP A dst (.tup []), H⟩ := Eq.trans rfl rfl

def gV (p : Option PV) (w : Bool) : Option Bool :=
  match p with
  | some (.lit (.bool b)) => some (b == w)
  | some (.tup []) => some false
  | _ => none
def gK (d : Option Tmp) (A : List PV) (w : Bool) : Option Bool :=
  match d with
  | none => some false
  | some d => gV A[d]? w
@[simp] theorem gV_b (b w : Bool) : gV (some (.lit (.bool b))) w = some (b == w) := Eq.trans rfl rfl
@[simp] theorem gV_t (w : Bool) : gV (some (.tup [])) w = some false := Eq.trans rfl rfl
@[simp] theorem gK_s (d : Tmp) (w : Bool) : gK (some d) A w = gV A[d]? w := Eq.trans rfl rfl
@[simp] theorem guard_s (ops : Array Oper) (dst : Option Tmp) (op : Op) (ty : TypeId) (pos : String) (af : Array Edge) (j : Nat) (w : Bool) : guardOk ops A ⟨dst, op, ty, pos, af, some (j, w)⟩ = gK ((ops[j]?).bind (·.dst)) A w := by
  simp only [guardOk, gK, gV]
  cases (ops[j]?).bind (·.dst) with
  | none => rfl
  | some d =>
    simp only []
    cases A[d]? with
    | none => rfl
    | some p => cases p with
      | lit v => cases v <;> rfl
      | tup l => cases l <;> rfl
      | _ => rfl
theorem x_op {o : Oper} (h : ∀ f args ats, o.op ≠ .call ⟨.value f, args, ats⟩) : xop P Ω o ⟨A, H⟩ = (aop P o.op (peval A) H).obind (appK H) := by
  unfold xop
  split
  · rename_i f args ats e
    exact absurd e (h _ _ _)
  · cases aop P o.op (peval A) H <;> rfl

variable (dst : Option Tmp) (ty : TypeId) (pos : String) (af : Array Edge) (gu : Option (Nat × Bool))
@[simp] theorem x_call (f : Operand) (args : Array Operand) (ats : Array TypeId) : xop P Ω ⟨dst, .call ⟨.value f, args, ats⟩, ty, pos, af, gu⟩ ⟨A, H⟩ = callK Ω (peval A f) (args.toList.map (peval A)) H := by
  simp only [xop, callK]
  cases peval A f <;> rfl
@[simp] theorem x_builtin (b : Builtin) (args : Array Operand) (ats : Array TypeId) : xop P Ω ⟨dst, .call ⟨.builtin b, args, ats⟩, ty, pos, af, gu⟩ ⟨A, H⟩ = (builtinP P H b ats (args.toList.map (peval A))).obind (appK H) := by
  rw [x_op (fun _ _ _ h => by cases h)]; rfl
@[simp] theorem x_move (x : Operand) : xop P Ω ⟨dst, .move x, ty, pos, af, gu⟩ ⟨A, H⟩ = some (peval A x, H) := by
  rw [x_op (fun _ _ _ h => by cases h)]; simp [aop, one, Hp.upds]
@[simp] theorem x_assign (x : Operand) : xop P Ω ⟨dst, .assign x, ty, pos, af, gu⟩ ⟨A, H⟩ = some (peval A x, H) := by
  rw [x_op (fun _ _ _ h => by cases h)]; simp [aop, one, Hp.upds]
def pickK (c a b : PV) (H : Hp) : Option (PV × Hp) :=
  match c with
  | .lit (.bool true) => some (a, H)
  | .lit (.bool false) => some (b, H)
  | _ => none
@[simp] theorem pickK_t (a b : PV) : pickK (.lit (.bool true)) a b H = some (a, H) := Eq.trans rfl rfl
@[simp] theorem pickK_b (c : Bool) (a b : PV) : pickK (.lit (.bool c)) a b H = if c = true then some (a, H) else some (b, H) := by cases c <;> rfl
@[simp] theorem pickK_f (a b : PV) : pickK (.lit (.bool false)) a b H = some (b, H) := Eq.trans rfl rfl
@[simp] theorem x_pick (c a b : Operand) : xop P Ω ⟨dst, .pick c a b, ty, pos, af, gu⟩ ⟨A, H⟩ = pickK (peval A c) (peval A a) (peval A b) H := by
  rw [x_op (fun _ _ _ h => by cases h)]
  simp only [aop]
  cases peval A c with
  | lit v => cases v with
    | bool t => cases t <;> simp [one, pickK, Hp.upds]
    | _ => rfl
  | _ => rfl
/-- An operation that leaves the heap. -/
def outK (H : Hp) (v : PV) : Option (PV × Hp) := some (v, H)
@[simp] theorem outK_s (v : PV) : outK H v = some (v, H) := Eq.trans rfl rfl
theorem one_out (v : Option PV) : (one v).obind (appK H) = v.obind (outK H) := by cases v <;> simp [one, outK, Hp.upds]
@[simp] theorem x_load (t : TypeId) (a : Operand) : xop P Ω ⟨dst, .load t a, ty, pos, af, gu⟩ ⟨A, H⟩ = (loadP P H t (peval A a)).obind (outK H) := by
  rw [x_op (fun _ _ _ h => by cases h), ← one_out]; rfl
@[simp] theorem x_bin (op : BinOp) (t : TypeId) (x y : Operand) (t' : TypeId) : xop P Ω ⟨dst, .binOp op t x y t', ty, pos, af, gu⟩ ⟨A, H⟩ = (binP P op t (peval A x) (peval A y)).obind (outK H) := by
  rw [x_op (fun _ _ _ h => by cases h), ← one_out]; rfl
@[simp] theorem x_un (op : UnOp) (t : TypeId) (x : Operand) : xop P Ω ⟨dst, .unOp op t x, ty, pos, af, gu⟩ ⟨A, H⟩ = (unP op (peval A x)).obind (outK H) := by
  rw [x_op (fun _ _ _ h => by cases h), ← one_out]; rfl
@[simp] theorem x_conv (s t : TypeId) (x : Operand) : xop P Ω ⟨dst, .convert s t x, ty, pos, af, gu⟩ ⟨A, H⟩ = (convP P H s t (peval A x)).obind (outK H) := by
  rw [x_op (fun _ _ _ h => by cases h), ← one_out]; rfl
@[simp] theorem x_ixa (t : TypeId) (x i : Operand) : xop P Ω ⟨dst, .indexAddr t x i, ty, pos, af, gu⟩ ⟨A, H⟩ = (indexAddrP P H t (peval A x) (peval A i)).obind (outK H) := by
  rw [x_op (fun _ _ _ h => by cases h), ← one_out]; rfl
@[simp] theorem x_ix (t : TypeId) (x i : Operand) : xop P Ω ⟨dst, .index t x i, ty, pos, af, gu⟩ ⟨A, H⟩ = (indexP P t (peval A x) (peval A i)).obind (outK H) := by
  rw [x_op (fun _ _ _ h => by cases h), ← one_out]; rfl
@[simp] theorem x_slice (t : TypeId) (x : Operand) (lo hi : Option Operand) : xop P Ω ⟨dst, .slice t x lo hi none, ty, pos, af, gu⟩ ⟨A, H⟩ = (sliceP P H t (peval A x) (lo.map (peval A)) (hi.map (peval A))).obind (outK H) := by
  rw [x_op (fun _ _ _ h => by cases h), ← one_out]; rfl
@[simp] theorem x_fn (f : FuncId) (caps : Array Operand) : xop P Ω ⟨dst, .makeFunc (.func f) #[] caps, ty, pos, af, gu⟩ ⟨A, H⟩ = some (.fn f (caps.toList.map (peval A)), H) := by
  rw [x_op (fun _ _ _ h => by cases h)]; simp [aop, one, Hp.upds]
def extK (p : PV) (i : Nat) : Option PV :=
  match p with
  | .tup vs => vs[i]?
  | _ => none
@[simp] theorem extK_s (vs : List PV) (i : Nat) : extK (.tup vs) i = vs[i]? := Eq.trans rfl rfl
@[simp] theorem x_extract (x : Operand) (i : Nat) : xop P Ω ⟨dst, .extract x i, ty, pos, af, gu⟩ ⟨A, H⟩ = (extK (peval A x) i).obind (outK H) := by
  rw [x_op (fun _ _ _ h => by cases h), ← one_out]
  simp only [aop, extK]
  cases peval A x <;> rfl
def nilK (H : Hp) : PV → Option PV
  | .ptr b ver off => (blkAt H b ver).bind fun _ => some (.ptr b ver off)
  | .rp cs off fr => some (.rp cs off fr)
  | .fn f caps => some (.fn f caps)
  | _ => none
@[simp] theorem x_nilc (x : Operand) : xop P Ω ⟨dst, .nilCheck x, ty, pos, af, gu⟩ ⟨A, H⟩ = (nilK H (peval A x)).obind (outK H) := by
  rw [x_op (fun _ _ _ h => by cases h), ← one_out]
  simp only [aop]
  cases peval A x with
  | ptr b ver off => simp only [nilK]; cases blkAt H b ver <;> rfl
  | _ => rfl
def fldK (P : Program) (H : Hp) (q : Nat × Nat) : PV → Option PV
  | .ptr b ver off => if q.2 = 0 then none else (blkAt H b ver).bind fun _ => some (.ptr b ver (off + q.1))
  | .rp cs off fr => if q.2 = 0 then none else some (.rp cs (off + q.1) fr)
  | _ => none
@[simp] theorem x_field (s : TypeId) (x : Operand) (f : Nat) : xop P Ω ⟨dst, .fieldAddr s x f, ty, pos, af, gu⟩ ⟨A, H⟩ = (fieldOf P s f).obind fun q => (fldK P H q (peval A x)).obind (outK H) := by
  rw [x_op (fun _ _ _ h => by cases h)]
  simp only [aop]
  cases fieldOf P s f with
  | none => rfl
  | some q =>
    simp only [Option.bind_some, obind_some]
    cases peval A x with
    | ptr b ver off =>
      simp only [fldK]
      by_cases hq : q.2 = 0
      · simp only [hq, if_true]; rfl
      · simp only [hq, if_false]
        cases blkAt H b ver <;> simp [one, Hp.upds]
    | rp cs off fr =>
      simp only [fldK]
      by_cases hq : q.2 = 0
      · simp only [hq, if_true]; rfl
      · simp [hq, one, Hp.upds]
    | _ => simp only [fldK]; by_cases hq : q.2 = 0 <;> simp [hq]
@[simp] theorem x_alloc (e : TypeId) : xop P Ω ⟨dst, .alloc e, ty, pos, af, gu⟩ ⟨A, H⟩ = (ti P e).obind fun i => some (.ptr H.length 0 0, H ++ [some ⟨e, 0, cellsOf (ofConst i.zero)⟩]) := by
  rw [x_op (fun _ _ _ h => by cases h)]
  simp only [aop]
  cases ti P e <;> simp [Hp.upds]
def boxK (H : Hp) (e : TypeId) (p : PV) : Option (PV × Hp) := if isVal p = true then some (.ptr H.length 0 0, H ++ [some ⟨e, 0, cellsOf p⟩]) else none
@[simp] theorem x_box (e : TypeId) (x : Operand) : xop P Ω ⟨dst, .box e x, ty, pos, af, gu⟩ ⟨A, H⟩ = boxK H e (peval A x) := by
  rw [x_op (fun _ _ _ h => by cases h)]
  simp only [aop, boxK]
  split <;> simp [Hp.upds]
@[simp] theorem x_store (t : TypeId) (a x : Operand) : xop P Ω ⟨dst, .store t a x, ty, pos, af, gu⟩ ⟨A, H⟩ = (storeP P H t (peval A x) (peval A a)).obind fun u => some (.tup [], H.set u.1 (some u.2)) := by
  rw [x_op (fun _ _ _ h => by cases h)]
  simp only [aop]
  cases storeP P H t (peval A x) (peval A a) <;> simp [Hp.upds]
@[simp] theorem x_make (t : TypeId) (l c : Operand) : xop P Ω ⟨dst, .makeSlice t l c, ty, pos, af, gu⟩ ⟨A, H⟩ = (makeSliceP P H t (peval A l) (peval A c)).obind (appK H) := by
  rw [x_op (fun _ _ _ h => by cases h)]; rfl
@[simp] theorem x_build (t : TypeId) (parts : Array (Nat × Operand)) : xop P Ω ⟨dst, .build t parts, ty, pos, af, gu⟩ ⟨A, H⟩ =
    (ti P t).obind fun i => (placesOf P t).obind fun l => (fillP (fun i => l[i]?) (cellsOf (ofConst i.zero)) (parts.toList.map fun q => (q.1, peval A q.2))).obind fun cs => some (.agg cs, H) := by
  rw [x_op (fun _ _ _ h => by cases h)]
  simp only [aop]
  cases ti P t with
  | none => rfl
  | some i =>
    cases placesOf P t with
    | none => rfl
    | some l =>
      simp only [Option.bind_some, obind_some]
      cases fillP (fun i => l[i]?) (cellsOf (ofConst i.zero)) (parts.toList.map fun q => (q.1, peval A q.2)) <;> simp [one, Hp.upds]
def bsK (P : Program) (H : Hp) (t : TypeId) (len : Nat) (ps : List (Nat × PV)) : Option (PV × Hp) :=
  match P.underlying t with
  | some (.slice e) => (ti P e).bind fun j => if len * j.size ≤ 16777216 ∧ 0 < j.size ∧ (cellsOf (ofConst j.zero)).length = j.size then
      (fillP (fun i => some (i * j.size, j.size)) (List.replicate len (cellsOf (ofConst j.zero))).flatten ps).map fun cs => (.rd cs len true true, H) else none
  | _ => none
@[simp] theorem x_builds (t : TypeId) (len : Nat) (parts : Array (Nat × Operand)) : xop P Ω ⟨dst, .buildSlice t len parts, ty, pos, af, gu⟩ ⟨A, H⟩ = bsK P H t len (parts.toList.map fun q => (q.1, peval A q.2)) := by
  rw [x_op (fun _ _ _ h => by cases h)]
  simp only [aop, bsK]
  split
  · rename_i e he
    simp only [he]
    cases ti P e with
    | none => rfl
    | some j =>
      simp only [Option.bind_some]
      split
      · cases fillP (fun i => some (i * j.size, j.size)) (List.replicate len (cellsOf (ofConst j.zero))).flatten (parts.toList.map fun q => (q.1, peval A q.2)) <;> simp [one, Hp.upds]
      · rfl
  · split
    · rename_i h _ e he; exact absurd he (h e)
    · rfl
end

/-- Back from a function by value. -/
def backK (P : Program) (H : Hp) (r : PV × Hp) : Option (PV × Hp) :=
  (trav (own P r.2 true 8) true r.1).bind fun p => if fresh p = true then some (p, H) else if noLive H = true then (trav (own P r.2 false 8) false r.1).map fun p => (p, H) else none
noncomputable def runK (P : Program) (md : FuncId → Mode) (mk : FuncId → Nat → Mask) (d : Nat) (f : FuncId) (fn : Func) (H : Hp) (a0 : List PV) : Option (PV × Hp) :=
  (xfun P (ev P md mk d) (mk f) (drawn P (ev P md mk d) (qv md)) fuel fn a0 []).bind (backK P H)
noncomputable def runO (P : Program) (md : FuncId → Mode) (mk : FuncId → Nat → Mask) (d : Nat) (f : FuncId) (fn : Func) (H : Hp) (a0 : List PV) : Option (PV × Hp) :=
  (xfun P (ev P md mk d) (mk f) (drawn P (ev P md mk d) (qv md)) fuel fn a0 []).bind fun r => ownR P r.2 H fn.resultTypes.toList r.1
theorem ev_s {P : Program} {md : FuncId → Mode} {mk : FuncId → Nat → Mask} {d : Nat} {f : FuncId} {fn : Func} {args : List PV} {H : Hp} (hfn : P.funcs[f]? = some fn) (hc : callable fn = true) (hm : md f = .val) :
    ev P md mk (d + 1) f args H = (travs (own P H false 8) false args).obind (runK P md mk d f fn H) := by
  simp only [ev, hfn, Option.bind_some, hc, hm, if_true]
  rfl
theorem ev_o {P : Program} {md : FuncId → Mode} {mk : FuncId → Nat → Mask} {d : Nat} {f : FuncId} {fn : Func} {args : List PV} {H : Hp} (hfn : P.funcs[f]? = some fn) (hc : callable fn = true) (hm : md f = .own) :
    ev P md mk (d + 1) f args H = (travs (own P H false 8) false args).obind (runO P md mk d f fn H) := by
  simp only [ev, hfn, Option.bind_some, hc, hm, if_true]
  rfl
theorem ev_d {P : Program} {md : FuncId → Mode} {mk : FuncId → Nat → Mask} {d : Nat} {f : FuncId} {fn : Func} {args : List PV} {H : Hp} (hfn : P.funcs[f]? = some fn) (hc : callable fn = true) (hm : md f = .heap) :
    ev P md mk (d + 1) f args H = xfun P (ev P md mk d) (mk f) (drawn P (ev P md mk d) (qv md)) fuel fn args H := by
  simp only [ev, hfn, Option.bind_some, hc, hm, if_true]
theorem runK_s {P : Program} {md : FuncId → Mode} {mk : FuncId → Nat → Mask} {d : Nat} {f : FuncId} {fn : Func} {H : Hp} {a0 : List PV} : runK P md mk d f fn H a0 = (xfun P (ev P md mk d) (mk f) (drawn P (ev P md mk d) (qv md)) fuel fn a0 []).obind (backK P H) := Eq.trans rfl rfl
def ownK (P : Program) (H : Hp) (ts : List TypeId) (r : PV × Hp) : Option (PV × Hp) := ownR P r.2 H ts r.1
@[simp] theorem ownK_s {P : Program} {H G : Hp} {ts : List TypeId} {q : PV} : ownK P H ts (q, G) = ownR P G H ts q := Eq.trans rfl rfl
theorem runO_s {P : Program} {md : FuncId → Mode} {mk : FuncId → Nat → Mask} {d : Nat} {f : FuncId} {fn : Func} {H : Hp} {a0 : List PV} : runO P md mk d f fn H a0 = (xfun P (ev P md mk d) (mk f) (drawn P (ev P md mk d) (qv md)) fuel fn a0 []).obind (ownK P H fn.resultTypes.toList) := Eq.trans rfl rfl
def freshK (P : Program) (H G : Hp) (q p : PV) : Option (PV × Hp) := if fresh p = true then some (p, H) else if noLive H = true then (trav (own P G false 8) false q).map fun p => (p, H) else none
@[simp] theorem backK_s {P : Program} {H G : Hp} {q : PV} : backK P H (q, G) = (trav (own P G true 8) true q).obind (freshK P H G q) := Eq.trans rfl rfl
theorem freshK_t {P : Program} {H G : Hp} {q p : PV} (h : fresh p = true) : freshK P H G q p = some (p, H) := by simp only [freshK, h, if_true]
theorem freshK_f {P : Program} {H G : Hp} {q p : PV} (h : fresh p = false) (h' : noLive H = true) : freshK P H G q p = (trav (own P G false 8) false q).map fun p => (p, H) := by simp [freshK, h, h']
@[simp] theorem x_fun {P : Program} {Ω : Orc} {MM : Nat → Mask} {D : Drawn} {n : Nat} {args : List PV} {H : Hp} {c : Code} {name origin : String} {params rts : Array TypeId} {nfree nt : Nat} {res : Array ResultVar} {nr : Bool} {file : String} {el : Nat} {ln : Option Nat} {ta : Array TypeId} {ou : Bool} {mt : List Departure} {tn : Array String} :
    xfun P Ω MM D n { name := name, origin := origin, targs := ta, ours := ou, met := mt, params := params, resultTypes := rts, nfree := nfree, ntmps := nt, results := res, body := some c, norace := nr, file := file, endLine := el, litNo := ln, tmpNames := tn } args H =
      (xcode P Ω MM D n c ⟨args ++ List.replicate (nt - args.length) (.tup []), H⟩).obind (endK P res.toList) := by
  simp only [xfun, Option.bind_some]
  congr
  funext r
  obtain ⟨e, s⟩ := r
  cases e <;> rfl

/-! ### Regions whose order is drawn, where every order comes to the text's -/
def undraw (sk : List Nat) : Code → Code
  | .region id ops true => .region id ops (sk.contains id)
  | .seq a b => .seq (undraw sk a) (undraw sk b)
  | .cond c a b => .cond c (undraw sk a) (undraw sk b)
  | .block id b => .block id (undraw sk b)
  | .loop b => .loop (undraw sk b)
  | c => c
def quietC (q : FuncId → Bool) (sk : List Nat) : Code → Bool
  | .region id ops true => sk.contains id || (okB q ops && (floats q ops).isEmpty)
  | .seq a b => quietC q sk a && quietC q sk b
  | .cond _ a b => quietC q sk a && quietC q sk b
  | .block _ b => quietC q sk b
  | .loop b => quietC q sk b
  | _ => true
theorem keyOf_undraw (sk : List Nat) : ∀ c, keyOf (undraw sk c) = keyOf c
  | .region id ops dr => by cases dr <;> rfl
  | .seq a b => keyOf_undraw sk a
  | .block id b => keyOf_undraw sk b
  | .loop b => keyOf_undraw sk b
  | .cond .. => rfl
  | .skip => rfl
  | .exit _ => rfl
  | .label _ => rfl
  | .ret => rfl
  | .rangeFunc .. => rfl
  | .scope _ => rfl
  | .goto _ => rfl
  | .refuse _ => rfl
theorem xloop_congr {M : Mask} {m : Nat} {f g : St → Option (Ex × St)} (h : ∀ s, f s = g s) : ∀ k s, xloop M m f k s = xloop M m g k s := by
  have : f = g := funext h
  subst this
  exact fun _ _ => rfl
theorem undraw_ok {P : Program} {Ω : Orc} {q : FuncId → Bool} {MM : Nat → Mask} {n : Nat} {sk : List Nat} : ∀ (c : Code), quietC q sk c = true → ∀ s, xcode P Ω MM (drawn P Ω q) n c s = xcode P Ω MM (drawn P Ω q) n (undraw sk c) s
  | .region id ops true, h, s => by
    simp only [quietC, Bool.or_eq_true, Bool.and_eq_true, List.isEmpty_iff] at h
    simp only [undraw]
    cases hs : sk.contains id with
    | true => rfl
    | false =>
      rcases h with h | h
      · rw [hs] at h; cases h
      · obtain ⟨A, H⟩ := s
        rw [x_draw id ops h.1 h.2, x_region]
  | .region id ops false, _, s => rfl
  | .seq a b, h, s => by
    simp only [quietC, Bool.and_eq_true] at h
    simp only [undraw, xcode]
    rw [undraw_ok a h.1 s]
    congr
    funext r
    obtain ⟨e, s'⟩ := r
    cases e <;> simp only [undraw_ok b h.2]
  | .cond c a b, h, s => by
    simp only [quietC, Bool.and_eq_true] at h
    simp only [undraw, xcode, undraw_ok a h.1, undraw_ok b h.2]
  | .block id b, h, s => by
    simp only [quietC] at h
    simp only [undraw, xcode, undraw_ok b h]
  | .loop b, h, s => by
    simp only [quietC] at h
    simp only [undraw, xcode, keyOf_undraw]
    exact xloop_congr (fun s => undraw_ok b h s) _ _
  | .skip, _, _ => rfl
  | .exit _, _, _ => rfl
  | .label _, _, _ => rfl
  | .ret, _, _ => rfl
  | .rangeFunc .., _, _ => rfl
  | .scope _, _, _ => rfl
  | .goto _, _, _ => rfl
  | .refuse _, _, _ => rfl
def undF (sk : List Nat) (fn : Func) : Func := { fn with body := fn.body.map (undraw sk) }
def quietF (q : FuncId → Bool) (sk : List Nat) (fn : Func) : Bool := match fn.body with
  | some c => quietC q sk c
  | none => true
theorem und_ok {P : Program} {Ω : Orc} {q : FuncId → Bool} {MM : Nat → Mask} {n : Nat} (sk : List Nat) {fn : Func} {args : List PV} {H : Hp} (h : quietF q sk fn = true) :
    xfun P Ω MM (drawn P Ω q) n fn args H = xfun P Ω MM (drawn P Ω q) n (undF sk fn) args H := by
  unfold quietF at h
  unfold xfun undF
  cases hb : fn.body with
  | none => simp
  | some c =>
    rw [hb] at h
    simp only [Option.map_some, Option.bind_some, undraw_ok c h]

@[simp] theorem w_int : Enc.w Int = 1 := rfl
@[simp] theorem w_bool : Enc.w Bool = 1 := rfl
@[simp] theorem w_bytes : Enc.w ByteArray = 1 := rfl
@[simp] theorem w_list {α : Type} [Enc α] : Enc.w (List α) = 1 := rfl
@[simp] theorem take_rows {α : Type} [Enc α] (fr : Bool) (l : List α) (n : Nat) (h : n = l.length * Enc.w α) : (rows fr l).take n = rows fr l := List.take_of_length_le (by rw [rows_len, h]; exact Nat.le_refl _)

section
variable (g : PV → Option PV) (kp : Bool) (v : Value) (cs : List PV) (n b ver off : Nat) (full fr : Bool) (f : FuncId) (p : PV)
@[simp] theorem trav_lit : trav g kp (.lit v) = some (.lit v) := by simp only [trav]
@[simp] theorem trav_agg : trav g kp (.agg cs) = (travs g kp cs).map .agg := by simp only [trav]
@[simp] theorem trav_tup : trav g kp (.tup cs) = (travs g kp cs).map .tup := by simp only [trav]
@[simp] theorem trav_rd : trav g kp (.rd cs n full fr) = (travs g kp cs).map fun cs => .rd cs n false (fr && kp) := by simp only [trav]
@[simp] theorem trav_rp : trav g kp (.rp cs off fr) = (travs g kp cs).map fun cs => .rp cs off (fr && kp) := by simp only [trav]
@[simp] theorem trav_fn : trav g kp (.fn f cs) = (travs g kp cs).map (.fn f) := by simp only [trav]
@[simp] theorem trav_bot : trav g kp .bot = some .bot := by simp only [trav]
@[simp] theorem trav_sl : trav g kp (.sl b ver off n) = g (.sl b ver off n) := by simp only [trav]
@[simp] theorem trav_ptr : trav g kp (.ptr b ver off) = g (.ptr b ver off) := by simp only [trav]
@[simp] theorem travs_nil : travs g kp [] = some [] := by simp only [travs]
@[simp] theorem travs_cons : travs g kp (p :: cs) = (trav g kp p).bind fun q => (travs g kp cs).map fun s => q :: s := by simp only [travs]
@[simp] theorem own_sl (P : Program) (H : Hp) (k : Nat) : own P H kp (k + 1) (.sl b ver off n) = (sliceOf P H (.sl b ver off n)).bind fun c => (travs (own P H kp k) kp c.1).map fun cs => .rd cs n false kp := by simp only [own]
@[simp] theorem own_ptr (P : Program) (H : Hp) (k : Nat) : own P H kp (k + 1) (.ptr b ver off) = (blkAt H b ver).bind fun x => (travs (own P H kp k) kp x.cs).map fun cs => .rp cs off kp := by simp only [own]
@[simp] theorem frs_lit : fresh (.lit v) = true := by simp only [fresh]
@[simp] theorem frs_agg : fresh (.agg cs) = freshs cs := by simp only [fresh]
@[simp] theorem frs_tup : fresh (.tup cs) = freshs cs := by simp only [fresh]
@[simp] theorem frs_rd : fresh (.rd cs n full fr) = (fr && freshs cs) := by simp only [fresh]
@[simp] theorem frs_rp : fresh (.rp cs off fr) = (fr && freshs cs) := by simp only [fresh]
@[simp] theorem frs_fn : fresh (.fn f cs) = freshs cs := by simp only [fresh]
@[simp] theorem frs_bot : fresh .bot = true := by simp only [fresh]
@[simp] theorem freshs_nil : freshs [] = true := by simp only [freshs]
@[simp] theorem freshs_cons : freshs (p :: cs) = (fresh p && freshs cs) := by simp only [freshs]
@[simp] theorem below_lit : belowB n (.lit v) = true := by simp only [belowB]
@[simp] theorem below_agg : belowB n (.agg cs) = belowL n cs := by simp only [belowB]
@[simp] theorem below_tup : belowB n (.tup cs) = belowL n cs := by simp only [belowB]
@[simp] theorem below_rd (k : Nat) : belowB n (.rd cs k full fr) = belowL n cs := by simp only [belowB]
@[simp] theorem below_rp : belowB n (.rp cs off fr) = belowL n cs := by simp only [belowB]
@[simp] theorem below_fn : belowB n (.fn f cs) = belowL n cs := by simp only [belowB]
@[simp] theorem below_bot : belowB n .bot = true := by simp only [belowB]
@[simp] theorem below_sl (k : Nat) : belowB n (.sl b ver off k) = decide (b < n) := by simp only [belowB]
@[simp] theorem below_ptr : belowB n (.ptr b ver off) = decide (b < n) := by simp only [belowB]
@[simp] theorem belows_nil : belowL n [] = true := by simp only [belowL]
@[simp] theorem belows_cons : belowL n (p :: cs) = (belowB n p && belowL n cs) := by simp only [belowL]
end
@[simp] theorem over_nil (cs : List PV) (n : Nat) : over cs n ([] : List PV) = cs := by simp [over]
@[simp] theorem over_zero (x p : PV) (cs ps : List PV) : over (x :: cs) 0 (p :: ps) = p :: over cs 0 ps := by simp [over, Nat.add_comm]
@[simp] theorem over_succ (x : PV) (cs ps : List PV) (n : Nat) : over (x :: cs) (n + 1) ps = x :: over cs n ps := by
  unfold over
  rw [Nat.add_right_comm]
  simp
attribute [simp] freshK_t
attribute [simp] keyOf
attribute [simp] putP peval ofConst ofCell flat Hp.upds resultsOf resOf
  cellsOf isVal isCell isAggD loadP storeP takeCells blkAt fillP fieldOf intBin litBin boolBin binP unP sliceOf lenS lenT indexAddrP idx builtinP makeSliceP appendP room
  noLive forget belowH roots sweep callable boxK nilK fldK bsK
theorem rows_int (fr : Bool) (l : List Int) : rows fr l = l.map fun n => .lit (.int .i64 n) := by
  induction l with
  | nil => rfl
  | cons x r ih => rw [rows_cons, ih]; rfl
theorem rows_ne {α : Type} [Enc α] {fr : Bool} {l : List α} {i : Nat} (h : i < l.length) (hw : 0 < Enc.w α) : (rows fr l = []) = False := by
  rw [eq_iff_iff, iff_false]
  intro e
  have h1 := rows_len fr l
  rw [e, List.length_nil] at h1
  have := Nat.mul_pos (by omega : 0 < l.length) hw
  omega
theorem rows_int_get (fr : Bool) (l : List Int) (i : Nat) : (rows fr l)[i]? = (l[i]?).map fun n => .lit (.int .i64 n) := by
  rw [rows_int, List.getElem?_map]
theorem rows_int_over (fr : Bool) (l : List Int) (i : Nat) (x : Int) (h : i < l.length) : over (rows fr l) i [.lit (.int .i64 x)] = rows fr (l.set i x) := by
  have := rows_over fr l i x h
  simpa [Enc.w, Enc.cells] using this
theorem rows_int_zeros (fr : Bool) (n : Nat) : List.replicate n (PV.lit (.int .i64 0)) = rows fr (List.replicate n (0 : Int)) := by
  rw [rows_int, List.map_replicate]
theorem set_next {α : Type} (l : List α) (z : α) (i : Nat) (x : α) (h : l[i]? = some x) : (l.take i ++ List.replicate (l.length - i) z).set i x = l.take (i + 1) ++ List.replicate (l.length - (i + 1)) z := by
  have hlt := (List.getElem?_eq_some_iff.1 h).1
  have e : l.length - i = (l.length - (i + 1)) + 1 := by omega
  rw [e, List.replicate_succ, List.set_append_right _ _ (by simp; omega)]
  have e2 : i - (l.take i).length = 0 := by simp; omega
  rw [e2, List.set_cons_zero, List.take_add_one, h]
  simp
/-- The cells of one element. -/
def rowAt {α : Type} [Enc α] (fr : Bool) (l : List α) (i : Nat) : List PV := match l[i]? with
  | some x => Enc.cells fr x
  | none => []
theorem rowAt_lt {α : Type} [Enc α] (fr : Bool) (l : List α) (i : Nat) (h : i < l.length) : rowAt fr l i = Enc.cells fr l[i] := by
  unfold rowAt; rw [List.getElem?_eq_getElem h]
theorem rows_cell {α : Type} [Enc α] (fr : Bool) (l : List α) (i k : Nat) (hk : k < Enc.w α) : (rows fr l)[i * Enc.w α + k]? = (rowAt fr l i)[k]? := by
  unfold rowAt
  cases h : l[i]? with
  | some x => exact rows_get fr l i k x h hk
  | none =>
    have h1 := List.getElem?_eq_none_iff.1 h
    rw [List.getElem?_eq_none]
    · simp
    · rw [rows_len]
      have := Nat.mul_le_mul_right (Enc.w α) h1
      omega
theorem rows_cellg {α : Type} [Enc α] (fr : Bool) (l : List α) (i k : Nat) (hk : k < Enc.w α) (h : i * Enc.w α + k < (rows fr l).length) : (rows fr l)[i * Enc.w α + k] = ((rowAt fr l i)[k]?).getD .bot := by
  rw [← rows_cell fr l i k hk, List.getElem?_eq_getElem h]; rfl
theorem rows_cell0 {α : Type} [Enc α] (fr : Bool) (l : List α) (i : Nat) (hk : 0 < Enc.w α) : (rows fr l)[i * Enc.w α]? = (rowAt fr l i)[0]? := rows_cell fr l i 0 hk
theorem rows_taken {α : Type} [Enc α] (fr : Bool) (l : List α) (i : Nat) : ((rows fr l).drop (i * Enc.w α)).take (Enc.w α) = rowAt fr l i := by
  unfold rowAt
  cases h : l[i]? with
  | some x => exact rows_take fr l i x h
  | none =>
    have h1 := List.getElem?_eq_none_iff.1 h
    rw [List.drop_eq_nil_of_le]
    · simp
    · rw [rows_len]
      exact Nat.mul_le_mul_right (Enc.w α) h1
theorem rows_part {α : Type} [Enc α] (fr : Bool) (l : List α) (i off k : Nat) (h : off + k ≤ Enc.w α) : ((rows fr l).drop (i * Enc.w α + off)).take k = ((rowAt fr l i).drop off).take k := by
  rw [← rows_taken, ← List.drop_drop, List.drop_take, List.take_take, Nat.min_eq_left (by omega)]
theorem rows_fits' (i n w k : Nat) (h : 0 < k) (hk : k ≤ w) (hi : i < n) : (i * w + k ≤ n * w) = True := by
  rw [eq_iff_iff, iff_true]
  have : (i + 1) * w ≤ n * w := Nat.mul_le_mul_right w hi
  rw [Nat.succ_mul] at this
  omega
theorem rows_fits (i n w : Nat) (hw : 0 < w) : (i * w + w ≤ n * w) = (i < n) := by
  rw [eq_iff_iff, ← Nat.succ_mul]
  exact ⟨fun h => Nat.lt_of_succ_le (Nat.le_of_mul_le_mul_right h hw), fun h => Nat.mul_le_mul_right w h⟩
@[simp] theorem rows_isnil {α : Type} [Enc α] (fr : Bool) (l : List α) (hw : 0 < Enc.w α) : (rows fr l = []) = (l = []) := by
  rw [eq_iff_iff]
  constructor
  · intro e
    cases l with
    | nil => rfl
    | cons x r =>
      have h1 := rows_len fr (x :: r)
      rw [e, List.length_nil, List.length_cons] at h1
      have h2 : 0 < (r.length + 1) * Enc.w α := Nat.mul_pos (Nat.succ_pos r.length) hw
      omega
  · rintro rfl; rfl
@[simp] theorem one_Int (fr : Bool) (l : List Int) (i : Nat) : (rows fr l)[i]? = (rowAt fr l i)[0]? := by have := rows_cell0 fr l i (by decide : 0 < Enc.w Int); simpa using this
@[simp] theorem one_Bool (fr : Bool) (l : List Bool) (i : Nat) : (rows fr l)[i]? = (rowAt fr l i)[0]? := by have := rows_cell0 fr l i (by decide : 0 < Enc.w Bool); simpa using this
@[simp] theorem one_Str (fr : Bool) (l : List ByteArray) (i : Nat) : (rows fr l)[i]? = (rowAt fr l i)[0]? := by have := rows_cell0 fr l i (by decide : 0 < Enc.w ByteArray); simpa using this
@[simp] theorem one_Row {α : Type} [Enc α] (fr : Bool) (l : List (List α)) (i : Nat) : (rows fr l)[i]? = (rowAt fr l i)[0]? := by have := rows_cell0 fr l i (show 0 < Enc.w (List α) from Nat.one_pos); simpa using this
theorem rows_cellg0 {α : Type} [Enc α] (fr : Bool) (l : List α) (i : Nat) (hk : 0 < Enc.w α) (h : i * Enc.w α < (rows fr l).length) : (rows fr l)[i * Enc.w α] = ((rowAt fr l i)[0]?).getD .bot := rows_cellg fr l i 0 hk h
@[simp] theorem oneg_Bool (fr : Bool) (l : List Bool) (i : Nat) (h : i < (rows fr l).length) : (rows fr l)[i] = ((rowAt fr l i)[0]?).getD .bot := by
  have := one_Bool fr l i
  rw [List.getElem?_eq_getElem h] at this
  rw [← this]; rfl
@[simp] theorem oneg_Str (fr : Bool) (l : List ByteArray) (i : Nat) (h : i < (rows fr l).length) : (rows fr l)[i] = ((rowAt fr l i)[0]?).getD .bot := by
  have := one_Str fr l i
  rw [List.getElem?_eq_getElem h] at this
  rw [← this]; rfl
@[simp] theorem oneg_Row {α : Type} [Enc α] (fr : Bool) (l : List (List α)) (i : Nat) (h : i < (rows fr l).length) : (rows fr l)[i] = ((rowAt fr l i)[0]?).getD .bot := by
  have := one_Row fr l i
  rw [List.getElem?_eq_getElem h] at this
  rw [← this]; rfl
@[simp] theorem cells_Int (fr : Bool) (x : Int) : Enc.cells fr x = [.lit (.int .i64 x)] := rfl
@[simp] theorem cells_Bool (fr : Bool) (x : Bool) : Enc.cells fr x = [.lit (.bool x)] := rfl
@[simp] theorem cells_Str (fr : Bool) (x : ByteArray) : Enc.cells fr x = [.lit (.string x)] := rfl
theorem cells_Row {α : Type} [Enc α] (fr : Bool) (x : List α) : Enc.cells fr x = [.rd (rows fr x) x.length false fr] := rfl
theorem ne_nil_of_lt {α : Type} {l : List α} {i : Nat} (h : i < l.length) : (l = []) = False := by
  rw [eq_iff_iff, iff_false]
  rintro rfl
  simp at h
theorem rows_sub {α : Type} [Enc α] (fr : Bool) (l : List α) (a b : Nat) : ((rows fr l).take (b * Enc.w α)).drop (a * Enc.w α) = rows fr ((l.take b).drop a) := by
  have h1 := rows_drop_take fr l 0 b
  rw [Nat.zero_mul, List.drop_zero, List.drop_zero] at h1
  have h2 := rows_drop_take fr (l.take b) a (l.take b).length
  rw [h1, ← rows_len fr (l.take b)] at *
  have h3 : ∀ (l : List α) (i : Nat), (rows fr l).drop (i * Enc.w α) = rows fr (l.drop i) := by
    intro l i
    have := rows_drop_take fr l i l.length
    rw [List.take_of_length_le (by rw [List.length_drop, rows_len]; omega), List.take_of_length_le (by rw [List.length_drop]; omega)] at this
    exact this
  exact h3 _ _
@[simp] theorem rows_nil' {α : Type} [Enc α] (fr : Bool) : rows fr ([] : List α) = [] := rfl
theorem over_skip (P R new : List PV) (n off : Nat) (h : P.length = n) : over (P ++ R) (n + off) new = P ++ over R off new := by
  subst h
  unfold over
  rw [List.take_append, List.take_of_length_le (by omega), Nat.add_sub_cancel_left, Nat.add_assoc, List.drop_append, List.drop_eq_nil_of_le (by omega), Nat.add_sub_cancel_left]
  simp
theorem over_skip0 (P R new : List PV) (n : Nat) (h : P.length = n) : over (P ++ R) n new = P ++ over R 0 new := over_skip P R new n 0 h
/-- A row of n in a block. -/
def IsRowB (α : Type) [Enc α] (o : Option (Option Blk)) (e v n : Nat) : Prop := ∃ l : List α, l.length = n ∧ o = some (some ⟨e, v, rows true l⟩)
abbrev IsRow (α : Type) [Enc α] (H : Hp) (b e v n : Nat) : Prop := IsRowB α H[b]? e v n
theorem isRow_lt {α : Type} [Enc α] {H : Hp} {b e v n : Nat} (h : IsRow α H b e v n) : b < H.length := by obtain ⟨l, _, hl⟩ := h; exact (List.getElem?_eq_some_iff.1 hl).1
@[simp] theorem isRowB_rows {α : Type} [Enc α] (e v n : Nat) (l : List α) (h : n = l.length) : IsRowB α (some (some ⟨e, v, rows true l⟩)) e v n = True := by
  rw [eq_iff_iff, iff_true]; exact ⟨l, h.symm, rfl⟩
@[simp] theorem isRowB_rows' {α : Type} [Enc α] (e v : Nat) (l : List α) : IsRowB α (some (some ⟨e, v, rows true l⟩)) e v l.length = True := by
  rw [eq_iff_iff, iff_true]; exact ⟨l, rfl, rfl⟩
@[simp] theorem isRowB_nil {α : Type} [Enc α] (e v : Nat) : IsRowB α (some (some ⟨e, v, []⟩)) e v 0 = True := by
  rw [eq_iff_iff, iff_true]; exact ⟨[], rfl, rfl⟩
@[simp] theorem rows_single {α : Type} [Enc α] (fr : Bool) (x : α) : rows fr [x] = Enc.cells fr x := by simp [rows]
/-- Data without rows: it does not matter who made it. -/
class Flat (α : Type) [Enc α] : Prop where
  same : ∀ (fr : Bool) (x : α), Enc.cells fr x = Enc.cells true x
instance : Flat Int := ⟨fun _ _ => rfl⟩
instance : Flat Bool := ⟨fun _ _ => rfl⟩
instance : Flat ByteArray := ⟨fun _ _ => rfl⟩
@[simp] theorem rows_flat {α : Type} [Enc α] [Flat α] (l : List α) : rows false l = rows true l := by
  induction l with
  | nil => rfl
  | cons x r ih => rw [rows_cons, rows_cons, ih, Flat.same false x]
@[simp] theorem nx_one (v : Nat) : nx v (v + 1) = v + 1 := Nat.max_self _
/-- A list that grows: as long as nothing has come behind its first entries it is a row; then it is an own block. -/
def oS {α : Type} [Enc α] (b : Nat) (l0 l : List α) : PV := if l.length = 0 then .rd (rows true l0) l0.length true true else .sl b (l0.length + l.length) 0 (l0.length + l.length)
def oB {α : Type} [Enc α] (e : TypeId) (l0 l : List α) : Hp := if l.length = 0 then [] else [some ⟨e, l0.length + l.length, rows true (l0 ++ l)⟩]
/-- Places that nothing has been put in yet. -/
def zs (k : Nat) (zc : List PV) : List PV := (List.replicate k zc).flatten
theorem zs_eq (k : Nat) (zc : List PV) : (List.replicate k zc).flatten = zs k zc := rfl
@[simp] theorem zs_len (k : Nat) (zc : List PV) : (zs k zc).length = k * zc.length := by simp [zs]
@[simp] theorem zs_zero (zc : List PV) : zs 0 zc = [] := Eq.trans rfl rfl
theorem zs_bel {n : Nat} (k : Nat) {zc : List PV} (h : belowL n zc = true) : belowL n (zs k zc) = true := by
  induction k with
  | zero => simp only [zs_zero, belowL]
  | succ k ih => exact belowL_append h ih
@[simp] theorem belowL_app {n : Nat} (xs ys : List PV) : belowL n (xs ++ ys) = (belowL n xs && belowL n ys) := by
  induction xs with
  | nil => simp [belowL]
  | cons x r ih => simp only [List.cons_append, belowL, ih, Bool.and_assoc]
@[simp] theorem zs_bel' {n : Nat} (k : Nat) {zc : List PV} (h : belowL n zc = true) : belowL n (zs k zc) = true := zs_bel k h
theorem toList_data (a : ByteArray) : a.toList = a.data.toList := ByteArray.toList_eq a
theorem toList_inj {a b : ByteArray} : a.toList = b.toList ↔ a = b := by
  rw [toList_data, toList_data]
  constructor
  · intro h
    cases a; cases b
    simp at h
    subst h
    rfl
  · rintro rfl; rfl
@[simp] theorem str_eql (a b : ByteArray) : strBin .eql a b = some (.bool (decide (a = b))) := by
  simp only [strBin, Option.some.injEq, Value.bool.injEq]
  rw [Bool.eq_iff_iff]
  simp [toList_inj]
@[simp] theorem str_neq (a b : ByteArray) : strBin .neq a b = some (.bool (!decide (a = b))) := by
  simp only [strBin, Option.some.injEq, Value.bool.injEq]
  rw [Bool.eq_iff_iff]
  simp [toList_inj]
theorem over_push {α : Type} [Enc α] (fr : Bool) (L : List α) (x : α) (k : Nat) (zc : List PV) (hz : zc.length = Enc.w α) (off : Nat) (ho : off = L.length * Enc.w α) : over (rows fr L ++ zs (k + 1) zc) off (Enc.cells fr x) = rows fr (L ++ [x]) ++ zs k zc := by
  unfold over
  subst ho
  rw [← rows_len fr L, List.take_left, List.drop_append, List.drop_eq_nil_of_le (by omega), Nat.add_sub_cancel_left, Enc.len, rows_append]
  have e : zs (k + 1) zc = zc ++ zs k zc := rfl
  rw [e, List.drop_append, List.drop_eq_nil_of_le (by omega), hz, Nat.sub_self]
  simp [rows]
theorem take_push {α : Type} (l : List α) (i : Nat) (x : α) (h : l[i]? = some x) : l.take i ++ [x] = l.take (i + 1) := by
  rw [List.take_add_one, h]; rfl
@[simp] theorem rows_int_elem (fr : Bool) (l : List Int) (i : Nat) (h : i < (rows fr l).length) : (rows fr l)[i] = .lit (.int .i64 (l[i]'(by rw [rows_len] at h; simpa [Enc.w] using h))) := by
  have h1 := rows_int_get fr l i
  rw [List.getElem?_eq_getElem h, List.getElem?_eq_getElem (by rw [rows_len] at h; simpa [Enc.w] using h)] at h1
  simpa using h1
attribute [simp] rows_trv rows_frs rows_bel rows_len
attribute [simp] List.set List.replicate
end Go.Proofs.Ytjleanfcjipofaa.Eng
