/- The engine, part L: regions, code and functions, run abstractly; what an abstract run shows of the kit's 'Calls'. The oracle Ω stands for the functions that are called. -/
import Derived.Test.YtjleanfcjipofaaEngK
import Derived.LoopN
set_option linter.all false
namespace Go.Proofs.Ytjleanfcjipofaa.Eng
open Go Go.RowKit

/-- A frame and a heap. -/
structure St where
  A : List PV
  H : Hp

abbrev Orc := FuncId → List PV → Hp → Option (PV × Hp)

def putP (A : List PV) (dst : Option Tmp) (v : PV) : List PV :=
  match dst with
  | some d => A.set d v
  | none => A

def guardOk (ops : Array Oper) (A : List PV) (o : Oper) : Option Bool :=
  match o.guard with
  | none => some true
  | some (j, want) => match (ops[j]?).bind (·.dst) with
    | none => some false
    | some d => match A[d]? with
      | some (.lit (.bool b)) => some (b == want)
      | some (.tup []) => some false
      | _ => none

section
variable (P : Program) (Ω : Orc)

def xop (o : Oper) (s : St) : Option (PV × Hp) :=
  match o.op with
  | .call { callee := .value f, args, .. } => match peval s.A f with
    | .fn g caps => Ω g (args.toList.map (peval s.A) ++ caps) s.H
    | _ => none
  | op => (aop P op (peval s.A) s.H).map fun r => (r.v, s.H.app r)

def xstep (ops : Array Oper) (o : Oper) (s : St) : Option St :=
  match guardOk ops s.A o with
  | some true => (xop P Ω o s).map fun r => ⟨putP s.A o.dst r.1, r.2⟩
  | some false => some ⟨putP s.A o.dst (.tup []), s.H⟩
  | none => none

def xops (ops : Array Oper) : List Oper → St → Option St
  | [], s => some s
  | o :: r, s => (xstep P Ω ops o s).bind (xops ops r)

inductive Ex where
  | normal
  | exit (id : Nat)
  | ret

/-- What is kept of a frame at a loop's head: the marked places; nothing is said of the others. -/
def forget : List Bool → List PV → List PV
  | [], A => A
  | _ :: _, [] => []
  | true :: m, x :: r => x :: forget m r
  | false :: m, _ :: r => .bot :: forget m r

mutual
/-- No own block beyond the n-th is named. -/
def belowB (n : Nat) : PV → Bool
  | .lit _ => true
  | .agg cs => belowL n cs
  | .tup cs => belowL n cs
  | .rd cs _ _ _ => belowL n cs
  | .rp cs _ _ => belowL n cs
  | .fn _ cs => belowL n cs
  | .bot => true
  | .sl b _ _ _ => decide (b < n)
  | .ptr b _ _ => decide (b < n)
def belowL (n : Nat) : List PV → Bool
  | [] => true
  | p :: r => belowB n p && belowL n r
end
def belowH (n : Nat) : Hp → Bool
  | [] => true
  | none :: r => belowH n r
  | some k :: r => belowL n k.cs && belowH n r

def roots : List PV → List Nat
  | [] => []
  | .sl b _ _ _ :: r => b :: roots r
  | .ptr b _ _ :: r => b :: roots r
  | _ :: r => roots r

/-- Blocks beyond the m-th that are none of these are dropped. -/
def sweep (m : Nat) (R : List Nat) : Nat → Hp → Hp
  | _, [] => []
  | j, x :: r => if (decide (j < m) || R.contains j) = true then x :: sweep m R (j + 1) r else match sweep m R (j + 1) r with
    | [] => []
    | y :: t => none :: y :: t

/-- A loop's head: what is not needed any more is forgotten. -/
def shrink (M : List Bool) (m : Nat) (s : St) : St :=
  if (belowL (sweep m (roots (forget M s.A)) 0 s.H).length (forget M s.A) && belowH (sweep m (roots (forget M s.A)) 0 s.H).length (sweep m (roots (forget M s.A)) 0 s.H)) = true
  then ⟨forget M s.A, sweep m (roots (forget M s.A)) 0 s.H⟩ else ⟨forget M s.A, s.H⟩

/-- What a function's loops keep: at their heads and ways out; and when the function returns. -/
abbrev Mask := List Bool × List Bool × List Bool

variable (M : Mask)

def xloop (m : Nat) (body : St → Option (Ex × St)) : Nat → St → Option (Ex × St)
  | 0, _ => none
  | k + 1, s => (body (shrink M.1 m s)).bind fun r => match r.1 with
    | .normal => xloop m body k r.2
    | .exit id => some (.exit id, shrink M.2.1 m r.2)
    | .ret => some (.ret, shrink M.2.2 m r.2)

/-- A loop's name: the number of the first region in its body. -/
def keyOf : Code → Nat
  | .region id _ _ => id
  | .seq a _ => keyOf a
  | .block _ b => keyOf b
  | .loop b => keyOf b
  | _ => 0

variable (MM : Nat → Mask)

/-- May the order that is drawn be taken as the text's? (Filled in by part M.) -/
abbrev Drawn := Array Oper → St → Bool

variable (D : Drawn)

def xcode (n : Nat) : Code → St → Option (Ex × St)
  | .skip, s => some (.normal, s)
  | .region _ ops false, s => (xops P Ω ops ops.toList s).map fun s' => (.normal, s')
  | .region _ ops true, s => if D ops s = true then (xops P Ω ops ops.toList s).map fun s' => (.normal, s') else none
  | .seq a b, s => (xcode n a s).bind fun r => match r.1 with
    | .normal => xcode n b r.2
    | e => some (e, r.2)
  | .cond c t e, s => match peval s.A c with
    | .lit (.bool b) => match b with
      | true => xcode n t s
      | false => xcode n e s
    | _ => none
  | .block id b, s => (xcode n b s).map fun r => match r.1 with
    | .exit id' => if id' = id then (.normal, r.2) else r
    | _ => r
  | .loop b, s => xloop (MM (keyOf b)) s.H.length (xcode n b) n s
  | .exit id, s => some (.exit id, s)
  | .label _, s => some (.normal, s)
  | .ret, s => some (.ret, s)
  | _, _ => none

def resOf (H : Hp) (A : List PV) : ResultVar → Option PV
  | .tmp t => some ((A[t]?).getD (.tup []))
  | .cell a t => loadP P H t ((A[a]?).getD .bot)

def resultsOf (H : Hp) (A : List PV) (l : List ResultVar) : Option PV :=
  (l.mapM (resOf P H A)).map fun vs => match vs with
  | [v] => v
  | vs => .tup vs

/-- A function, run abstractly. -/
def xfun (n : Nat) (fn : Func) (args : List PV) (H : Hp) : Option (PV × Hp) :=
  fn.body.bind fun c => (xcode P Ω MM D n c ⟨args ++ List.replicate (fn.ntmps - args.length) (.tup []), H⟩).bind fun r => match r.1 with
  | .exit _ => none
  | _ => (resultsOf P r.2.H r.2.A fn.results.toList).map fun v => (v, r.2.H)
end

variable {P : Program}

/-- A function that may be entered. -/
def Enters (P : Program) (f : FuncId) : Prop := ∃ fn, P.funcs[f]? = some fn ∧ (fn.name == "runtime.NumGoroutine") = false ∧ fn.body.isNone = false

/-- What a call does, told abstractly: from this heap, with these arguments: this value, this heap. -/
def ACalls (P : Program) (f : FuncId) (args : List PV) (H : Hp) (p : PV) (H' : Hp) : Prop :=
  ∀ (c : Cx) (vs : Array Value), c.H = H → HR P c → c.base ≤ c.w.heap.size → args.length = vs.size → (∀ (i : Nat) p u, args[i]? = some p → vs[i]? = some u → RV P c p u) →
    Calls P f vs c.w fun e w' => ∃ v c', e = .returned v ∧ c'.w = w' ∧ c'.H = H' ∧ Le c c' ∧ HR P c' ∧ RV P c' p v

def OrcOk (P : Program) (Ω : Orc) : Prop := ∀ f args H r, Ω f args H = some r → Enters P f ∧ ACalls P f args H r.1 r.2

/-- A frame as it is told. -/
structure SR (P : Program) (c : Cx) (s : St) (a : Act) : Prop where
  heap : c.H = s.H
  hr : HR P c
  base : c.base ≤ c.w.heap.size
  len : s.A.length = a.tmps.size
  rv : ∀ (i : Nat) p u, s.A[i]? = some p → a.tmps[i]? = some u → RV P c p u

theorem SR.put {c c' : Cx} {s : St} {a : Act} (h : SR P c s a) (hle : Le c c') (hr' : HR P c') {p : PV} {v : Value} (hv : RV P c' p v) (dst : Option Tmp) : SR P c' ⟨putP s.A dst p, c'.H⟩ (a.put dst v) := by
  refine ⟨rfl, hr', by rw [hle.base]; exact Nat.le_trans h.base hle.size, ?_, ?_⟩
  · cases dst with
    | none => exact h.len
    | some d => simp [putP, Act.put, h.len]
  · intro i q u hq hu
    cases dst with
    | none => exact (h.rv i q u hq hu).mono hle
    | some d =>
      simp only [putP, Act.put] at hq hu
      rw [List.getElem?_set] at hq
      rw [Array.getElem?_setIfInBounds] at hu
      by_cases e : d = i
      · subst e
        rw [if_pos rfl] at hq hu
        split at hq
        · injection hq with hq
          split at hu
          · injection hu with hu
            rw [← hq, ← hu]; exact hv
          · cases hu
        · cases hq
      · rw [if_neg e] at hq hu
        exact (h.rv i q u hq hu).mono hle

theorem SR.same {c : Cx} {s : St} {a : Act} (h : SR P c s a) {p : PV} {v : Value} (hv : RV P c p v) (dst : Option Tmp) : SR P c ⟨putP s.A dst p, s.H⟩ (a.put dst v) := by
  have := h.put (Le.refl c) h.hr hv dst
  rwa [h.heap] at this

theorem SR.eval {c : Cx} {s : St} {a : Act} (h : SR P c s a) (x : Operand) : RV P c (peval s.A x) (a.eval x) := peval_rv h.len h.rv x

theorem RV_undef (c : Cx) : RV P c (.tup []) undef := .tup [] #[] rfl (fun i p u hp => by simp at hp)

theorem guard_ok {c : Cx} {s : St} {a : Act} (h : SR P c s a) (ops : Array Oper) (o : Oper) {b : Bool} (hg : guardOk ops s.A o = some b) : Region.wanted o (yielded ops a.tmps) = b := by
  unfold guardOk at hg
  unfold Region.wanted
  split at hg
  · rename_i e
    simp only [e]
    injection hg
  · rename_i j want e
    simp only [e]
    unfold yielded
    split at hg
    · rename_i hd
      simp only [hd, Option.bind_none]
      injection hg
    · rename_i d hd
      simp only [hd, Option.bind_some]
      split at hg
      · rename_i t ht
        have hlt := (List.getElem?_eq_some_iff.1 ht).1
        have e1 : a.tmps[d]? = some (a.tmps[d]'(by rw [← h.len]; exact hlt)) := Array.getElem?_eq_getElem _
        have := (h.rv d _ _ ht e1).litInv.1
        rw [e1, this]
        injection hg
      · rename_i ht
        have hlt := (List.getElem?_eq_some_iff.1 ht).1
        have e1 : a.tmps[d]? = some (a.tmps[d]'(by rw [← h.len]; exact hlt)) := Array.getElem?_eq_getElem _
        obtain ⟨us, hus, _⟩ := (h.rv d _ _ ht e1).tupShape
        rw [e1, hus]
        injection hg
      · cases hg

/-- One operation of a region. -/
theorem xstep_sound {Ω : Orc} (hΩ : OrcOk P Ω) {ops : Array Oper} {i : Nat} {o : Oper} (ho : ops[i]? = some o) {c : Cx} {s s' : St} {a : Act} (h : SR P c s a) (hx : xstep P Ω ops o s = some s') {K : Act → World → Prop} {Q : Exit → Act → World → Prop}
    (hK : ∀ c' a', SR P c' s' a' → Le c c' → a'.defers = a.defers → K a' c'.w) : wpOp P ops Q i K a c.w := by
  unfold wpOp
  simp only [ho]
  unfold xstep at hx
  have hput : ∀ (dst : Option Tmp) v, (a.put dst v).defers = a.defers := fun dst v => by cases dst <;> rfl
  split at hx
  · rename_i hg
    rw [guard_ok h ops o hg]
    simp only [if_true]
    left
    obtain ⟨r, hr, hs⟩ := Option.map_eq_some_iff.1 hx
    subst hs
    have plain : (aop P o.op (peval s.A) s.H).map (fun r => (r.v, s.H.app r)) = some r → o.wp P a c.w K Q := by
      intro hop
      obtain ⟨r0, hop', he⟩ := Option.map_eq_some_iff.1 hop
      subst he
      rw [← h.heap] at hop'
      obtain ⟨v, c', hrun, hH, hle, hr', hv⟩ := aop_sound h.hr h.base o (fun x => h.eval x) hop'
      rw [h.heap] at hH
      have hsr := h.put hle hr' hv o.dst
      rw [hH] at hsr
      unfold Oper.wp
      rcases hrun with hrun | ⟨hrun, hu⟩
      · rw [hrun]
        exact hK _ _ hsr hle (hput _ _)
      · rw [hrun]
        subst hu
        exact hK _ _ hsr hle (hput _ _)
    unfold xop at hr
    split at hr
    · rename_i f args ats e
      split at hr
      · rename_i g caps hf
        obtain ⟨⟨fn, hfn, hname, hbody⟩, hcall⟩ := hΩ _ _ _ _ hr
        obtain ⟨us, hus, hl, hcap⟩ := (by have := h.eval f; rw [hf] at this; exact this.fnShape : ∃ vs, a.eval f = .func (.func g) #[] vs ∧ caps.length = vs.size ∧ ∀ (i : Nat) p u, caps[i]? = some p → vs[i]? = some u → RV P c p u)
        obtain ⟨h1, h2⟩ := RV.list (c := c) (fun x => h.eval x) args
        have hrun : (execOp a.eval o).run P c.w = .ok (.enter g (args.map a.eval ++ us)) c.w := by
          simp only [execOp, e, resolve, hus, Deferred.ofValue, Sem.run_bind, Sem.run_pure, Result.andThen_ok, invoke, callFunc, program]
          simp only [Sem.run, Result.andThen_ok, hfn, hname, hbody, Bool.false_eq_true, if_false, Sem.run_pure, Array.empty_append]
        unfold Oper.wp
        rw [hrun, Oper.upon_enter]
        refine (hcall c (args.map a.eval ++ us) h.heap h.hr h.base (by rw [List.length_append, h1, hl, Array.size_append]) (fun i p u hp hu => ?_)).mono ?_
        · rcases Nat.lt_or_ge i (args.toList.map (peval s.A)).length with hlt | hge
          · rw [List.getElem?_append_left hlt] at hp
            rw [Array.getElem?_append_left (by rw [← h1]; exact hlt)] at hu
            exact h2 i p u hp hu
          · rw [List.getElem?_append_right hge] at hp
            rw [Array.getElem?_append_right (by rw [← h1]; exact hge), ← h1] at hu
            exact hcap _ p u hp hu
        · rintro e w' ⟨v, c', rfl, rfl, hH, hle, hr', hv⟩
          have hsr := h.put hle hr' hv o.dst
          rw [hH] at hsr
          exact hK _ _ hsr hle (hput _ _)
      · cases hr
    · exact plain hr
  · rename_i hg
    rw [guard_ok h ops o hg]
    simp only [Bool.false_eq_true, if_false]
    injection hx with hx
    subst hx
    exact hK _ _ (h.same (RV_undef c) o.dst) (Le.refl c) (hput _ _)
  · cases hx

/-- A region in the text's order. -/
theorem xops_sound {Ω : Orc} (hΩ : OrcOk P Ω) {ops : Array Oper} {Q : Exit → Act → World → Prop} : ∀ (l : List Oper) (k : Nat), (∀ j, l[j]? = ops[k + j]?) → ∀ {c : Cx} {s s' : St} {a : Act}, SR P c s a → xops P Ω ops l s = some s' →
    (∀ c' a', SR P c' s' a' → Le c c' → a'.defers = a.defers → Q .normal a' c'.w) → wpOps P ops Q (List.range' k l.length) a c.w
  | [], k, _, c, s, s', a, h, hx, hQ => by
    simp only [xops] at hx
    injection hx with hx
    subst hx
    simp only [List.length_nil, List.range'_zero, wpOps]
    exact hQ c a h (Le.refl c) rfl
  | o :: r, k, hl, c, s, s', a, h, hx, hQ => by
    simp only [xops] at hx
    rw [Option.bind_eq_some_iff] at hx; obtain ⟨s1, h1, h2⟩ := hx
    rw [List.length_cons, List.range'_succ, wpOps_cons]
    refine xstep_sound hΩ (by simpa using (hl 0).symm) h h1 (fun c1 a1 hs1 hle hd => ?_)
    refine xops_sound hΩ r (k + 1) (fun j => ?_) hs1 h2 (fun c' a' hs' hle' hd' => hQ c' a' hs' (hle.trans hle') (hd'.trans hd))
    have := hl (j + 1)
    rw [List.getElem?_cons_succ] at this
    rw [this]
    congr 1
    omega

/-- What is asked of a drawn order: each of them comes to what the text's order comes to. (Part M has it.) -/
def DrawnOk (P : Program) (Ω : Orc) (D : Drawn) : Prop :=
  ∀ (id : Nat) (ops : Array Oper) (s s' : St) (c : Cx) (a : Act) (Q : Exit → Act → World → Prop), D ops s = true → xops P Ω ops ops.toList s = some s' → SR P c s a →
    (∀ c' a', SR P c' s' a' → Le c c' → a'.defers = a.defers → Q .normal a' c'.w) → (Code.region id ops true).wp P Q a c.w

def Ex.real : Ex → Exit
  | .normal => .normal
  | .exit id => .exit id
  | .ret => .ret

/-- What stands behind a piece of code that has been run abstractly. -/
def Post (P : Program) (c : Cx) (a : Act) (r : Ex × St) (Q : Exit → Act → World → Prop) : Prop := ∀ c' a', SR P c' r.2 a' → Le c c' → a'.defers = a.defers → Q r.1.real a' c'.w

theorem SR.forget {c : Cx} {s : St} {a : Act} (h : SR P c s a) (M : List Bool) : SR P c ⟨forget M s.A, s.H⟩ a := by
  have hf : ∀ (M : List Bool) (A : List PV), (Eng.forget M A).length = A.length ∧ ∀ (i : Nat) p, (Eng.forget M A)[i]? = some p → A[i]? = some p ∨ p = .bot := by
    intro M
    induction M with
    | nil => exact fun A => ⟨rfl, fun i p h => .inl h⟩
    | cons b m ih =>
      intro A
      cases A with
      | nil => cases b <;> exact ⟨rfl, fun i p h => by simp [Eng.forget] at h⟩
      | cons x r =>
        obtain ⟨h1, h2⟩ := ih r
        cases b with
        | true =>
          refine ⟨by simp [Eng.forget, h1], fun i p h => ?_⟩
          cases i with
          | zero => exact .inl h
          | succ i => exact h2 i p h
        | false =>
          refine ⟨by simp [Eng.forget, h1], fun i p h => ?_⟩
          cases i with
          | zero => simp [Eng.forget] at h; exact .inr h.symm
          | succ i => exact h2 i p h
  refine ⟨h.heap, h.hr, h.base, by rw [(hf M s.A).1]; exact h.len, fun i p u hp hu => ?_⟩
  rcases (hf M s.A).2 i p hp with h1 | h1
  · exact h.rv i p u h1 hu
  · subst h1; exact .bot u

theorem belowL_mem {n : Nat} {cs : List PV} (h : belowL n cs = true) : ∀ {p}, p ∈ cs → belowB n p = true := by
  induction cs with
  | nil => intro p hp; cases hp
  | cons x r ih =>
    simp only [belowL, Bool.and_eq_true] at h
    intro p hp
    rcases List.mem_cons.1 hp with e | e
    · subst e; exact h.1
    · exact ih h.2 e

theorem belowH_mem {n : Nat} : ∀ {H : Hp}, belowH n H = true → ∀ (b : Nat) (k : Blk), H[b]? = some (some k) → belowL n k.cs = true
  | [], _, b, k, hb => by simp at hb
  | x :: r, h, b, k, hb => by
    cases x with
    | none =>
      cases b with
      | zero => simp at hb
      | succ b => exact belowH_mem (H := r) (by simpa only [belowH] using h) b k (by simpa using hb)
    | some y =>
      simp only [belowH, Bool.and_eq_true] at h
      cases b with
      | zero => simp at hb; subst hb; exact h.1
      | succ b => exact belowH_mem (H := r) h.2 b k (by simpa using hb)

theorem sweep_spec (m : Nat) (R : List Nat) : ∀ (H : Hp) (j : Nat), (∀ (i : Nat) k, (sweep m R j H)[i]? = some (some k) → H[i]? = some (some k)) ∧ (∀ i, j + i < m → i < H.length → i < (sweep m R j H).length)
  | [], j => ⟨fun i k h => by simp [sweep] at h, fun i _ h => by simp at h⟩
  | x :: r, j => by
    obtain ⟨h1, h2⟩ := sweep_spec m R r (j + 1)
    unfold sweep
    by_cases hc : (decide (j < m) || R.contains j) = true
    · rw [if_pos hc]
      refine ⟨fun i k h => ?_, fun i hi hl => ?_⟩
      · cases i with
        | zero => simpa using h
        | succ i => simpa using h1 i k (by simpa using h)
      · cases i with
        | zero => simp
        | succ i =>
          have := h2 i (by omega) (by simpa using hl)
          simp
          exact this
    · rw [if_neg hc]
      have hj : ¬ j < m := fun h => hc (by simp [h])
      refine ⟨fun i k h => ?_, fun i hi hl => by omega⟩
      cases hs : sweep m R (j + 1) r with
      | nil => rw [hs] at h; simp at h
      | cons y t =>
        rw [hs] at h
        cases i with
        | zero => simp at h
        | succ i => simpa using h1 i k (by rw [hs]; simpa using h)

/-- Fewer blocks. -/
theorem RV.less {c c' : Cx} (hw : c'.w = c.w) (hσ : c'.σ = c.σ) (hb : c'.base = c.base) (hlive : ∀ b k, c'.live b k → c.live b k) {p : PV} {v : Value} (h : RV P c p v) : belowB c'.H.length p = true → RV P c' p v := by
  have hown : ∀ g, c'.owned g → c.owned g := by
    rintro g ⟨b, k, sz, hl, hs⟩
    exact ⟨b, k, sz, hlive b k hl, by rw [← hσ]; exact hs⟩
  induction h with
  | bot v => exact fun _ => .bot v
  | lit v hf => exact fun _ => .lit v hf
  | agg cs vs hl _ ih => exact fun h => .agg cs vs hl fun i p u hp hu => ih i p u hp hu (belowL_mem (by simpa only [belowB] using h) (List.mem_of_getElem? hp))
  | tup cs vs hl _ ih => exact fun h => .tup cs vs hl fun i p u hp hu => ih i p u hp hu (belowL_mem (by simpa only [belowB] using h) (List.mem_of_getElem? hp))
  | fn f cs vs hl _ ih => exact fun h => .fn f cs vs hl fun i p u hp hu => ih i p u hp hu (belowL_mem (by simpa only [belowB] using h) (List.mem_of_getElem? hp))
  | rdNil n full fr A cap h1 h2 => exact fun _ => .rdNil n full fr A cap h1 h2
  | rpNil off fr a => exact fun _ => .rpNil off fr a
  | rdRow cs n full fr ad cap h1 h2 h3 h4 h5 h6 ih =>
    exact fun h => .rdRow cs n full fr ad cap h1 h2 (fun ho => h3 (hown _ ho)) (fun e => by rw [hb]; exact h4 e) (fun i hi => by rw [hw]; exact h5 i hi) (fun i p u hp hu => ih i p u hp (by rw [← hw]; exact hu) (belowL_mem (by simpa only [belowB] using h) (List.mem_of_getElem? hp)))
  | rp cs off fr ad h3 h4 h5 h6 ih =>
    exact fun h => .rp cs off fr ad (fun ho => h3 (hown _ ho)) (fun e => by rw [hb]; exact h4 e) (fun i hi => by rw [hw]; exact h5 i hi) (fun i p u hp hu => ih i p u hp (by rw [← hw]; exact hu) (belowL_mem (by simpa only [belowB] using h) (List.mem_of_getElem? hp)))
  | sl b ver off n A cap h1 h2 h3 h4 =>
    intro h
    refine .sl b ver off n A cap (by simpa [belowB] using h) (fun k hk => h2 k (hlive b k hk)) h3 (fun k hk e => ?_)
    have := h4 k (hlive b k hk) e
    unfold SlRel at this ⊢
    rw [hσ]
    exact this
  | ptr b ver off a h1 h2 h4 =>
    intro h
    refine .ptr b ver off a (by simpa [belowB] using h) (fun k hk => h2 k (hlive b k hk)) (fun k hk e => ?_)
    rw [hσ]
    exact h4 k (hlive b k hk) e

theorem shrink_sound {c ce : Cx} {s : St} {a : Act} (h : SR P c s a) (hle : Le ce c) (M : List Bool) : ∃ c', SR P c' (shrink M ce.H.length s) a ∧ Le ce c' ∧ c'.w = c.w := by
  have hf := h.forget M
  unfold shrink
  split
  · rename_i hc
    rw [Bool.and_eq_true] at hc
    generalize hH : sweep ce.H.length (roots (Eng.forget M s.A)) 0 s.H = H' at hc ⊢
    obtain ⟨h1, h2⟩ := sweep_spec ce.H.length (roots (Eng.forget M s.A)) s.H 0
    rw [hH] at h1 h2
    let c' : Cx := { c with H := H' }
    have hlive : ∀ b k, c'.live b k → c.live b k := fun b k hl => by
      have := h1 b k hl
      unfold Cx.live
      rw [h.heap]
      exact this
    have hless : ∀ {p v}, RV P c p v → belowB c'.H.length p = true → RV P c' p v := fun hv hb => RV.less (c := c) (c' := c') rfl rfl rfl hlive hv hb
    have hlen : ce.H.length ≤ H'.length := by
      rcases Nat.eq_zero_or_pos ce.H.length with e | e
      · omega
      · have := h2 (ce.H.length - 1) (by omega) (by have := hle.len; rw [h.heap] at this; omega)
        omega
    refine ⟨c', ⟨rfl, ⟨fun b k hl => ?_, fun b b' k k' g sz sz' hl hl' => h.hr.inj b b' k k' g sz sz' (hlive b k hl) (hlive b' k' hl')⟩, h.base, hf.len, fun i p u hp hu => ?_⟩, ?_, rfl⟩
    · rcases h.hr.cells b k (hlive b k hl) with h3 | ⟨g, sz, arr, h3, h4, h5, h6, h7⟩
      · exact .inl h3
      · exact .inr ⟨g, sz, arr, h3, h4, h5, h6, fun i p u hp hu => hless (h7 i p u hp hu) (belowL_mem (belowH_mem hc.2 b k hl) (List.mem_of_getElem? hp))⟩
    · exact hless (hf.rv i p u hp hu) (belowL_mem hc.1 (List.mem_of_getElem? hp))
    · exact ⟨hlen, fun b k' hb hl => hle.blk b k' hb (hlive b k' hl), hle.keep, fun b k' g sz hl hs hg => hle.own b k' g sz (hlive b k' hl) hs hg, hle.size, hle.os, hle.tape, hle.output, hle.base⟩
  · exact ⟨c, hf, hle, rfl⟩

theorem xloop_sound {M : Mask} {ce : Cx} {body : Code} {f : St → Option (Ex × St)}
    (hf : ∀ {c : Cx} {s : St} {a : Act} {r : Ex × St} {Q : Exit → Act → World → Prop}, SR P c s a → f s = some r → Post P c a r Q → body.wp P Q a c.w) :
    ∀ (k : Nat) {c : Cx} {s : St} {a a0 : Act} {r : Ex × St} {Q : Exit → Act → World → Prop}, SR P c s a → Le ce c → a.defers = a0.defers → xloop M ce.H.length f k s = some r → Post P ce a0 r Q → Code.rounds P body Q k a c.w
  | 0, c, s, a, a0, r, Q, _, _, _, h, _ => by simp [xloop] at h
  | k + 1, c, s, a, a0, r, Q, hs, hle0, hd0, h, hQ => by
    simp only [xloop] at h
    rw [Option.bind_eq_some_iff] at h; obtain ⟨⟨e1, s1⟩, h1, h2⟩ := h
    obtain ⟨c1, hs1, hle1, hw1⟩ := shrink_sound hs hle0 M.1
    rw [rounds_succ, ← hw1]
    refine hf hs1 h1 (fun c' a' hs' hle hd => ?_)
    cases e1 with
    | normal =>
      show Code.rounds P body Q k a' c'.w
      exact xloop_sound hf k hs' (hle1.trans hle) (hd.trans hd0) h2 hQ
    | exit id =>
      simp only at h2
      injection h2 with h2
      subst h2
      obtain ⟨c2, hs2, hle2, hw2⟩ := shrink_sound hs' (hle1.trans hle) M.2.1
      rw [← hw2]
      exact hQ c2 a' hs2 hle2 (hd.trans hd0)
    | ret =>
      simp only at h2
      injection h2 with h2
      subst h2
      obtain ⟨c2, hs2, hle2, hw2⟩ := shrink_sound hs' (hle1.trans hle) M.2.2
      rw [← hw2]
      exact hQ c2 a' hs2 hle2 (hd.trans hd0)

theorem xcode_sound {Ω : Orc} (hΩ : OrcOk P Ω) {MM : Nat → Mask} {D : Drawn} (hD : DrawnOk P Ω D) (n : Nat) : ∀ (k : Code) {c : Cx} {s : St} {a : Act} {r : Ex × St} {Q : Exit → Act → World → Prop}, SR P c s a → xcode P Ω MM D n k s = some r → Post P c a r Q → k.wp P Q a c.w := by
  intro k
  induction k with
  | skip =>
    intro c s a r Q hs h hQ
    simp only [xcode] at h
    injection h with h
    subst h
    exact wp_skip (hQ c a hs (Le.refl c) rfl)
  | region id ops draw =>
    intro c s a r Q hs h hQ
    cases draw with
    | false =>
      simp only [xcode] at h
      obtain ⟨s', h1, rfl⟩ := Option.map_eq_some_iff.1 h
      refine wp_region ?_
      have := xops_sound hΩ (Q := Q) ops.toList 0 (fun j => by simp) hs h1 (fun c' a' hs' hle hd => hQ c' a' hs' hle hd)
      rw [Array.length_toList] at this
      rw [List.range_eq_range']
      exact this
    | true =>
      simp only [xcode] at h
      split at h
      · rename_i hd
        obtain ⟨s', h1, rfl⟩ := Option.map_eq_some_iff.1 h
        exact hD id ops s s' c a Q hd h1 hs (fun c' a' hs' hle hd => hQ c' a' hs' hle hd)
      · cases h
  | seq x y ihx ihy =>
    intro c s a r Q hs h hQ
    simp only [xcode] at h
    rw [Option.bind_eq_some_iff] at h; obtain ⟨⟨e1, s1⟩, h1, h2⟩ := h
    refine wp_seq (ihx hs h1 (fun c' a' hs' hle hd => ?_))
    cases e1 with
    | normal => exact ihy hs' h2 (fun c'' a'' hs'' hle' hd' => hQ c'' a'' hs'' (hle.trans hle') (hd'.trans hd))
    | exit id =>
      simp only at h2
      injection h2 with h2
      subst h2
      exact hQ c' a' hs' hle hd
    | ret =>
      simp only at h2
      injection h2 with h2
      subst h2
      exact hQ c' a' hs' hle hd
  | cond q x y ihx ihy =>
    intro c s a r Q hs h hQ
    simp only [xcode] at h
    split at h
    · rename_i b hb
      have := hs.eval q
      rw [hb] at this
      cases b with
      | true => exact wp_cond_true this.litInv.1 (ihx hs h hQ)
      | false => exact wp_cond_false this.litInv.1 (ihy hs h hQ)
    · cases h
  | block id x ih =>
    intro c s a r Q hs h hQ
    simp only [xcode] at h
    obtain ⟨⟨e1, s1⟩, h1, h2⟩ := Option.map_eq_some_iff.1 h
    refine wp_block (ih hs h1 (fun c' a' hs' hle hd => ?_))
    cases e1 with
    | normal =>
      simp only at h2
      subst h2
      exact hQ c' a' hs' hle hd
    | exit id' =>
      simp only at h2
      show (if id' = id then Q .normal a' c'.w else Q (.exit id') a' c'.w)
      split at h2
      · rename_i e
        subst h2
        rw [if_pos e]
        exact hQ c' a' hs' hle hd
      · rename_i e
        subst h2
        rw [if_neg e]
        exact hQ c' a' hs' hle hd
    | ret =>
      simp only at h2
      subst h2
      exact hQ c' a' hs' hle hd
  | loop x ih =>
    intro c s a r Q hs h hQ
    simp only [xcode] at h
    exact wp_loop_rounds n (xloop_sound (ce := c) (a0 := a) (fun hs h hQ => ih hs h hQ) n hs (Le.refl c) rfl (by rw [hs.heap]; exact h) hQ)
  | exit id =>
    intro c s a r Q hs h hQ
    simp only [xcode] at h
    injection h with h
    subst h
    exact wp_exit (hQ c a hs (Le.refl c) rfl)
  | label l =>
    intro c s a r Q hs h hQ
    simp only [xcode] at h
    injection h with h
    subst h
    exact wp_label (hQ c a hs (Le.refl c) rfl)
  | ret =>
    intro c s a r Q hs h hQ
    simp only [xcode] at h
    injection h with h
    subst h
    exact wp_ret (hQ c a hs (Le.refl c) rfl)
  | _ =>
    intro c s a r Q hs h hQ
    simp [xcode] at h

theorem results_sound {c : Cx} (hr : HR P c) {A : List PV} {a : Act} (hl : A.length = a.tmps.size) (hv : ∀ (i : Nat) p u, A[i]? = some p → a.tmps[i]? = some u → RV P c p u) (fn : Func) {p : PV} (h : resultsOf P c.H A fn.results.toList = some p) :
    ∃ v, (results fn a.tmps).run P c.w = .ok v c.w ∧ RV P c p v := by
  obtain ⟨vs, hvs, hp⟩ := Option.map_eq_some_iff.1 h
  let f : ResultVar → Sem Value := fun
    | .tmp t => pure (a.tmps.getD t undef)
    | .cell q t => do loadVar t (← asAddr (a.tmps.getD q undef))
  have one : ∀ x q, resOf P c.H A x = some q → ∃ v, (f x).run P c.w = .ok v c.w ∧ RV P c q v := by
    intro x q hq
    cases x with
    | tmp t =>
      simp only [resOf] at hq
      injection hq with hq
      subst hq
      refine ⟨a.tmps.getD t undef, rfl, ?_⟩
      rw [Array.getD_eq_getD_getElem?]
      rcases Nat.lt_or_ge t A.length with ht | ht
      · have h1 : A[t]? = some A[t] := List.getElem?_eq_getElem ht
        have h2 : a.tmps[t]? = some a.tmps[t] := Array.getElem?_eq_getElem (by omega)
        rw [h1, h2]
        exact hv t _ _ h1 h2
      · rw [List.getElem?_eq_none ht, Array.getElem?_eq_none (by omega)]
        exact RV_undef c
    | cell b t =>
      simp only [resOf] at hq
      have hb : RV P c ((A[b]?).getD .bot) (a.tmps.getD b undef) := by
        rw [Array.getD_eq_getD_getElem?]
        rcases Nat.lt_or_ge b A.length with ht | ht
        · have h1 : A[b]? = some A[b] := List.getElem?_eq_getElem ht
          have h2 : a.tmps[b]? = some a.tmps[b] := Array.getElem?_eq_getElem (by omega)
          rw [h1, h2]
          exact hv b _ _ h1 h2
        · rw [List.getElem?_eq_none ht]
          exact .bot _
      obtain ⟨u, h1, h2⟩ := load_sound hr hb hq
      refine ⟨u, ?_, h2⟩
      simp only [Instr.loadAt, Sem.run_bind] at h1
      simp only [f, Sem.run_bind]
      have : (asAddr (a.tmps.getD b undef)).run P c.w = (Instr.sureAddr (a.tmps.getD b undef)).run P c.w ∨ ∃ h w, (Instr.sureAddr (a.tmps.getD b undef)).run P c.w = .halt h w := by
        cases hq' : a.tmps.getD b undef with
        | pointer x => cases x with
          | none => exact .inr ⟨_, _, rfl⟩
          | some x => exact .inl rfl
        | _ => exact .inr ⟨_, _, rfl⟩
      rcases this with h3 | ⟨hh, w, h3⟩
      · rw [h3]; exact h1
      · rw [h3] at h1; simp [Result.andThen] at h1
  have many : ∀ (l : List ResultVar) (qs : List PV), l.mapM (resOf P c.H A) = some qs → ∃ us : List Value, (l.mapM f).run P c.w = .ok us c.w ∧ qs.length = us.length ∧ ∀ (i : Nat) q u, qs[i]? = some q → us[i]? = some u → RV P c q u := by
    intro l
    induction l with
    | nil =>
      intro qs hq
      simp at hq
      subst hq
      exact ⟨[], by simp, rfl, fun i q u hq => by simp at hq⟩
    | cons x r ih =>
      intro qs hq
      rw [List.mapM_cons] at hq
      simp only [bind, Option.bind_eq_some_iff, pure, Option.some.injEq] at hq
      obtain ⟨q, hq1, qs', hq2, rfl⟩ := hq
      obtain ⟨v, hv1, hv2⟩ := one x q hq1
      obtain ⟨us, hu1, hu2, hu3⟩ := ih qs' hq2
      refine ⟨v :: us, by rw [List.mapM_cons]; simp [hv1, hu1], by simp [hu2], fun i q' u hq' hu => ?_⟩
      cases i with
      | zero => simp at hq' hu; subst hq'; subst hu; exact hv2
      | succ i => simp at hq' hu; exact hu3 i q' u hq' hu
  obtain ⟨us, h1, h2, h3⟩ := many fn.results.toList vs hvs
  have hrun : (results fn a.tmps).run P c.w = .ok (if h : us.toArray.size = 1 then us.toArray[0] else .tuple us.toArray) c.w := by
    have e0 : (results fn a.tmps).run P c.w = (((fn.results.toList.mapM f).run P c.w).andThen fun l w' => .ok l.toArray w').andThen fun (a : Array Value) w' => .ok (if h : a.size = 1 then a[0] else .tuple a) w' := by
      unfold results
      rw [Array.mapM_eq_mapM_toList]
      simp only [Sem.run_bind, Sem.run_map, Sem.run_pure]
      rfl
    rw [e0, h1]
    rfl
  refine ⟨_, hrun, ?_⟩
  have e : us.toArray.size = vs.length := by simp [h2]
  match vs, us, h2, h3, hp with
  | [v], [u], _, h3, hp => subst hp; exact h3 0 v u rfl rfl
  | [], [], _, h3, hp => subst hp; exact RV_undef c
  | v :: v' :: r, u :: u' :: r', h2, h3, hp =>
    subst hp
    have : ¬ ((u :: u' :: r').toArray.size = 1) := by simp
    rw [dif_neg this]
    exact .tup _ _ (by simpa using h2) (fun i q x hq hx => h3 i q x hq (by simpa using hx))

/-- A function whose abstract run ends does what that run says. -/
theorem xfun_sound {Ω : Orc} (hΩ : OrcOk P Ω) {MM : Nat → Mask} {D : Drawn} (hD : DrawnOk P Ω D) {n : Nat} {f : FuncId} {fn : Func} (hf : P.funcs[f]? = some fn) {args : List PV} {H : Hp} {p : PV} {H' : Hp} (h : xfun P Ω MM D n fn args H = some (p, H')) : ACalls P f args H p H' := by
  intro c vs hH hr hb hl hv
  unfold xfun at h
  rw [Option.bind_eq_some_iff] at h; obtain ⟨body, hbody, h⟩ := h
  rw [Option.bind_eq_some_iff] at h; obtain ⟨⟨e, s⟩, hx, h⟩ := h
  have hres : ∀ r : Ex × St, (resultsOf P r.2.H r.2.A fn.results.toList).map (fun v => (v, r.2.H)) = some (p, H') → resultsOf P r.2.H r.2.A fn.results.toList = some p ∧ r.2.H = H' := by
    intro r hr
    obtain ⟨v, hv, he⟩ := Option.map_eq_some_iff.1 hr
    injection he with e1 e2
    subst e1
    exact ⟨hv, e2⟩
  refine calls_of_wp hf hbody (xcode_sound hΩ hD n body (s := ⟨args ++ List.replicate (fn.ntmps - args.length) (.tup []), H⟩) ⟨hH, hr, hb, ?_, ?_⟩ hx ?_)
  · simp [hl]
  · intro i q u hq hu
    simp only at hq hu
    rcases Nat.lt_or_ge i args.length with hlt | hge
    · rw [List.getElem?_append_left hlt] at hq
      rw [Array.getElem?_append_left (by omega)] at hu
      exact hv i q u hq hu
    · rw [List.getElem?_append_right hge] at hq
      rw [Array.getElem?_append_right (by omega)] at hu
      rw [List.getElem?_replicate] at hq
      rw [Array.getElem?_replicate] at hu
      split at hq
      · injection hq with hq
        split at hu
        · injection hu with hu
          rw [← hq, ← hu]
          exact RV_undef c
        · cases hu
      · cases hq
  · intro c' a' hs' hle hd
    have fin : resultsOf P s.H s.A fn.results.toList = some p → s.H = H' → a'.defers = [] ∧ ∃ v, (results fn a'.tmps).run P c'.w = .ok v c'.w ∧ ∃ v_1 c'_1, Ending.returned v = .returned v_1 ∧ c'_1.w = c'.w ∧ c'_1.H = H' ∧ Le c c'_1 ∧ HR P c'_1 ∧ RV P c'_1 p v_1 := by
      intro h1 h2
      refine ⟨hd, ?_⟩
      obtain ⟨v, hv1, hv2⟩ := results_sound hs'.hr hs'.len hs'.rv fn (by rw [hs'.heap]; exact h1)
      exact ⟨v, hv1, v, c', rfl, rfl, by rw [hs'.heap]; exact h2, hle, hs'.hr, hv2⟩
    cases e with
    | normal => obtain ⟨h1, h2⟩ := hres (.normal, s) h; exact fin h1 h2
    | ret => obtain ⟨h1, h2⟩ := hres (.ret, s) h; exact fin h1 h2
    | exit id => simp at h

end Go.Proofs.Ytjleanfcjipofaa.Eng
