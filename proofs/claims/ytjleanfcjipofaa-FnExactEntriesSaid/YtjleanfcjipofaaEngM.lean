/- The engine, part M: regions whose order is drawn. Where the operations that may touch the heap wait for one another, and each operation waits for what it reads, every order comes to what the text's comes to. -/
import Derived.Test.YtjleanfcjipofaaEngL
import Derived.Orders
set_option linter.all false
namespace Go.Proofs.Ytjleanfcjipofaa.Eng
open Go Go.RowKit

theorem peval_congr {A A' : List PV} {x : Operand} (h : ∀ t, x = .tmp t → A[t]? = A'[t]?) : peval A x = peval A' x := by
  cases x with
  | tmp t => simp only [peval, h t rfl]
  | _ => rfl

theorem aop_congr {P : Program} {ρ ρ' : Operand → PV} (op : Op) (H : Hp) (h : ∀ x ∈ op.operands, ρ x = ρ' x) : aop P op ρ H = aop P op ρ' H := by
  have pairs : ∀ ps : Array (Nat × Operand), (∀ x ∈ (ps.toList.map (·.2)).toArray, ρ x = ρ' x) → (ps.toList.map fun q => (q.1, ρ q.2)) = (ps.toList.map fun q => (q.1, ρ' q.2)) := fun ps hp =>
    List.map_congr_left fun p hm => by rw [hp p.2 (by simp; exact ⟨p.1, by simpa using hm⟩)]
  have lists : ∀ ps : Array Operand, (∀ x ∈ ps, ρ x = ρ' x) → ps.toList.map ρ = ps.toList.map ρ' := fun ps hp => List.map_congr_left fun p hm => hp p (by simpa using hm)
  cases op <;> simp only [Op.operands] at h
  case build t ps => simp only [aop]; rw [pairs ps h]
  case buildSlice t n ps => simp only [aop]; rw [pairs ps h]
  case pick c a b => simp only [aop]; rw [h c (by simp), h a (by simp), h b (by simp)]
  case makeFunc fn first captured =>
    cases fn with
    | func f => simp only [aop]; rw [lists captured fun x hx => h x (by simp [hx])]
    | _ => rfl
  case call c =>
    obtain ⟨callee, args, ats⟩ := c
    cases callee with
    | builtin b => simp only [aop]; rw [lists args fun x hx => h x (by simp [Call.operands, hx])]
    | _ => rfl
  case slice t x lo hi mx =>
    cases mx with
    | none =>
      simp only [aop]
      rw [h x (by simp)]
      cases lo <;> cases hi <;> simp_all
    | some _ => rfl
  all_goals first | (simp only [aop]; done) | (simp only [aop]; first | rfl | (simp_all; done))

section
variable {P : Program} {Ω : Orc} {ops : Array Oper}

theorem xop_congr {A A' : List PV} {H : Hp} (o : Oper) (h : ∀ x ∈ o.op.operands, peval A x = peval A' x) : xop P Ω o ⟨A, H⟩ = xop P Ω o ⟨A', H⟩ := by
  unfold xop
  split
  · rename_i f args ats e
    rw [e] at h
    simp only [Op.operands, Call.operands] at h
    rw [h f (by simp)]
    rw [show args.toList.map (peval A) = args.toList.map (peval A') from List.map_congr_left fun p hm => h p (by simp at hm ⊢; exact .inr hm)]
  · rename_i e
    simp only []
    rw [aop_congr o.op H h]

theorem guard_congr {A A' : List PV} (o : Oper) (h : ∀ t ∈ o.looksAt ops, A[t]? = A'[t]?) : guardOk ops A o = guardOk ops A' o := by
  unfold guardOk
  cases hg : o.guard with
  | none => rfl
  | some g =>
    obtain ⟨j, want⟩ := g
    simp only []
    cases hd : (ops[j]?).bind (·.dst) with
    | none => rfl
    | some d =>
      simp only []
      rw [h d (by simp [Oper.looksAt, hg, hd])]

theorem xstep_congr {A A' : List PV} {H : Hp} {s1 : St} (o : Oper) (h : ∀ t ∈ o.looksAt ops, A[t]? = A'[t]?) (hx : xstep P Ω ops o ⟨A, H⟩ = some s1) :
    ∃ v, s1.A = putP A o.dst v ∧ xstep P Ω ops o ⟨A', H⟩ = some ⟨putP A' o.dst v, s1.H⟩ := by
  have hx' : ∀ x ∈ o.op.operands, peval A x = peval A' x := fun x hxm => peval_congr fun t e => by
    subst e
    exact h t (List.mem_append_left _ (List.mem_filterMap.2 ⟨.tmp t, by simpa using hxm, rfl⟩))
  unfold xstep at hx ⊢
  simp only [] at hx ⊢
  rw [← guard_congr o h, ← xop_congr o hx']
  split at hx
  · rename_i hg
    obtain ⟨r, hr, rfl⟩ := Option.map_eq_some_iff.1 hx
    exact ⟨r.1, rfl, by rw [hr]; rfl⟩
  · injection hx with hx
    subst hx
    exact ⟨.tup [], rfl, rfl⟩
  · cases hx

/-- An operation that may touch the heap. -/
def isW (q : FuncId → Bool) (o : Oper) : Bool :=
  match o.op with
  | .alloc _ | .box _ _ | .store _ _ _ | .makeSlice _ _ _ => true
  | .call { callee := .value (.func f), .. } => !q f
  | .call { callee := .value _, .. } => true
  | .call { callee := .builtin .append, .. } => true
  | _ => false

/-- Functions that leave the heap as it is. -/
def Quiet (Ω : Orc) (q : FuncId → Bool) : Prop := ∀ f args H r, q f = true → Ω f args H = some r → r.2 = H

theorem app_quiet (H : Hp) (r : Res) (h : r.upd = [] ∧ r.new = []) : H.app r = H := by simp [Hp.app, h.1, h.2, Hp.upds]

theorem one_quiet {v : Option PV} {r : Res} (h : one v = some r) : r.upd = [] ∧ r.new = [] := by
  obtain ⟨x, _, rfl⟩ := Option.map_eq_some_iff.1 h
  exact ⟨rfl, rfl⟩

theorem builtin_quiet {H : Hp} {b : Builtin} (hb : b ≠ .append) {ts : Array TypeId} {xs : List PV} {r : Res} (h : builtinP P H b ts xs = some r) : r.upd = [] ∧ r.new = [] := by
  unfold builtinP at h
  split at h
  · split at h
    · obtain ⟨_, _, rfl⟩ := Option.map_eq_some_iff.1 h; exact ⟨rfl, rfl⟩
    · obtain ⟨_, _, rfl⟩ := Option.map_eq_some_iff.1 h; exact ⟨rfl, rfl⟩
    · cases h
  · exact absurd rfl hb
  · obtain ⟨_, _, rfl⟩ := Option.map_eq_some_iff.1 h; exact ⟨rfl, rfl⟩
  · obtain ⟨_, _, rfl⟩ := Option.map_eq_some_iff.1 h; exact ⟨rfl, rfl⟩
  · cases h

theorem aop_quiet {q : FuncId → Bool} {d : Option Tmp} {op : Op} {ty : TypeId} {ps : String} {af : Array Edge} {gu : Option (Nat × Bool)} (hw : isW q ⟨d, op, ty, ps, af, gu⟩ = false) {ρ : Operand → PV} {H : Hp} {r : Res} (h : aop P op ρ H = some r) : r.upd = [] ∧ r.new = [] := by
  unfold isW at hw
  cases op <;> simp only [] at hw <;> simp only [aop] at h <;> try (first | exact one_quiet h | (cases h; done) | (cases hw; done))
  case pick c a b => split at h <;> first | exact one_quiet h | cases h
  case build t ps =>
    rw [Option.bind_eq_some_iff] at h; obtain ⟨_, _, h⟩ := h
    rw [Option.bind_eq_some_iff] at h; obtain ⟨_, _, h⟩ := h
    rw [Option.bind_eq_some_iff] at h; obtain ⟨_, _, h⟩ := h
    exact one_quiet h
  case buildSlice t n ps =>
    split at h
    · rw [Option.bind_eq_some_iff] at h; obtain ⟨_, _, h⟩ := h
      split at h
      · rw [Option.bind_eq_some_iff] at h; obtain ⟨_, _, h⟩ := h
        exact one_quiet h
      · cases h
    · cases h
  case nilCheck x =>
    split at h
    · rw [Option.bind_eq_some_iff] at h; obtain ⟨_, _, h⟩ := h
      exact one_quiet h
    · exact one_quiet h
    · exact one_quiet h
    · cases h
  case makeFunc f first caps =>
    cases f with
    | func g =>
      simp only [] at h
      split at h
      · exact one_quiet h
      · cases h
    | _ => cases h
  case slice t x lo hi mx =>
    cases mx with
    | none => exact one_quiet h
    | some _ => cases h
  case fieldAddr s x f =>
    rw [Option.bind_eq_some_iff] at h; obtain ⟨_, _, h⟩ := h
    split at h
    · cases h
    · split at h
      · rw [Option.bind_eq_some_iff] at h; obtain ⟨_, _, h⟩ := h
        exact one_quiet h
      · exact one_quiet h
      · cases h
  case extract x i => split at h <;> first | exact one_quiet h | cases h
  case call c =>
    obtain ⟨callee, args, ats⟩ := c
    cases callee with
    | builtin b =>
      refine builtin_quiet (fun e => ?_) h
      subst e
      simp at hw
    | _ => cases h

theorem xop_quiet {q : FuncId → Bool} (hq : Quiet Ω q) {o : Oper} (hw : isW q o = false) {s : St} {r : PV × Hp} (h : xop P Ω o s = some r) : r.2 = s.H := by
  obtain ⟨d, op, ty, ps, af, gu⟩ := o
  unfold xop at h
  simp only [] at h
  split at h
  · rename_i f args ats
    unfold isW at hw
    cases f with
    | func g =>
      simp only [Bool.not_eq_false'] at hw
      simp only [peval] at h
      exact hq _ _ _ _ hw h
    | _ => simp at hw
  · obtain ⟨r0, h0, he⟩ := Option.map_eq_some_iff.1 h
    subst he
    exact app_quiet _ _ (aop_quiet hw h0)

theorem xstep_quiet {q : FuncId → Bool} (hq : Quiet Ω q) {o : Oper} (hw : isW q o = false) {s s' : St} (h : xstep P Ω ops o s = some s') : s'.H = s.H := by
  unfold xstep at h
  split at h
  · obtain ⟨r, hr, rfl⟩ := Option.map_eq_some_iff.1 h
    exact xop_quiet hq hw hr
  · injection h with h
    subst h
    rfl
  · cases h
end

/-! ### Who waits for whom -/

def preds (o : Oper) : List Nat := (o.after.toList.filter (Region.binds .any)).map (·.on)

/-- The set of all that an operation waits for, as the bits of a number: one for each operation. -/
def bitsFrom (acc : List Nat) : List Nat → Nat
  | [] => 0
  | j :: r => (1 <<< j ||| (acc[j]?).getD 0) ||| bitsFrom acc r
def ancs : List Oper → List Nat → List Nat
  | [], acc => acc
  | o :: r, acc => ancs r (acc ++ [bitsFrom acc (preds o)])

theorem bitsFrom_spec (acc : List Nat) (j : Nat) : ∀ l, (bitsFrom acc l).testBit j = true → j ∈ l ∨ ∃ p ∈ l, ((acc[p]?).getD 0).testBit j = true
  | [], h => by simp [bitsFrom] at h
  | p :: r, h => by
    simp only [bitsFrom, Nat.testBit_or, Bool.or_eq_true] at h
    rcases h with (h | h) | h
    · left
      rw [Nat.one_shiftLeft, Nat.testBit_two_pow] at h
      simp only [decide_eq_true_eq] at h
      subst h
      exact List.mem_cons_self
    · exact .inr ⟨p, List.mem_cons_self, h⟩
    · rcases bitsFrom_spec acc j r h with h | ⟨p', hp, h⟩
      · exact .inl (List.mem_cons_of_mem _ h)
      · exact .inr ⟨p', List.mem_cons_of_mem _ hp, h⟩

theorem ancs_spec {ops : Array Oper} {S : Nat → Prop} (hS : ∀ (i : Nat) (o : Oper), S i → ops[i]? = some o → ∀ j ∈ preds o, S j) : ∀ (l : List Oper) (acc : List Nat), (∀ j, l[j]? = ops[acc.length + j]?) →
    (∀ (k : Nat) (o : Oper), k < acc.length → ops[k]? = some o → (∀ j ∈ preds o, S j) → ∀ j, ((acc[k]?).getD 0).testBit j = true → S j) →
    ∀ (k : Nat) (o : Oper), ops[k]? = some o → (∀ j ∈ preds o, S j) → ∀ j, (((ancs l acc)[k]?).getD 0).testBit j = true → S j
  | [], acc, hl, ha, k, o, hk, hp, j, hj => by
    simp only [ancs] at hj
    rcases Nat.lt_or_ge k acc.length with h | h
    · exact ha k o h hk hp j hj
    · rw [List.getElem?_eq_none h] at hj
      simp at hj
  | x :: r, acc, hl, ha, k, o, hk, hp, j, hj => by
    refine ancs_spec hS r (acc ++ [bitsFrom acc (preds x)]) (fun i => ?_) (fun k o hk ho hp j hj => ?_) k o hk hp j hj
    · have := hl (i + 1)
      rw [List.getElem?_cons_succ] at this
      rw [this]
      congr 1
      simp
      omega
    · rw [List.length_append] at hk
      simp at hk
      rcases Nat.lt_or_ge k acc.length with h | h
      · rw [List.getElem?_append_left h] at hj
        exact ha k o h ho hp j hj
      · have e : k = acc.length := by omega
        subst e
        rw [List.getElem?_append_right (Nat.le_refl _)] at hj
        simp at hj
        have h0 := hl 0
        simp [ho] at h0
        subst h0
        rcases bitsFrom_spec acc j _ hj with h1 | ⟨p, h1, h2⟩
        · exact hp j h1
        · rcases Nat.lt_or_ge p acc.length with h3 | h3
          · have hpS := hp p h1
            cases hop : ops[p]? with
            | none =>
              have e1 : acc.length < ops.size := (Array.getElem?_eq_some_iff.1 ho).1
              rw [Array.getElem?_eq_none_iff] at hop
              omega
            | some op => exact ha p op h3 hop (hS p op hpS hop) j h2
          · rw [List.getElem?_eq_none h3] at h2
            simp at h2

def wAt (q : FuncId → Bool) (ops : Array Oper) (i : Nat) : Bool := match ops[i]? with
  | some o => isW q o
  | none => false
def dstAt (ops : Array Oper) (i : Nat) : Option Tmp := (ops[i]?).bind (·.dst)
def anAt (an : List Nat) (i k : Nat) : Bool := ((an[i]?).getD 0).testBit k

/-- What is asked of a region, whatever its state. -/
def okAt (q : FuncId → Bool) (ops : Array Oper) (an : List Nat) (i : Nat) (o : Oper) (k : Nat) : Bool :=
  (k == i || o.dst == none || !(o.dst == dstAt ops k)) &&
  (match dstAt ops k with
   | some t => !(o.looksAt ops).contains t || (decide (k < i) && anAt an i k)
   | none => true) &&
  (!decide (k < i) || !wAt q ops i || !wAt q ops k || anAt an i k)
def okB (q : FuncId → Bool) (ops : Array Oper) : Bool :=
  (List.range ops.size).all fun i => match ops[i]? with
    | none => true
    | some o => (preds o).all (fun j => decide (j < i)) && (List.range ops.size).all fun k => okAt q ops (ancs ops.toList []) i o k

/-- Where the heap may be another one than the text's when an operation's turn comes. -/
def cutAt (q : FuncId → Bool) (ops : Array Oper) (an : List Nat) (i m : Nat) : Bool :=
  (m == 0 || wAt q ops (m - 1)) && !wAt q ops i &&
  ((List.range ops.size).all fun k => !wAt q ops k || ((!anAt an i k || decide (k < m)) && (!anAt an k i || decide (m ≤ k)))) &&
  ((List.range ops.size).any fun k => wAt q ops k && ((decide (m ≤ k) && decide (k < i)) || (decide (i ≤ k) && decide (k < m))))
def floats (q : FuncId → Bool) (ops : Array Oper) : List (Nat × Nat) :=
  (List.range ops.size).flatMap fun i => ((List.range (ops.size + 1)).filter fun m => cutAt q ops (ancs ops.toList []) i m).map fun m => (i, m)

/-- The heaps that the text's order goes through, and its last frame. -/
def xhs (P : Program) (Ω : Orc) (ops : Array Oper) : List Oper → St → Option (List Hp × List PV)
  | [], s => some ([s.H], s.A)
  | o :: r, s => (xstep P Ω ops o s).bind fun s' => (xhs P Ω ops r s').map fun x => (s.H :: x.1, x.2)

def floatOk (P : Program) (Ω : Orc) (ops : Array Oper) (hs : List Hp) (A : List PV) (x : Nat × Nat) : Prop :=
  match ops[x.1]?, hs[x.2]? with
  | some o, some h => xstep P Ω ops o ⟨A, h⟩ = some ⟨A, h⟩
  | _, _ => False
def floatsOk (P : Program) (Ω : Orc) (ops : Array Oper) (hs : List Hp) (A : List PV) : List (Nat × Nat) → Prop
  | [] => True
  | x :: r => floatOk P Ω ops hs A x ∧ floatsOk P Ω ops hs A r

theorem floatsOk_mem {P : Program} {Ω : Orc} {ops : Array Oper} {hs : List Hp} {A : List PV} {x : Nat × Nat} : ∀ {l : List (Nat × Nat)}, floatsOk P Ω ops hs A l → x ∈ l → floatOk P Ω ops hs A x
  | [], _, h => by cases h
  | y :: r, h, hx => by
    rcases List.mem_cons.1 hx with e | e
    · subst e; exact h.1
    · exact floatsOk_mem h.2 e

/-- A drawn region that may be run in the text's order. -/
def Draws (P : Program) (Ω : Orc) (q : FuncId → Bool) (ops : Array Oper) (s : St) : Prop :=
  okB q ops = true ∧ match floats q ops with
    | [] => True
    | x :: l => match xhs P Ω ops ops.toList s with
      | some (hs, A) => floatsOk P Ω ops hs A (x :: l)
      | none => False

open Classical in
noncomputable def drawn (P : Program) (Ω : Orc) (q : FuncId → Bool) : Drawn := fun ops s => decide (Draws P Ω q ops s)

/-! ### The text's order, step by step -/

structure Trace (P : Program) (Ω : Orc) (ops : Array Oper) (T : Nat → St) : Prop where
  step : ∀ i o, ops[i]? = some o → xstep P Ω ops o (T i) = some (T (i + 1))

theorem trace_of {P : Program} {Ω : Orc} {ops : Array Oper} : ∀ (l : List Oper) (s s' : St), xops P Ω ops l s = some s' →
    ∃ T : Nat → St, T 0 = s ∧ T l.length = s' ∧ (∀ i o, l[i]? = some o → xstep P Ω ops o (T i) = some (T (i + 1))) ∧
      (∀ hs A, xhs P Ω ops l s = some (hs, A) → A = s'.A ∧ ∀ m h, hs[m]? = some h → h = (T m).H)
  | [], s, s', h => by
    simp only [xops] at h
    injection h with h
    subst h
    refine ⟨fun _ => s, rfl, rfl, fun i o h => by simp at h, fun hs A h => ?_⟩
    simp only [xhs] at h
    injection h with h
    injection h with h1 h2
    subst h1 h2
    refine ⟨rfl, fun m h hm => ?_⟩
    cases m with
    | zero => simp at hm; exact hm.symm
    | succ m => simp at hm
  | o :: r, s, s', h => by
    simp only [xops] at h
    rw [Option.bind_eq_some_iff] at h; obtain ⟨s1, h1, h2⟩ := h
    obtain ⟨T, t0, tn, ht, hh⟩ := trace_of r s1 s' h2
    refine ⟨fun i => match i with | 0 => s | i + 1 => T i, rfl, tn, fun i o' ho => ?_, fun hs A hx => ?_⟩
    · cases i with
      | zero =>
        simp at ho
        subst ho
        simp only [t0]
        exact h1
      | succ i => exact ht i o' (by simpa using ho)
    · simp only [xhs, h1, Option.bind_some] at hx
      obtain ⟨⟨hs', A'⟩, hx', e⟩ := Option.map_eq_some_iff.1 hx
      injection e with e1 e2
      subst e1 e2
      obtain ⟨ha, hb⟩ := hh hs' A' hx'
      refine ⟨ha, fun m h hm => ?_⟩
      cases m with
      | zero => simp at hm; exact hm.symm
      | succ m => exact hb m h (by simpa using hm)

section
variable {P : Program} {Ω : Orc} {ops : Array Oper} {T : Nat → St}

theorem xstep_put {o : Oper} {s s' : St} (h : xstep P Ω ops o s = some s') : ∃ v, s'.A = putP s.A o.dst v := by
  obtain ⟨v, h1, _⟩ := xstep_congr (A := s.A) (A' := s.A) (H := s.H) o (fun _ _ => rfl) h
  exact ⟨v, h1⟩

theorem putP_ne {A : List PV} {dst : Option Tmp} {v : PV} {t : Nat} (h : dst ≠ some t) : (putP A dst v)[t]? = A[t]? := by
  cases dst with
  | none => rfl
  | some d =>
    simp only [putP]
    rw [List.getElem?_set_ne]
    intro e
    exact h (by rw [e])

theorem putP_len (A : List PV) (dst : Option Tmp) (v : PV) : (putP A dst v).length = A.length := by cases dst <;> simp [putP]

theorem putP_eq {A : List PV} {v : PV} {t : Nat} : (putP A (some t) v)[t]? = if t < A.length then some v else none := by
  simp only [putP]
  rw [List.getElem?_set_self']
  split <;> simp_all

theorem Trace.len (hT : Trace P Ω ops T) : ∀ i, i ≤ ops.size → (T i).A.length = (T 0).A.length
  | 0, _ => rfl
  | i + 1, h => by
    have ho : ops[i]? = some (ops[i]'(by omega)) := Array.getElem?_eq_getElem _
    obtain ⟨v, hv⟩ := xstep_put (hT.step i _ ho)
    rw [hv, putP_len, hT.len i (by omega)]

theorem Trace.keepA (hT : Trace P Ω ops T) {i : Nat} : ∀ j, i ≤ j → j ≤ ops.size → ∀ t, (∀ k, i ≤ k → k < j → dstAt ops k ≠ some t) → (T j).A[t]? = (T i).A[t]?
  | 0, h, _, t, _ => by have : i = 0 := by omega
                        rw [this]
  | j + 1, h, hj, t, hk => by
    by_cases e : i = j + 1
    · rw [e]
    · have ho : ops[j]? = some (ops[j]'(by omega)) := Array.getElem?_eq_getElem _
      obtain ⟨v, hv⟩ := xstep_put (hT.step j _ ho)
      have hd := hk j (by omega) (by omega)
      simp only [dstAt, ho, Option.bind_some] at hd
      rw [hv, putP_ne hd]
      exact hT.keepA j (by omega) (by omega) t fun k h1 h2 => hk k h1 (by omega)

theorem Trace.keepH {q : FuncId → Bool} (hT : Trace P Ω ops T) (hq : Quiet Ω q) {i : Nat} : ∀ j, i ≤ j → j ≤ ops.size → (∀ k, i ≤ k → k < j → wAt q ops k = false) → (T j).H = (T i).H
  | 0, h, _, _ => by have : i = 0 := by omega
                     rw [this]
  | j + 1, h, hj, hk => by
    by_cases e : i = j + 1
    · rw [e]
    · have ho : ops[j]? = some (ops[j]'(by omega)) := Array.getElem?_eq_getElem _
      have hw := hk j (by omega) (by omega)
      simp only [wAt, ho] at hw
      rw [xstep_quiet hq hw (hT.step j _ ho)]
      exact hT.keepH hq j (by omega) (by omega) fun k h1 h2 => hk k h1 (by omega)

/-- What holds after some operations have come up. -/
structure Inv (q : FuncId → Bool) (ops : Array Oper) (T : Nat → St) (listed : Array Bool) (m : Nat) (s : St) : Prop where
  size : listed.size = ops.size
  closed : ∀ i o, listed.getD i false = true → ops[i]? = some o → ∀ j ∈ preds o, listed.getD j false = true
  len : s.A.length = (T 0).A.length
  put : ∀ t i, listed.getD i false = true → dstAt ops i = some t → s.A[t]? = (T ops.size).A[t]?
  old : ∀ t, (∀ i, listed.getD i false = true → dstAt ops i ≠ some t) → s.A[t]? = (T 0).A[t]?
  cut : m ≤ ops.size
  heap : s.H = (T m).H
  ws : ∀ k, wAt q ops k = true → (listed.getD k false = true ↔ k < m)

structure OkB (q : FuncId → Bool) (ops : Array Oper) : Prop where
  pre : ∀ i o, ops[i]? = some o → ∀ j ∈ preds o, j < i
  dst : ∀ i k t, dstAt ops i = some t → dstAt ops k = some t → i = k
  look : ∀ i o k t, ops[i]? = some o → dstAt ops k = some t → t ∈ o.looksAt ops → k < i ∧ anAt (ancs ops.toList []) i k = true
  ord : ∀ i k, k < i → wAt q ops i = true → wAt q ops k = true → anAt (ancs ops.toList []) i k = true

theorem wAt_lt {q : FuncId → Bool} {k : Nat} (h : wAt q ops k = true) : k < ops.size := by
  rcases Nat.lt_or_ge k ops.size with h' | h'
  · exact h'
  · simp [wAt, Array.getElem?_eq_none h'] at h

theorem dstAt_lt {k : Nat} {t : Tmp} (h : dstAt ops k = some t) : k < ops.size := by
  rcases Nat.lt_or_ge k ops.size with h' | h'
  · exact h'
  · simp [dstAt, Array.getElem?_eq_none h'] at h

theorem okB_spec {q : FuncId → Bool} (h : okB q ops = true) : OkB q ops := by
  have hi : ∀ i o, ops[i]? = some o → (∀ j ∈ preds o, j < i) ∧ ∀ k, k < ops.size → okAt q ops (ancs ops.toList []) i o k = true := by
    intro i o ho
    have hlt := (Array.getElem?_eq_some_iff.1 ho).1
    have := List.all_eq_true.1 h i (List.mem_range.2 hlt)
    simp only [ho, Bool.and_eq_true] at this
    refine ⟨fun j hj => ?_, fun k hk => List.all_eq_true.1 this.2 k (List.mem_range.2 hk)⟩
    have := List.all_eq_true.1 this.1 j hj
    simpa using this
  have hk : ∀ i o k, ops[i]? = some o → k < ops.size → _ := fun i o k ho hlt => (hi i o ho).2 k hlt
  simp only [okAt, Bool.and_eq_true] at hk
  refine ⟨fun i o ho => (hi i o ho).1, fun i k t h1 h2 => ?_, fun i o k t ho h2 ht => ?_, fun i k hlt h1 h2 => ?_⟩
  · have hlt := dstAt_lt h1
    have ho : ops[i]? = some (ops[i]'hlt) := Array.getElem?_eq_getElem _
    have := (hk i _ k ho (dstAt_lt h2)).1.1
    have hd : (ops[i]'hlt).dst = some t := by simpa [dstAt, ho] using h1
    rw [hd, h2] at this
    simp at this
    exact this.symm
  · have := (hk i o k ho (dstAt_lt h2)).1.2
    rw [h2] at this
    simp only [Bool.or_eq_true, Bool.not_eq_true', Bool.and_eq_true, decide_eq_true_eq] at this
    rcases this with h3 | h3
    · rw [List.contains_iff_mem.2 ht] at h3; cases h3
    · exact h3
  · have hlt' := wAt_lt h1
    have ho : ops[i]? = some (ops[i]'hlt') := Array.getElem?_eq_getElem _
    have := (hk i _ k ho (wAt_lt h2)).2
    simp only [hlt, h1, h2, decide_true, Bool.not_true, Bool.false_or] at this
    exact this

theorem anAt_listed {q : FuncId → Bool} {listed : Array Bool} {m : Nat} {s : St} (hI : Inv q ops T listed m s) {i : Nat} {o : Oper} (ho : ops[i]? = some o) (hp : ∀ j ∈ preds o, listed.getD j false = true) {k : Nat}
    (h : anAt (ancs ops.toList []) i k = true) : listed.getD k false = true :=
  ancs_spec (S := fun j => listed.getD j false = true) (fun i o hi ho => hI.closed i o hi ho) ops.toList [] (fun j => by simp) (fun k o hk => absurd hk (by simp)) i o ho hp k h

/-- The next operation, whichever it is. -/
theorem inv_step {q : FuncId → Bool} (hT : Trace P Ω ops T) (hq : Quiet Ω q) (hB : OkB q ops)
    (hF : ∀ i o m, ops[i]? = some o → cutAt q ops (ancs ops.toList []) i m = true → m ≤ ops.size → xstep P Ω ops o ⟨(T ops.size).A, (T m).H⟩ = some ⟨(T ops.size).A, (T m).H⟩)
    {listed : Array Bool} {m : Nat} {s : St} (hI : Inv q ops T listed m s) {i : Nat} {o : Oper} (ho : ops[i]? = some o) (hun : listed.getD i true = false) (hp : ∀ j ∈ preds o, listed.getD j false = true) :
    ∃ s' m', xstep P Ω ops o s = some s' ∧ Inv q ops T (listed.setIfInBounds i true) m' s' := by
  have hlt := (Array.getElem?_eq_some_iff.1 ho).1
  have hunF : listed.getD i false = false := by
    rw [Array.getD_eq_getD_getElem?] at hun ⊢
    cases e : listed[i]? with
    | none => rfl
    | some b => rw [e] at hun; exact hun
  have hset : ∀ k, (listed.setIfInBounds i true).getD k false = true ↔ k = i ∨ listed.getD k false = true := by
    intro k
    by_cases e : k = i
    · subst e
      simp [Array.getD_eq_getD_getElem?, hI.size, hlt]
    · simp [getD_set_ne false (Ne.symm e), e]
  -- the operands
  have hops : ∀ t ∈ o.looksAt ops, (T ops.size).A[t]? = s.A[t]? ∧ (T i).A[t]? = s.A[t]? := by
    intro t ht
    by_cases hk : ∃ k, dstAt ops k = some t
    · obtain ⟨k, hk⟩ := hk
      obtain ⟨hki, han⟩ := hB.look i o k t ho hk ht
      have hl := anAt_listed hI ho hp han
      rw [hI.put t k hl hk]
      refine ⟨rfl, ?_⟩
      have e1 : (T ops.size).A[t]? = (T (k + 1)).A[t]? := hT.keepA ops.size (by omega) (Nat.le_refl _) t fun k' h1 h2 e => by
        have := hB.dst k' k t e hk; omega
      have e2 : (T i).A[t]? = (T (k + 1)).A[t]? := hT.keepA i (by omega) (by omega) t fun k' h1 h2 e => by
        have := hB.dst k' k t e hk; omega
      rw [e1, e2]
    · have hk' : ∀ k, dstAt ops k ≠ some t := fun k e => hk ⟨k, e⟩
      rw [hI.old t fun k _ => hk' k]
      exact ⟨hT.keepA ops.size (Nat.zero_le _) (Nat.le_refl _) t fun k _ _ => hk' k, hT.keepA i (Nat.zero_le _) (by omega) t fun k _ _ => hk' k⟩
  -- the value that the text's order puts
  obtain ⟨v0, hv0, hx0⟩ := xstep_congr (H := (T i).H) (A' := s.A) o (fun t ht => (hops t ht).2) (hT.step i o ho)
  -- frames
  have frames : ∀ (H : Hp) (m' : Nat), m' ≤ ops.size → H = (T m').H → (∀ k, wAt q ops k = true → ((k = i ∨ listed.getD k false = true) ↔ k < m')) → Inv q ops T (listed.setIfInBounds i true) m' ⟨putP s.A o.dst v0, H⟩ := by
    intro H m' hm' hH hW
    refine ⟨by simp [hI.size], ?_, by simp [putP_len, hI.len], ?_, ?_, hm', hH, fun k hk => by rw [hset]; exact hW k hk⟩
    · intro k o' hk ho' j hj
      rw [hset] at hk ⊢
      rcases hk with e | hk
      · subst e
        rw [ho] at ho'
        injection ho' with ho'
        subst ho'
        exact .inr (hp j hj)
      · exact .inr (hI.closed k o' hk ho' j hj)
    · intro t k hk hd
      rw [hset] at hk
      by_cases e : o.dst = some t
      · have hdi : dstAt ops i = some t := by simp [dstAt, ho, e]
        have e1 : (T ops.size).A[t]? = (T (i + 1)).A[t]? := hT.keepA ops.size (by omega) (Nat.le_refl _) t fun k' h1 h2 e => by
          have := hB.dst k' i t e hdi; omega
        rw [e1, hv0, e, putP_eq, putP_eq, hI.len, hT.len i (by omega)]
      · rw [putP_ne e]
        rcases hk with e' | hk
        · subst e'
          simp [dstAt, ho] at hd
          exact absurd hd e
        · exact hI.put t k hk hd
    · intro t hk
      have e : o.dst ≠ some t := by
        have := hk i ((hset i).2 (.inl rfl))
        simpa [dstAt, ho] using this
      simp only []
      rw [putP_ne e]
      exact hI.old t fun k hl => hk k ((hset k).2 (.inr hl))
  have wlt : ∀ k, wAt q ops k = true → k < i → wAt q ops i = true → k < m := fun k hk hki hwi =>
    (hI.ws k hk).1 (anAt_listed hI ho hp (hB.ord i k hki hwi hk))
  by_cases hw : wAt q ops i = true
  · -- it touches the heap: the text's turn has come
    have hmi : m ≤ i ∨ i < m := Nat.lt_or_ge i m |>.elim .inr .inl
    have hmi' : ¬ i < m := fun h => by
      have := (hI.ws i hw).2 h
      rw [hunF] at this
      cases this
    have hH : (T i).H = (T m).H := hT.keepH hq i (by omega) (by omega) fun k h1 h2 => by
      cases hk : wAt q ops k with
      | false => rfl
      | true =>
        have := wlt k hk h2 hw
        omega
    have hs : s = ⟨s.A, (T i).H⟩ := by rw [hH, ← hI.heap]
    refine ⟨_, i + 1, by rw [hs]; exact hx0, frames _ (i + 1) (by omega) rfl fun k hk => ?_⟩
    constructor
    · rintro (e | h)
      · omega
      · have := (hI.ws k hk).1 h
        omega
    · intro h
      by_cases e : k = i
      · exact .inl e
      · exact .inr ((hI.ws k hk).2 (wlt k hk (by omega) hw))
  · simp only [Bool.not_eq_true] at hw
    have hnew : ∀ k, wAt q ops k = true → ((k = i ∨ listed.getD k false = true) ↔ k < m) := fun k hk => by
      have hne : k ≠ i := fun e => by subst e; rw [hw] at hk; cases hk
      simp only [hne, false_or]
      exact hI.ws k hk
    -- the last cut
    have hcut : ∀ m, m ≤ ops.size → ∃ m', m' ≤ m ∧ (m' = 0 ∨ wAt q ops (m' - 1) = true) ∧ ∀ k, m' ≤ k → k < m → wAt q ops k = false := by
      intro m
      induction m with
      | zero => exact fun _ => ⟨0, Nat.le_refl _, .inl rfl, fun k h1 h2 => by omega⟩
      | succ m ih =>
        intro hm
        cases hwm : wAt q ops m with
        | true => exact ⟨m + 1, Nat.le_refl _, .inr (by simpa using hwm), fun k h1 h2 => by omega⟩
        | false =>
          obtain ⟨m', h1, h2, h3⟩ := ih (by omega)
          refine ⟨m', by omega, h2, fun k h4 h5 => ?_⟩
          by_cases e : k = m
          · subst e; exact hwm
          · exact h3 k h4 (by omega)
    obtain ⟨m', hm1, hm2, hm3⟩ := hcut m hI.cut
    have hmm : (T m).H = (T m').H := hT.keepH hq m hm1 hI.cut fun k h1 h2 => hm3 k h1 h2
    have hs : s = ⟨s.A, (T m').H⟩ := by rw [← hmm, ← hI.heap]
    by_cases hbt : ∃ k, wAt q ops k = true ∧ ((m' ≤ k ∧ k < i) ∨ (i ≤ k ∧ k < m'))
    · obtain ⟨kb, hkb, hkb'⟩ := hbt
      have hc : cutAt q ops (ancs ops.toList []) i m' = true := by
        unfold cutAt
        simp only [Bool.and_eq_true]
        refine ⟨⟨⟨?_, by simp [hw]⟩, List.all_eq_true.2 fun k hk => ?_⟩, List.any_eq_true.2 ⟨kb, List.mem_range.2 (wAt_lt hkb), ?_⟩⟩
        · rcases hm2 with e | e <;> simp [e]
        · cases hwk : wAt q ops k with
          | false => rfl
          | true =>
            simp only [Bool.not_true, Bool.false_or, Bool.and_eq_true, Bool.or_eq_true, Bool.not_eq_true', decide_eq_true_eq]
            constructor
            · cases han : anAt (ancs ops.toList []) i k with
              | false => exact .inl rfl
              | true =>
                right
                have h1 := (hI.ws k hwk).1 (anAt_listed hI ho hp han)
                rcases Nat.lt_or_ge k m' with h2 | h2
                · exact h2
                · have := hm3 k h2 h1
                  rw [hwk] at this
                  cases this
            · cases han : anAt (ancs ops.toList []) k i with
              | false => exact .inl rfl
              | true =>
                right
                have hklt := wAt_lt hwk
                have hko : ops[k]? = some (ops[k]'hklt) := Array.getElem?_eq_getElem _
                have hnl : ¬ listed.getD k false = true := fun hl => by
                  have := anAt_listed hI hko (hI.closed k _ hl hko) han
                  rw [hunF] at this
                  cases this
                have : ¬ k < m := fun h => hnl ((hI.ws k hwk).2 h)
                omega
        · rcases hkb' with ⟨h1, h2⟩ | ⟨h1, h2⟩ <;> simp [hkb, h1, h2]
      have hx := hF i o m' ho hc (by have := hI.cut; omega)
      obtain ⟨v1, hv1, hx1⟩ := xstep_congr (A' := s.A) o (fun t ht => (hops t ht).1) hx
      simp only [] at hv1 hx1
      have hv : putP s.A o.dst v1 = putP s.A o.dst v0 := by
        cases hd : o.dst with
        | none => rfl
        | some d =>
          have hdi : dstAt ops i = some d := by simp [dstAt, ho, hd]
          have e1 : (T ops.size).A[d]? = (T (i + 1)).A[d]? := hT.keepA ops.size (by omega) (Nat.le_refl _) d fun k' h1 h2 e => by
            have := hB.dst k' i d e hdi; omega
          rw [hd] at hv1 hv0
          have e2 : (T ops.size).A[d]? = if d < (T ops.size).A.length then some v1 else none := by
            conv => lhs; rw [hv1]
            exact putP_eq
          rw [hv0, putP_eq] at e1
          rw [e1, hT.len i (by omega), hT.len ops.size (Nat.le_refl _)] at e2
          by_cases hdl : d < (T 0).A.length
          · rw [if_pos hdl, if_pos hdl] at e2
            injection e2 with e2
            rw [e2]
          · simp only [putP]
            rw [List.set_eq_of_length_le (by rw [hI.len]; exact Nat.le_of_not_lt hdl), List.set_eq_of_length_le (by rw [hI.len]; exact Nat.le_of_not_lt hdl)]
      rw [hv] at hx1
      refine ⟨_, m, by rw [hs]; exact hx1, frames _ m hI.cut hmm.symm hnew⟩
    · have hH : (T i).H = (T m').H := by
        rcases Nat.le_total m' i with h | h
        · exact hT.keepH hq i h (by omega) fun k h1 h2 => by
            cases hk : wAt q ops k with
            | false => rfl
            | true => exact absurd ⟨k, hk, .inl ⟨h1, h2⟩⟩ hbt
        · exact (hT.keepH hq m' h (by have := hI.cut; omega) fun k h1 h2 => by
            cases hk : wAt q ops k with
            | false => rfl
            | true => exact absurd ⟨k, hk, .inr ⟨h1, h2⟩⟩ hbt).symm
      have hq' : (T (i + 1)).H = (T i).H := xstep_quiet hq (by simpa [wAt, ho] using hw) (hT.step i o ho)
      rw [hH] at hx0
      refine ⟨_, m, by rw [hs]; exact hx0, ?_⟩
      rw [hq', hH]
      exact frames _ m hI.cut hmm.symm hnew

theorem count_set {l : List Bool} {i : Nat} (h : l[i]? = some false) : (l.set i true).count false + 1 = l.count false := by
  induction l generalizing i with
  | nil => simp at h
  | cons x r ih =>
    cases i with
    | zero =>
      simp at h
      subst h
      simp
    | succ i =>
      have := ih (i := i) (by simpa using h)
      rw [List.set_cons_succ, List.count_cons, List.count_cons]
      omega

theorem any_sound {q : FuncId → Bool} (hΩ : OrcOk P Ω) (hT : Trace P Ω ops T) (hq : Quiet Ω q) (hB : OkB q ops)
    (hF : ∀ i o m, ops[i]? = some o → cutAt q ops (ancs ops.toList []) i m = true → m ≤ ops.size → xstep P Ω ops o ⟨(T ops.size).A, (T m).H⟩ = some ⟨(T ops.size).A, (T m).H⟩)
    {Q : Exit → Act → World → Prop} : ∀ (fuel : Nat) (listed : Array Bool) (m : Nat) (s : St) (c : Cx) (a : Act), listed.toList.count false = fuel → Inv q ops T listed m s → SR P c s a →
      (∀ c' a', SR P c' (T ops.size) a' → Le c c' → a'.defers = a.defers → Q .normal a' c'.w) → wpAny P .any ops Q fuel listed a c.w := by
  have done : ∀ (listed : Array Bool) (m : Nat) (s : St), (∀ i, i < ops.size → listed.getD i false = true) → Inv q ops T listed m s → s = T ops.size := by
    intro listed m s hall hI
    obtain ⟨A, H⟩ := s
    have hA : A = (T ops.size).A := by
      apply List.ext_getElem?
      intro t
      by_cases hk : ∃ k, dstAt ops k = some t
      · obtain ⟨k, hk⟩ := hk
        exact hI.put t k (hall k (dstAt_lt hk)) hk
      · rw [hT.keepA ops.size (Nat.zero_le _) (Nat.le_refl _) t fun k _ _ e => hk ⟨k, e⟩]
        exact hI.old t fun k _ e => hk ⟨k, e⟩
    have hH : H = (T ops.size).H := by
      have := hI.heap
      simp only [] at this
      rw [this]
      exact (hT.keepH hq ops.size hI.cut (Nat.le_refl _) fun k h1 h2 => by
        cases hk : wAt q ops k with
        | false => rfl
        | true =>
          have := (hI.ws k hk).1 (hall k h2)
          omega).symm
    rw [hA, hH]
  have ready_nil : ∀ (listed : Array Bool) (m : Nat) (s : St), Inv q ops T listed m s → Region.ready .any ops listed = [] → ∀ i, i < ops.size → listed.getD i false = true := by
    intro listed m s hI hr i
    induction i using Nat.strongRecOn with
    | _ i ih =>
      intro hi
      have ho : ops[i]? = some (ops[i]'hi) := Array.getElem?_eq_getElem _
      cases h : listed.getD i false with
      | true => rfl
      | false =>
        exfalso
        have : i ∈ Region.ready .any ops listed := by
          rw [mem_ready]
          refine ⟨?_, _, ho, fun e he hb => ?_⟩
          · rw [Array.getD_eq_getD_getElem?] at h ⊢
            rw [Array.getElem?_eq_getElem (by rw [hI.size]; exact hi)] at h ⊢
            exact h
          · have hm : e.on ∈ preds (ops[i]'hi) := List.mem_map.2 ⟨e, List.mem_filter.2 ⟨by simpa using he, hb⟩, rfl⟩
            have hlt := hB.pre i _ ho _ hm
            exact ih e.on hlt (by omega)
        rw [hr] at this
        cases this
  intro fuel
  induction fuel with
  | zero =>
    intro listed m s c a hc hI hs hQ
    have hall : ∀ i, i < ops.size → listed.getD i false = true := by
      intro i hi
      have hl : i < listed.size := by rw [hI.size]; exact hi
      rw [Array.getD_eq_getD_getElem?, Array.getElem?_eq_getElem hl]
      cases e : listed[i] with
      | true => rfl
      | false =>
        have : false ∈ listed.toList := by rw [← e]; simp
        rw [List.count_eq_zero] at hc
        exact absurd this hc
    have hr : Region.ready .any ops listed = [] := by
      rw [List.eq_nil_iff_forall_not_mem]
      intro j hj
      obtain ⟨h1, o, ho, _⟩ := mem_ready.1 hj
      have := hall j (Array.getElem?_eq_some_iff.1 ho).1
      rw [Array.getD_eq_getD_getElem?] at h1 this
      cases e : listed[j]? with
      | none => rw [e] at this; cases this
      | some b => rw [e] at h1 this; simp at h1 this; rw [h1] at this; cases this
    refine ⟨hr, ?_⟩
    have := done listed m s hall hI
    subst this
    exact hQ c a hs (Le.refl c) rfl
  | succ fuel ih =>
    intro listed m s c a hc hI hs hQ
    refine ⟨fun hr => ?_, fun i hi => ?_⟩
    · have := done listed m s (ready_nil listed m s hI hr) hI
      subst this
      exact hQ c a hs (Le.refl c) rfl
    · obtain ⟨hun, o, ho, hp⟩ := mem_ready.1 hi
      have hp' : ∀ j ∈ preds o, listed.getD j false = true := fun j hj => by
        obtain ⟨e, he, rfl⟩ := List.mem_map.1 hj
        obtain ⟨h1, h2⟩ := List.mem_filter.1 he
        exact hp e (by simpa using h1) h2
      obtain ⟨s', m', hx, hI'⟩ := inv_step hT hq hB hF hI ho hun hp'
      refine xstep_sound hΩ ho hs hx fun c' a' hs' hle hd => ?_
      have hl : i < listed.size := by rw [hI.size]; exact (Array.getElem?_eq_some_iff.1 ho).1
      refine ih (listed.setIfInBounds i true) m' s' c' a' ?_ hI' hs' fun c'' a'' hs'' hle' hd' => hQ c'' a'' hs'' (hle.trans hle') (hd'.trans hd)
      rw [Array.toList_setIfInBounds]
      have h0 : listed.toList[i]? = some false := by
        rw [Array.getElem?_toList, Array.getElem?_eq_getElem hl]
        rw [Array.getD_eq_getD_getElem?, Array.getElem?_eq_getElem hl] at hun
        simp at hun
        rw [hun]
      have := count_set h0
      omega
end

/-- The number of draws is none of the readings' matter. -/
theorem draw_le (c : Cx) : Le c { c with w := { c.w with drawn := c.w.drawn + 1 } } :=
  ⟨Nat.le_refl _, fun _ k' _ h => ⟨k', h, rfl, Nat.le_refl _, fun _ => rfl⟩, fun _ _ _ => rfl, fun _ k' _ _ h e _ => ⟨k', h, e⟩, Nat.le_refl _, rfl, rfl, rfl, rfl⟩

theorem draw_hr {P : Program} {c : Cx} (h : HR P c) : HR P { c with w := { c.w with drawn := c.w.drawn + 1 } } := by
  refine ⟨fun b k hl => ?_, fun b b' k k' g sz sz' => h.inj b b' k k' g sz sz'⟩
  rcases h.cells b k hl with h1 | ⟨g, sz, arr, h1, h2, h3, h4, h5⟩
  · exact .inl h1
  · exact .inr ⟨g, sz, arr, h1, h2, h3, h4, fun i p u hp hu => (h5 i p u hp hu).mono (draw_le c)⟩

theorem drawn_ok {P : Program} {Ω : Orc} (hm : P.follows .mixedOrders = true) (hΩ : OrcOk P Ω) {q : FuncId → Bool} (hq : Quiet Ω q) : DrawnOk P Ω (drawn P Ω q) := by
  intro id ops s s' c a Q hD hx hs hQ
  simp only [drawn, decide_eq_true_eq] at hD
  obtain ⟨hB0, hF0⟩ := hD
  have hB := okB_spec hB0
  obtain ⟨T, t0, tn, ht, hh⟩ := trace_of ops.toList s s' hx
  rw [Array.length_toList] at tn
  have hT : Trace P Ω ops T := ⟨fun i o ho => ht i o (by simpa using ho)⟩
  have hF : ∀ i o m, ops[i]? = some o → cutAt q ops (ancs ops.toList []) i m = true → m ≤ ops.size → xstep P Ω ops o ⟨(T ops.size).A, (T m).H⟩ = some ⟨(T ops.size).A, (T m).H⟩ := by
    intro i o m ho hc hmle
    have hmem : (i, m) ∈ floats q ops := by
      unfold floats
      rw [List.mem_flatMap]
      refine ⟨i, List.mem_range.2 (Array.getElem?_eq_some_iff.1 ho).1, List.mem_map.2 ⟨m, List.mem_filter.2 ⟨List.mem_range.2 (by omega), hc⟩, rfl⟩⟩
    cases hfl : floats q ops with
    | nil => rw [hfl] at hmem; cases hmem
    | cons x l =>
      rw [hfl] at hF0 hmem
      simp only [] at hF0
      cases hxh : xhs P Ω ops ops.toList s with
      | none => rw [hxh] at hF0; exact hF0.elim
      | some y =>
        obtain ⟨hs', A'⟩ := y
        rw [hxh] at hF0
        obtain ⟨hA, hH⟩ := hh hs' A' hxh
        have := floatsOk_mem hF0 hmem
        simp only [floatOk, ho] at this
        cases hm' : hs'[m]? with
        | none => rw [hm'] at this; exact this.elim
        | some h =>
          rw [hm'] at this
          have e := hH m h hm'
          subst e
          rw [tn, ← hA]
          exact this
  refine wp_region_any hm ?_
  refine any_sound (c := { c with w := { c.w with drawn := c.w.drawn + 1 } }) hΩ hT hq hB hF ops.size (Array.replicate ops.size false) 0 s a ?_ ?_ ?_ ?_
  · simp
  · refine ⟨by simp, fun i o h => ?_, by rw [t0], fun t i h => ?_, fun t _ => by rw [t0], Nat.zero_le _, by rw [t0], fun k hk => ?_⟩
    · exfalso
      rw [Array.getD_eq_getD_getElem?] at h
      rw [Array.getElem?_replicate] at h
      split at h <;> cases h
    · exfalso
      rw [Array.getD_eq_getD_getElem?] at h
      rw [Array.getElem?_replicate] at h
      split at h <;> cases h
    · constructor
      · intro h
        exfalso
        rw [Array.getD_eq_getD_getElem?] at h
        rw [Array.getElem?_replicate] at h
        split at h <;> cases h
      · intro h; omega
  · exact ⟨hs.heap, draw_hr hs.hr, hs.base, hs.len, fun i p u hp hu => (hs.rv i p u hp hu).mono (draw_le c)⟩
  · intro c' a' hs' hle hd
    rw [tn] at hs'
    exact hQ c' a' hs' ((draw_le c).trans hle) hd

end Go.Proofs.Ytjleanfcjipofaa.Eng
