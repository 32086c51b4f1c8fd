/- The engine, part O: plain Lean data as trees by value; how a law's arguments are opened to such data; from a run of the whole program to what a row asks. -/
import Derived.Test.YtjleanfcjipofaaEngNb
import Derived.ChangeArms
import Derived.DataReads
import Derived.Carry
set_option linter.all false
namespace Go.Proofs.Ytjleanfcjipofaa.Eng
open Go Go.RowKit

theorem travs_append {g : PV → Option PV} {kp : Bool} : ∀ {xs ys xs' ys' : List PV}, travs g kp xs = some xs' → travs g kp ys = some ys' → travs g kp (xs ++ ys) = some (xs' ++ ys')
  | [], ys, xs', ys', h, h' => by
    simp only [travs] at h
    injection h with h
    subst h
    exact h'
  | x :: r, ys, xs', ys', h, h' => by
    simp only [travs] at h
    rw [Option.bind_eq_some_iff] at h; obtain ⟨q, hq, h⟩ := h
    obtain ⟨s, hs, rfl⟩ := Option.map_eq_some_iff.1 h
    simp only [List.cons_append, travs, hq, Option.bind_some, travs_append hs h', Option.map_some]
theorem freshs_append {xs ys : List PV} (h : freshs xs = true) (h' : freshs ys = true) : freshs (xs ++ ys) = true := by
  induction xs with
  | nil => exact h'
  | cons x r ih =>
    simp only [freshs, Bool.and_eq_true] at h
    simp only [List.cons_append, freshs, h.1, ih h.2, Bool.and_self]
theorem belowL_append {n : Nat} {xs ys : List PV} (h : belowL n xs = true) (h' : belowL n ys = true) : belowL n (xs ++ ys) = true := by
  induction xs with
  | nil => exact h'
  | cons x r ih =>
    simp only [belowL, Bool.and_eq_true] at h
    simp only [List.cons_append, belowL, h.1, ih h.2, Bool.and_self]

/-- Data that can be told as cells. -/
class Enc (α : Type) where
  w : Nat
  cells : Bool → α → List PV
  wf : α → Prop
  len : ∀ fr a, (cells fr a).length = w
  trv : ∀ g kp fr a, travs g kp (cells fr a) = some (cells (fr && kp) a)
  frs : ∀ a, freshs (cells true a) = true
  bel : ∀ n fr a, belowL n (cells fr a) = true
  cel : ∀ fr a, (cells fr a).all isCell = true

instance : Enc Int where
  w := 1
  cells _ n := [.lit (.int .i64 n)]
  wf n := -9223372036854775808 ≤ n ∧ n ≤ 9223372036854775807
  len _ _ := rfl
  trv _ _ _ _ := by simp [travs, trav]
  frs _ := rfl
  bel _ _ _ := rfl
  cel _ _ := rfl
instance : Enc Bool where
  w := 1
  cells _ b := [.lit (.bool b)]
  wf _ := True
  len _ _ := rfl
  trv _ _ _ _ := by simp [travs, trav]
  frs _ := rfl
  bel _ _ _ := rfl
  cel _ _ := rfl
instance : Enc ByteArray where
  w := 1
  cells _ s := [.lit (.string s)]
  wf s := s.size ≤ 9223372036854775807
  len _ _ := rfl
  trv _ _ _ _ := by simp [travs, trav]
  frs _ := rfl
  bel _ _ _ := rfl
  cel _ _ := rfl
instance : Enc Unit where
  w := 0
  cells _ _ := []
  wf _ := True
  len _ _ := rfl
  trv _ _ _ _ := by simp [travs]
  frs _ := rfl
  bel _ _ _ := rfl
  cel _ _ := rfl
instance {α β : Type} [Enc α] [Enc β] : Enc (α × β) where
  w := Enc.w α + Enc.w β
  cells fr x := Enc.cells fr x.1 ++ Enc.cells fr x.2
  wf x := Enc.wf x.1 ∧ Enc.wf x.2
  len fr a := by rw [List.length_append, Enc.len, Enc.len]
  trv g kp fr a := travs_append (Enc.trv g kp fr a.1) (Enc.trv g kp fr a.2)
  frs a := freshs_append (Enc.frs a.1) (Enc.frs a.2)
  bel n fr a := belowL_append (Enc.bel n fr a.1) (Enc.bel n fr a.2)
  cel fr a := by rw [List.all_append, Enc.cel, Enc.cel]; rfl

/-- The cells of a row. -/
def rows {α : Type} [Enc α] (fr : Bool) (l : List α) : List PV := l.flatMap (Enc.cells fr)

section
variable {α : Type} [Enc α]
theorem rows_nil (fr : Bool) : rows fr ([] : List α) = [] := rfl
theorem rows_cons (fr : Bool) (x : α) (l : List α) : rows fr (x :: l) = Enc.cells fr x ++ rows fr l := rfl
theorem rows_append (fr : Bool) (l m : List α) : rows fr (l ++ m) = rows fr l ++ rows fr m := by simp [rows]
theorem rows_len (fr : Bool) (l : List α) : (rows fr l).length = l.length * Enc.w α := by
  induction l with
  | nil => simp [rows_nil]
  | cons x r ih => rw [rows_cons, List.length_append, Enc.len, ih, List.length_cons, Nat.succ_mul, Nat.add_comm]
theorem rows_trv (g : PV → Option PV) (kp fr : Bool) (l : List α) : travs g kp (rows fr l) = some (rows (fr && kp) l) := by
  induction l with
  | nil => rfl
  | cons x r ih => exact travs_append (Enc.trv g kp fr x) ih
theorem rows_frs (l : List α) : freshs (rows true l) = true := by
  induction l with
  | nil => rfl
  | cons x r ih => exact freshs_append (Enc.frs x) ih
theorem rows_bel (n : Nat) (fr : Bool) (l : List α) : belowL n (rows fr l) = true := by
  induction l with
  | nil => rfl
  | cons x r ih => exact belowL_append (Enc.bel n fr x) ih
theorem rows_cel (fr : Bool) (l : List α) : (rows fr l).all isCell = true := by
  induction l with
  | nil => rfl
  | cons x r ih => rw [rows_cons, List.all_append, Enc.cel, ih]; rfl
theorem rows_get (fr : Bool) : ∀ (l : List α) (i k : Nat) (x : α), l[i]? = some x → k < Enc.w α → (rows fr l)[i * Enc.w α + k]? = (Enc.cells fr x)[k]?
  | [], i, k, x, h, _ => by simp at h
  | y :: r, 0, k, x, h, hk => by
    simp at h
    subst h
    rw [rows_cons, Nat.zero_mul, Nat.zero_add, List.getElem?_append_left (by rw [Enc.len]; exact hk)]
  | y :: r, i + 1, k, x, h, hk => by
    have e : (i + 1) * Enc.w α + k = (Enc.cells fr y).length + (i * Enc.w α + k) := by rw [Enc.len, Nat.succ_mul]; omega
    rw [rows_cons, e, List.getElem?_append_right (by omega), Nat.add_sub_cancel_left]
    exact rows_get fr r i k x (by simpa using h) hk
theorem rows_take (fr : Bool) : ∀ (l : List α) (i : Nat) (x : α), l[i]? = some x → ((rows fr l).drop (i * Enc.w α)).take (Enc.w α) = Enc.cells fr x
  | [], i, x, h => by simp at h
  | y :: r, 0, x, h => by
    simp at h
    subst h
    rw [rows_cons, Nat.zero_mul, List.drop_zero, List.take_append_of_le_length (by rw [Enc.len]; exact Nat.le_refl _), List.take_of_length_le (by rw [Enc.len]; exact Nat.le_refl _)]
  | y :: r, i + 1, x, h => by
    have e : (i + 1) * Enc.w α = (Enc.cells fr y).length + i * Enc.w α := by rw [Enc.len, Nat.succ_mul]; omega
    rw [rows_cons, e, List.drop_append, List.drop_eq_nil_of_le (by omega), List.nil_append, Nat.add_sub_cancel_left]
    exact rows_take fr r i x (by simpa using h)
theorem rows_over (fr : Bool) : ∀ (l : List α) (i : Nat) (x : α), i < l.length → over (rows fr l) (i * Enc.w α) (Enc.cells fr x) = rows fr (l.set i x)
  | [], i, x, h => by simp at h
  | y :: r, 0, x, h => by
    unfold over
    rw [rows_cons, Nat.zero_mul, Nat.zero_add, List.take_zero, List.nil_append, Enc.len, List.set_cons_zero, rows_cons, List.drop_append, List.drop_eq_nil_of_le (by rw [Enc.len]; exact Nat.le_refl _), List.nil_append, Enc.len, Nat.sub_self, List.drop_zero]
  | y :: r, i + 1, x, h => by
    have ih := rows_over fr r i x (by simpa using h)
    unfold over at ih ⊢
    have e : (i + 1) * Enc.w α = (Enc.cells fr y).length + i * Enc.w α := by rw [Enc.len, Nat.succ_mul]; omega
    rw [rows_cons, e, List.set_cons_succ, rows_cons, ← ih, List.take_append, List.take_of_length_le (by omega), Nat.add_sub_cancel_left, Nat.add_assoc, List.drop_append, List.drop_eq_nil_of_le (by omega), List.nil_append, Nat.add_sub_cancel_left]
    simp
theorem rows_drop_take (fr : Bool) (l : List α) (i n : Nat) : ((rows fr l).drop (i * Enc.w α)).take (n * Enc.w α) = rows fr ((l.drop i).take n) := by
  have hd : ∀ (l : List α) (i : Nat), (rows fr l).drop (i * Enc.w α) = rows fr (l.drop i) := by
    intro l i
    induction i generalizing l with
    | zero => simp
    | succ i ih =>
      cases l with
      | nil => simp [rows_nil]
      | cons y r =>
        have e : (i + 1) * Enc.w α = (Enc.cells fr y).length + i * Enc.w α := by rw [Enc.len, Nat.succ_mul]; omega
        rw [rows_cons, e, List.drop_append, List.drop_eq_nil_of_le (by omega), List.nil_append, Nat.add_sub_cancel_left, ih, List.drop_succ_cons]
  have ht : ∀ (l : List α) (n : Nat), (rows fr l).take (n * Enc.w α) = rows fr (l.take n) := by
    intro l n
    induction n generalizing l with
    | zero => simp [rows_nil]
    | succ n ih =>
      cases l with
      | nil => simp [rows_nil]
      | cons y r =>
        have e : (n + 1) * Enc.w α = (Enc.cells fr y).length + n * Enc.w α := by rw [Enc.len, Nat.succ_mul]; omega
        rw [rows_cons, e, List.take_append, List.take_of_length_le (by omega), Nat.add_sub_cancel_left, ih, List.take_succ_cons, rows_cons]
  rw [hd, ht]
end

instance {α : Type} [Enc α] : Enc (List α) where
  w := 1
  cells fr l := [.rd (rows fr l) l.length false fr]
  wf l := (∀ x ∈ l, Enc.wf x) ∧ l.length ≤ 9223372036854775807
  len _ _ := rfl
  trv g kp fr l := by simp [travs, trav, rows_trv]
  frs l := by simp [freshs, fresh, rows_frs]
  bel n fr l := by simp [belowL, belowB, rows_bel]
  cel _ _ := rfl

/-! ### Opening -/

/-- Cells and what they hold. -/
def RVs (P : Program) (c : Cx) (ps : List PV) (vs : List Value) : Prop := ps.length = vs.length ∧ ∀ (i : Nat) p u, ps[i]? = some p → vs[i]? = some u → RV P c p u

theorem RVs.append {P : Program} {c : Cx} {ps qs : List PV} {vs us : List Value} (h : RVs P c ps vs) (h' : RVs P c qs us) : RVs P c (ps ++ qs) (vs ++ us) := by
  refine ⟨by rw [List.length_append, List.length_append, h.1, h'.1], fun i p u hp hu => ?_⟩
  rcases Nat.lt_or_ge i ps.length with hlt | hge
  · rw [List.getElem?_append_left hlt] at hp
    rw [List.getElem?_append_left (by rw [← h.1]; exact hlt)] at hu
    exact h.2 i p u hp hu
  · rw [List.getElem?_append_right hge] at hp
    rw [List.getElem?_append_right (by rw [← h.1]; exact hge), ← h.1] at hu
    exact h'.2 _ p u hp hu

theorem RVs.one {P : Program} {c : Cx} {p : PV} {v : Value} (h : RV P c p v) : RVs P c [p] [v] := by
  refine ⟨rfl, fun i q u hq hu => ?_⟩
  cases i with
  | zero => simp at hq hu; subst hq hu; exact h
  | succ i => simp at hq

/-- What is read at a type is data of this kind. -/
def Opens (P : Program) (α : Type) [Enc α] (t : TypeId) : Prop :=
  P.cellsOf t = Enc.w α ∧ ∀ {H : Type} {enc : TypeId × Value → H} {w : World} {base : Nat} {spare : Nat → Bool} {held : Bool} {fuel : Nat} {cs : List Value} {x : DataW H × List MemPlace} (c : Cx), c.H = [] → c.w = w →
    DataW.trod enc P w base spare held fuel t cs = some x → ∃ a : α, Enc.wf a ∧ RVs P c (Enc.cells false a) cs

section
variable {P : Program}
theorem opens_int {t : TypeId} (ht : P.underlying t = some (.int .i64)) (hc : P.cellsOf t = 1) : Opens P Int t := by
  refine ⟨hc, fun c _ _ h => ?_⟩
  obtain ⟨n, rfl, _, hw⟩ := DataW.trod_int ht h
  refine ⟨n, ?_, RVs.one (.lit _ rfl)⟩
  simp only [Lit.wf, Bool.and_eq_true, decide_eq_true_eq] at hw
  exact hw
theorem opens_bool {t : TypeId} (ht : P.underlying t = some .bool) (hc : P.cellsOf t = 1) : Opens P Bool t := by
  refine ⟨hc, fun c _ _ h => ?_⟩
  obtain ⟨b, rfl, _⟩ := DataW.trod_bool ht h
  exact ⟨b, trivial, RVs.one (.lit _ rfl)⟩
theorem opens_string {t : TypeId} (ht : P.underlying t = some .string) (hc : P.cellsOf t = 1) : Opens P ByteArray t := by
  refine ⟨hc, fun c _ _ h => ?_⟩
  obtain ⟨s, rfl, _, hs⟩ := DataW.trod_string ht h
  exact ⟨s, hs, RVs.one (.lit _ rfl)⟩

theorem opens_slice {α : Type} [Enc α] {t e : TypeId} (ht : P.underlying t = some (.slice e)) (he : Opens P α e) (hc : P.cellsOf t = 1) : Opens P (List α) t := by
  refine ⟨hc, fun {H enc w base spare held fuel cs x} c hH hw h => ?_⟩
  rcases DataW.trod_slice ht h with ⟨rfl, _⟩ | ⟨a, len, cap, elems, rest, n, _, rfl, _, _, hlc, hcm, hel, hi, _⟩
  · exact ⟨[], ⟨fun x hx => (by cases hx), by simp⟩, RVs.one (.rdNil 0 false false none 0 (Nat.le_refl _) (fun h => by cases h))⟩
  · rw [he.1] at hi
    have key : ∀ m, m ≤ len → ∃ l : List α, l.length = m ∧ (∀ x ∈ l, Enc.wf x) ∧ (∀ i, i < m * Enc.w α → (c.w.cell? (a.add i)).isSome = true) ∧ ∀ (i : Nat) p u, (rows false l)[i]? = some p → c.w.cell? (a.add i) = some u → RV P c p u := by
      intro m
      induction m with
      | zero => exact fun _ => ⟨[], rfl, fun x hx => (by cases hx), fun i hi => (by omega), fun i p u hp => (by simp [rows] at hp)⟩
      | succ m ih =>
        intro hm
        obtain ⟨l, hl, hwf, hs, hcells⟩ := ih (by omega)
        have h1 := hi m (by omega)
        rw [List.getElem?_eq_getElem (by omega : m < elems.length)] at h1
        obtain ⟨vs, hvs, htrod⟩ := Option.bind_eq_some_iff.1 h1
        obtain ⟨y, hy, hrv⟩ := he.2 c hH hw htrod
        obtain ⟨_, hvl, hvc⟩ := World.cells?_some hvs
        have hvc' : ∀ k, k < Enc.w α → c.w.cell? (a.add (m * Enc.w α + k)) = vs[k]? := fun k hk => by
          rw [hw, ← hvc k hk, add_add]
        refine ⟨l ++ [y], by simp [hl], fun x hx => ?_, fun i hi' => ?_, fun i p u hp hu => ?_⟩
        · rcases List.mem_append.1 hx with h | h
          · exact hwf x h
          · simp at h; subst h; exact hy
        · rcases Nat.lt_or_ge i (m * Enc.w α) with h | h
          · exact hs i h
          · have e : i = m * Enc.w α + (i - m * Enc.w α) := by omega
            have hk : i - m * Enc.w α < Enc.w α := by rw [Nat.succ_mul] at hi'; omega
            rw [e, hvc' _ hk, List.getElem?_eq_getElem (by omega)]
            rfl
        · rw [rows_append] at hp
          rcases Nat.lt_or_ge i (rows false l).length with h | h
          · rw [List.getElem?_append_left h] at hp
            exact hcells i p u hp hu
          · rw [List.getElem?_append_right h] at hp
            have e0 : rows false [y] = Enc.cells false y := by simp [rows]
            rw [e0] at hp
            rw [rows_len, hl] at h hp
            have hk := (List.getElem?_eq_some_iff.1 hp).1
            rw [Enc.len] at hk
            have e : i = m * Enc.w α + (i - m * Enc.w α) := by omega
            rw [e, hvc' _ hk] at hu
            exact hrv.2 _ p u hp hu
    obtain ⟨l, hl, hwf, hs, hcells⟩ := key len (Nat.le_refl _)
    refine ⟨l, ⟨hwf, ?_⟩, ?_⟩
    · unfold Go.maxLen at hcm
      omega
    · subst hl
      exact RVs.one (.rdRow _ _ _ _ a cap hlc (fun h => by cases h) (not_owned hH _) (fun h => by cases h) (fun i hi => hs i (by rw [rows_len] at hi; exact hi)) hcells)

/-- The fields of a struct, from one on. -/
structure OpensFs (P : Program) (α : Type) [Enc α] (fs : List Field) (off : Nat) : Prop where
  go : ∀ {H : Type} {enc : TypeId × Value → H} {w : World} {base : Nat} {spare : Nat → Bool} {held : Bool} {fuel : Nat} {cs : List Value} (c : Cx), c.H = [] → c.w = w → cs.length = off + Enc.w α →
    (∀ f ∈ fs, ∃ x, DataW.trod enc P w base spare held fuel f.type ((cs.drop f.offset).take (P.cellsOf f.type)) = some x) → ∃ a : α, Enc.wf a ∧ RVs P c (Enc.cells false a) (cs.drop off)

theorem opens_none {off : Nat} : OpensFs P Unit [] off := by
  constructor
  intro H enc w base spare held fuel cs c hH hw hl _
  refine ⟨(), trivial, ?_⟩
  rw [List.drop_eq_nil_of_le (by rw [hl]; exact Nat.le_refl _)]
  exact ⟨rfl, fun i p u hp => by simp [Enc.cells] at hp⟩

theorem opens_field {α β : Type} [Enc α] [Enc β] {f : Field} {fs : List Field} {off : Nat} (hf : Opens P α f.type) (ho : f.offset = off) (hr : OpensFs P β fs (off + Enc.w α)) : OpensFs P (α × β) (f :: fs) off := by
  constructor
  intro H enc w base spare held fuel cs c hH hw hl h
  obtain ⟨x, hx⟩ := h f List.mem_cons_self
  rw [hf.1, ho] at hx
  obtain ⟨a, ha, hra⟩ := hf.2 c hH hw hx
  have hl' : cs.length = off + Enc.w α + Enc.w β := by
    have : Enc.w (α × β) = Enc.w α + Enc.w β := rfl
    rw [this] at hl
    omega
  obtain ⟨b, hb, hrb⟩ := hr.go c hH hw hl' (fun g hg => h g (List.mem_cons_of_mem _ hg))
  refine ⟨(a, b), ⟨ha, hb⟩, ?_⟩
  have e : cs.drop off = (cs.drop off).take (Enc.w α) ++ cs.drop (off + Enc.w α) := by
    rw [← List.drop_drop, List.take_append_drop]
  rw [e]
  exact hra.append hrb

theorem opens_struct {α : Type} [Enc α] {t : TypeId} {fs : Array Field} (ht : P.underlying t = some (.struct fs)) (hc : P.cellsOf t = Enc.w α) (hf : OpensFs P α fs.toList 0) : Opens P α t := by
  refine ⟨hc, fun {H enc w base spare held fuel cs x} c hH hw h => ?_⟩
  obtain ⟨xs, n, _, _, hl, hxl, hi⟩ := DataW.trod_struct ht h
  obtain ⟨a, ha, hr⟩ := hf.go c hH hw (by rw [hl, hc, Nat.zero_add]) (fun f hmem => by
    obtain ⟨i, hi', hfi⟩ := List.mem_iff_getElem.1 hmem
    have h1 := hi i f (by rw [← hfi]; simp at hi' ⊢)
    have hi2 : i < xs.length := by rw [hxl]; simpa using hi'
    rw [List.getElem?_eq_getElem hi2] at h1
    exact ⟨_, h1⟩)
  exact ⟨a, ha, by simpa using hr⟩

/-- Data told otherwise. -/
theorem opens_as {α β : Type} [Enc α] [Enc β] {t : TypeId} (f : β → α) (hw : Enc.w α = Enc.w β) (hc : ∀ b, Enc.cells false (f b) = Enc.cells false b) (hwf : ∀ b, Enc.wf b → Enc.wf (f b)) (h : Opens P β t) : Opens P α t := by
  refine ⟨h.1.trans hw.symm, fun c hH hcw hx => ?_⟩
  obtain ⟨b, hb, hr⟩ := h.2 c hH hcw hx
  exact ⟨f b, hwf b hb, by rw [hc]; exact hr⟩

/-- One argument of a law, as a value. -/
def argOf (agg : Bool) (cs : List PV) : PV := match agg, cs with
  | false, [p] => p
  | _, cs => .agg cs

/-- A law's run, as a row asks for it. -/
theorem law_calls {f : FuncId} {args : List PV} {G : Hp} (h : ACalls P f args [] (.lit (.bool true)) G) (w : World) (vs : Array Value) (hl : args.length = vs.size)
    (hv : ∀ (i : Nat) p u, args[i]? = some p → vs[i]? = some u → RV P ⟨fun _ => none, [], w, w.heap.size⟩ p u) :
    Calls P f vs w fun e w' => e = .returned (.bool true) ∧ Below w.heap.size w w' := by
  refine (h ⟨fun _ => none, [], w, w.heap.size⟩ vs rfl (empty_hr rfl) (Nat.le_refl _) hl hv).mono ?_
  rintro e w' ⟨v, c', rfl, rfl, _, hle, _, hrv⟩
  have := hrv.litInv.1
  subst this
  exact ⟨rfl, hle.os, hle.tape, hle.output, hle.size, fun k hk => hle.keep k hk (not_owned rfl k)⟩
end

end Go.Proofs.Ytjleanfcjipofaa.Eng
