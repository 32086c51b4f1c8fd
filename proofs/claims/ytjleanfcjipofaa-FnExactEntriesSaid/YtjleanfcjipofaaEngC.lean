/- The engine, part C: one block of the abstract heap is made, or becomes another one. No condition. -/
import Derived.Test.YtjleanfcjipofaaEngB
set_option linter.all false
namespace Go.Proofs.Ytjleanfcjipofaa.Eng
open Go Go.RowKit

variable {P : Program}

theorem HR.lt {c : Cx} (h : HR P c) {b : Nat} {k : Blk} {g sz : Nat} (hl : c.live b k) (hs : c.σ b = some (g, sz)) : g < c.w.heap.size := by
  rcases h.cells b k hl with ⟨h1, _⟩ | ⟨g', sz', arr, h1, h2, _⟩
  · rw [hs] at h1; cases h1
  · rw [hs] at h1
    injection h1 with h1
    injection h1 with h1 _
    subst h1
    exact (Array.getElem?_eq_some_iff.1 h2).1

/-- The cells of a block, when there is one. -/
def Holds (P : Program) (c : Cx) (k : Blk) (σn : Option (Nat × Nat)) (w : World) : Prop :=
  (σn = none ∧ k.cs = []) ∨ ∃ g sz arr, σn = some (g, sz) ∧ w.heap[g]? = some (.cells arr k.e (0, 0)) ∧ arr.size = sz ∧ k.cs.length ≤ sz ∧ ∀ (i : Nat) p u, k.cs[i]? = some p → arr[i]? = some u → RV P c p u

/-- One block (n) of the heap becomes k', or is new; no other one turns. -/
theorem put_block {c c' : Cx} (hr : HR P c) (n : Nat) (k' : Blk) (hbase : c'.base = c.base)
    (hlen : c.H.length ≤ c'.H.length) (hn : n < c'.H.length) (hH : ∀ b, b ≠ n → b < c.H.length → c'.H[b]? = c.H[b]?) (hH2 : ∀ b, b ≠ n → c.H.length ≤ b → c'.H[b]? = none) (hHn : c'.H[n]? = some (some k'))
    (hσ : ∀ b, b ≠ n → c'.σ b = c.σ b)
    (hold : n < c.H.length → ∃ k, c.live n k ∧ k'.e = k.e ∧ k.ver ≤ k'.ver ∧ (k'.ver = k.ver → c'.σ n = c.σ n))
    (hown : ∀ g sz, c'.σ n = some (g, sz) → g < c.w.heap.size → ∃ k, c.live n k ∧ c.σ n = some (g, sz))
    (hkeep : ∀ g, g < c.w.heap.size → (∀ k sz, c.live n k → c.σ n ≠ some (g, sz)) → c'.w.heap[g]? = c.w.heap[g]?)
    (hsize : c.w.heap.size ≤ c'.w.heap.size) (hos : c'.w.os = c.w.os) (htape : c'.w.tape = c.w.tape) (hout : c'.w.output = c.w.output)
    (hcells : Holds P c k' (c'.σ n) c'.w) : Le c c' ∧ HR P c' := by
  have liveN : ∀ b k, c'.live b k → b ≠ n → c.live b k := by
    intro b k hl hb
    unfold Cx.live at hl ⊢
    rcases Nat.lt_or_ge b c.H.length with h | h
    · rw [← hH b hb h]; exact hl
    · rw [hH2 b hb h] at hl; cases hl
  have liveAt : ∀ k, c'.live n k → k = k' := by
    intro k hl
    unfold Cx.live at hl
    rw [hHn] at hl
    injection hl with hl
    injection hl with hl
    exact hl.symm
  have hle : Le c c' := by
    refine ⟨hlen, ?_, ?_, ?_, hsize, hos, htape, hout, hbase⟩
    · intro b k hb hl
      by_cases e : b = n
      · subst e
        obtain rfl := liveAt k hl
        obtain ⟨k0, h0⟩ := hold hb
        exact ⟨k0, h0⟩
      · exact ⟨k, liveN b k hl e, rfl, Nat.le_refl _, fun _ => hσ b e⟩
    · intro g hg ho
      exact hkeep g hg (fun k sz hl hs => ho ⟨n, k, sz, hl, hs⟩)
    · intro b k g sz hl hs hg
      by_cases e : b = n
      · subst e
        exact hown g sz hs hg
      · exact ⟨k, liveN b k hl e, by rw [← hσ b e]; exact hs⟩
  refine ⟨hle, ?_, ?_⟩
  · intro b k hl
    by_cases e : b = n
    · subst e
      obtain rfl := liveAt k hl
      rcases hcells with h | ⟨g, sz, arr, h1, h2, h3, h4, h5⟩
      · exact .inl h
      · exact .inr ⟨g, sz, arr, h1, h2, h3, h4, fun i p u hp hu => (h5 i p u hp hu).mono hle⟩
    · have hl0 := liveN b k hl e
      rw [hσ b e]
      rcases hr.cells b k hl0 with h | ⟨g, sz, arr, h1, h2, h3, h4, h5⟩
      · exact .inl h
      · refine .inr ⟨g, sz, arr, h1, ?_, h3, h4, fun i p u hp hu => (h5 i p u hp hu).mono hle⟩
        rw [hkeep g (hr.lt hl0 h1) (fun k0 sz0 hk0 hs0 => e (hr.inj b n k k0 g sz sz0 hl0 hk0 h1 hs0))]
        exact h2
  · have key : ∀ b k g sz sz', c'.live b k → b ≠ n → c'.σ b = some (g, sz) → c'.σ n = some (g, sz') → False := by
      intro b k g sz sz' hl hb h1 h2
      have hl0 := liveN b k hl hb
      rw [hσ b hb] at h1
      obtain ⟨k0, hk0, hs0⟩ := hown g sz' h2 (hr.lt hl0 h1)
      exact hb (hr.inj b n k k0 g sz sz' hl0 hk0 h1 hs0)
    intro b b' k k1 g sz sz' hl hl' h1 h2
    by_cases e : b = n
    · by_cases e' : b' = n
      · rw [e, e']
      · subst e
        exact (key b' k1 g sz' sz hl' e' h2 h1).elim
    · by_cases e' : b' = n
      · subst e'
        exact (key b k g sz sz' hl e h1 h2).elim
      · exact hr.inj b b' k k1 g sz sz' (liveN b k hl e) (liveN b' k1 hl' e') (by rw [← hσ b e]; exact h1) (by rw [← hσ b' e']; exact h2)

def setσ (σ : Nat → Option (Nat × Nat)) (n : Nat) (v : Option (Nat × Nat)) : Nat → Option (Nat × Nat) := fun b => if b = n then v else σ b
theorem setσ_same (σ : Nat → Option (Nat × Nat)) (n : Nat) (v : Option (Nat × Nat)) : setσ σ n v n = v := if_pos rfl
theorem setσ_ne (σ : Nat → Option (Nat × Nat)) {n b : Nat} (v : Option (Nat × Nat)) (h : b ≠ n) : setσ σ n v b = σ b := if_neg h

/-- The reading when a block has been made. -/
def Cx.made (c : Cx) (w : World) (σn : Option (Nat × Nat)) (k : Blk) : Cx := ⟨setσ c.σ c.H.length σn, c.H ++ [some k], w, c.base⟩
/-- The reading when block n has become another one. -/
def Cx.turned (c : Cx) (w : World) (n : Nat) (σn : Option (Nat × Nat)) (k : Blk) : Cx := ⟨setσ c.σ n σn, c.H.set n (some k), w, c.base⟩

/-- A new block. -/
theorem made_block {c : Cx} (hr : HR P c) (k : Blk) (w : World) (g : Nat) (arr : Array Value) (hg : c.w.heap.size ≤ g) (hw : w.heap[g]? = some (.cells arr k.e (0, 0))) (hkeep : ∀ i, i < c.w.heap.size → w.heap[i]? = c.w.heap[i]?)
    (hsize : c.w.heap.size ≤ w.heap.size) (hos : w.os = c.w.os) (htape : w.tape = c.w.tape) (hout : w.output = c.w.output)
    (hl : k.cs.length ≤ arr.size) (hcs : ∀ (i : Nat) p u, k.cs[i]? = some p → arr[i]? = some u → RV P c p u) :
    Le c (c.made w (some (g, arr.size)) k) ∧ HR P (c.made w (some (g, arr.size)) k) := by
  refine put_block hr c.H.length k rfl (by simp [Cx.made]) (by simp [Cx.made]) ?_ ?_ (by simp [Cx.made]) (fun b hb => setσ_ne _ _ hb) (fun h => absurd h (by omega)) ?_ (fun i hi _ => hkeep i hi) hsize hos htape hout ?_
  · intro b hb hlt
    simp only [Cx.made]
    rw [List.getElem?_append_left hlt]
  · intro b hb hlt
    exact List.getElem?_eq_none (by simp [Cx.made]; omega)
  · intro g' sz h hlt
    simp only [Cx.made, setσ_same] at h
    injection h with h
    injection h with h _
    omega
  · exact .inr ⟨g, arr.size, arr, setσ_same _ _ _, hw, rfl, hl, hcs⟩

/-- Block n, there already, turns. -/
theorem turned_block {c : Cx} (hr : HR P c) (n : Nat) (k k' : Blk) (σn : Option (Nat × Nat)) (w : World) (hlive : c.live n k) (he : k'.e = k.e) (hv : k.ver ≤ k'.ver) (hs : k'.ver = k.ver → σn = c.σ n)
    (hown : ∀ g sz, σn = some (g, sz) → g < c.w.heap.size → c.σ n = some (g, sz))
    (hkeep : ∀ g, g < c.w.heap.size → (∀ sz, c.σ n ≠ some (g, sz)) → w.heap[g]? = c.w.heap[g]?)
    (hsize : c.w.heap.size ≤ w.heap.size) (hos : w.os = c.w.os) (htape : w.tape = c.w.tape) (hout : w.output = c.w.output) (hcells : Holds P c k' σn w) :
    Le c (c.turned w n σn k') ∧ HR P (c.turned w n σn k') := by
  have hn := live_lt hlive
  refine put_block hr n k' rfl (by simp [Cx.turned]) (by simp [Cx.turned]; exact hn) ?_ ?_ (by simp [Cx.turned, hn]) (fun b hb => setσ_ne _ _ hb)
    (fun _ => ⟨k, hlive, he, hv, fun e => by simp only [Cx.turned, setσ_same]; exact hs e⟩) ?_ (fun g hg h => hkeep g hg (fun sz => h k sz hlive)) hsize hos htape hout (by simp only [Cx.turned, setσ_same]; exact hcells)
  · intro b hb _
    simp only [Cx.turned]
    rw [List.getElem?_set_ne (Ne.symm hb)]
  · intro b hb hlt
    exact List.getElem?_eq_none (by simp [Cx.turned]; omega)
  · intro g sz h hlt
    simp only [Cx.turned, setσ_same] at h
    exact ⟨k, hlive, hown g sz h hlt⟩

/-- The world alone goes on: new blocks that nobody knows, draws. -/
theorem world_on {c : Cx} (hr : HR P c) (w : World) (hkeep : ∀ i, i < c.w.heap.size → w.heap[i]? = c.w.heap[i]?)
    (hsize : c.w.heap.size ≤ w.heap.size) (hos : w.os = c.w.os) (htape : w.tape = c.w.tape) (hout : w.output = c.w.output) :
    Le c { c with w := w } ∧ HR P { c with w := w } := by
  have hle : Le c { c with w := w } := ⟨Nat.le_refl _, fun _ k' _ h => ⟨k', h, rfl, Nat.le_refl _, fun _ => rfl⟩, fun g hg _ => hkeep g hg, fun _ k' _ _ h e _ => ⟨k', h, e⟩, hsize, hos, htape, hout, rfl⟩
  refine ⟨hle, ?_, hr.inj⟩
  intro b k hl
  rcases hr.cells b k hl with h | ⟨g, sz, arr, h1, h2, h3, h4, h5⟩
  · exact .inl h
  · exact .inr ⟨g, sz, arr, h1, by rw [hkeep g (hr.lt hl h1)]; exact h2, h3, h4, fun i p u hp hu => (h5 i p u hp hu).mono hle⟩

/-- A value of one cell. -/
theorem RV.oneCell {c : Cx} {p : PV} {v : Value} (h : RV P c p v) (hc : isCell p = true) : v.oneCell' = true := by
  cases h with
  | lit v hv => cases v <;> first | rfl | simp [flat] at hv
  | _ => first | rfl | simp [isCell] at hc

/-- The cells of a value. -/
theorem RV.cells {c : Cx} {p : PV} {v : Value} (h : RV P c p v) (hv : isVal p = true) : v.cells.size = (cellsOf p).length ∧ ∀ (i : Nat) q u, (cellsOf p)[i]? = some q → v.cells[i]? = some u → RV P c q u := by
  have h0 := h
  have key : ∀ (q : PV) (u : Value), q = p → u = v → u.cells = #[u] → cellsOf q = [q] → v.cells.size = (cellsOf p).length ∧ ∀ (i : Nat) q u, (cellsOf p)[i]? = some q → v.cells[i]? = some u → RV P c q u := by
    rintro q u rfl rfl e1 e2
    rw [e1, e2]
    refine ⟨rfl, fun i a b ha hb => ?_⟩
    cases i with
    | zero => simp at ha hb; subst ha; subst hb; exact h0
    | succ i => simp at ha
  cases h with
  | bot => simp [isVal] at hv
  | tup => simp [isVal] at hv
  | agg cs vs hl hr => exact ⟨hl.symm, hr⟩
  | lit v hf => exact key _ _ rfl rfl (by cases v <;> first | rfl | simp [flat] at hf) rfl
  | _ => exact key _ _ rfl rfl rfl rfl

end Go.Proofs.Ytjleanfcjipofaa.Eng
