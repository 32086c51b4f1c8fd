/- The engine, part B: what an abstract value, and the abstract heap, say of a real value and of a real world; how that is kept. No condition. -/
import Derived.Test.YtjleanfcjipofaaEngA
set_option linter.all false
namespace Go.Proofs.Ytjleanfcjipofaa.Eng
open Go Go.RowKit

/-- A reading of the abstract heap: where its blocks lie (and of what size), the heap, the world, how many blocks there were when the call began. -/
structure Cx where
  σ : Nat → Option (Nat × Nat)
  H : Hp
  w : World
  base : Nat

def Cx.live (c : Cx) (b : Nat) (k : Blk) : Prop := c.H[b]? = some (some k)
def Cx.owned (c : Cx) (g : Nat) : Prop := ∃ b k sz, c.live b k ∧ c.σ b = some (g, sz)

/-- A slice of an own block. -/
def SlRel (P : Program) (c : Cx) (k : Blk) (b off n : Nat) (A : Option Addr) (cap : Nat) : Prop :=
  (∃ g sz, c.σ b = some (g, sz) ∧ ((A = some ⟨g, off, none⟩ ∧ ∀ i, P.info? k.e = some i → off + cap * i.size = sz) ∨ (n = 0 ∧ cap = 0 ∧ (off = 0 → sz = 0)))) ∨ (c.σ b = none ∧ n = 0 ∧ cap = 0)

inductive RV (P : Program) (c : Cx) : PV → Value → Prop
  | bot (v : Value) : RV P c .bot v
  | lit (v : Value) : flat v = true → RV P c (.lit v) v
  | agg (cs : List PV) (vs : Array Value) : cs.length = vs.size → (∀ (i : Nat) p u, cs[i]? = some p → vs[i]? = some u → RV P c p u) → RV P c (.agg cs) (.agg vs)
  | tup (cs : List PV) (vs : Array Value) : cs.length = vs.size → (∀ (i : Nat) p u, cs[i]? = some p → vs[i]? = some u → RV P c p u) → RV P c (.tup cs) (.tuple vs)
  | rdNil (n : Nat) (full fr : Bool) (A : Option Addr) (cap : Nat) : n ≤ cap → (full = true → cap = n) → RV P c (.rd [] n full fr) (.slice A n cap)
  | rdRow (cs : List PV) (n : Nat) (full fr : Bool) (ad : Addr) (cap : Nat) : n ≤ cap → (full = true → cap = n) → ¬ c.owned ad.block → (fr = true → c.base ≤ ad.block) →
      (∀ i, i < cs.length → (c.w.cell? (ad.add i)).isSome = true) → (∀ (i : Nat) p u, cs[i]? = some p → c.w.cell? (ad.add i) = some u → RV P c p u) → RV P c (.rd cs n full fr) (.slice (some ad) n cap)
  | rpNil (off : Nat) (fr : Bool) (a : Addr) : RV P c (.rp [] off fr) (.pointer (some a))
  | rp (cs : List PV) (off : Nat) (fr : Bool) (ad : Addr) : ¬ c.owned ad.block → (fr = true → c.base ≤ ad.block) →
      (∀ i, i < cs.length → (c.w.cell? (ad.add i)).isSome = true) → (∀ (i : Nat) p u, cs[i]? = some p → c.w.cell? (ad.add i) = some u → RV P c p u) → RV P c (.rp cs off fr) (.pointer (some (ad.add off)))
  | sl (b ver off n : Nat) (A : Option Addr) (cap : Nat) : b < c.H.length → (∀ k, c.live b k → ver ≤ k.ver) → n ≤ cap → (∀ k, c.live b k → k.ver = ver → SlRel P c k b off n A cap) → RV P c (.sl b ver off n) (.slice A n cap)
  | ptr (b ver off : Nat) (a : Option Addr) : b < c.H.length → (∀ k, c.live b k → ver ≤ k.ver) → (∀ k, c.live b k → k.ver = ver → ∃ g sz, c.σ b = some (g, sz) ∧ a = some ⟨g, off, none⟩) → RV P c (.ptr b ver off) (.pointer a)
  | fn (f : FuncId) (cs : List PV) (vs : Array Value) : cs.length = vs.size → (∀ (i : Nat) p u, cs[i]? = some p → vs[i]? = some u → RV P c p u) → RV P c (.fn f cs) (.func (.func f) #[] vs)

/-- The heap is as it says. -/
structure HR (P : Program) (c : Cx) : Prop where
  cells : ∀ b k, c.live b k → (c.σ b = none ∧ k.cs = []) ∨ ∃ g sz arr, c.σ b = some (g, sz) ∧ c.w.heap[g]? = some (.cells arr k.e (0, 0)) ∧ arr.size = sz ∧ k.cs.length ≤ sz ∧ ∀ (i : Nat) p u, k.cs[i]? = some p → arr[i]? = some u → RV P c p u
  inj : ∀ b b' k k' g sz sz', c.live b k → c.live b' k' → c.σ b = some (g, sz) → c.σ b' = some (g, sz') → b = b'

/-- Time goes on. -/
structure Le (c c' : Cx) : Prop where
  len : c.H.length ≤ c'.H.length
  blk : ∀ b k', b < c.H.length → c'.live b k' → ∃ k, c.live b k ∧ k'.e = k.e ∧ k.ver ≤ k'.ver ∧ (k'.ver = k.ver → c'.σ b = c.σ b)
  keep : ∀ g, g < c.w.heap.size → ¬ c.owned g → c'.w.heap[g]? = c.w.heap[g]?
  own : ∀ b k' g sz, c'.live b k' → c'.σ b = some (g, sz) → g < c.w.heap.size → ∃ k, c.live b k ∧ c.σ b = some (g, sz)
  size : c.w.heap.size ≤ c'.w.heap.size
  os : c'.w.os = c.w.os
  tape : c'.w.tape = c.w.tape
  output : c'.w.output = c.w.output
  base : c'.base = c.base

theorem live_lt {c : Cx} {b : Nat} {k : Blk} (h : c.live b k) : b < c.H.length := (List.getElem?_eq_some_iff.1 h).1

theorem Le.refl (c : Cx) : Le c c := ⟨Nat.le_refl _, fun _ k' _ h => ⟨k', h, rfl, Nat.le_refl _, fun _ => rfl⟩, fun _ _ _ => rfl, fun _ k' _ _ h e _ => ⟨k', h, e⟩, Nat.le_refl _, rfl, rfl, rfl, rfl⟩

theorem Le.owned {c c' : Cx} (h : Le c c') {g : Nat} (hg : g < c.w.heap.size) (ho : c'.owned g) : c.owned g := by
  obtain ⟨b, k, sz, hl, hs⟩ := ho
  obtain ⟨k0, h0, s0⟩ := h.own b k g sz hl hs hg
  exact ⟨b, k0, sz, h0, s0⟩

theorem Le.trans {a b c : Cx} (h : Le a b) (h' : Le b c) : Le a c where
  len := Nat.le_trans h.len h'.len
  blk := by
    intro i k'' hi hl
    obtain ⟨k', hl', he', hv', hs'⟩ := h'.blk i k'' (Nat.lt_of_lt_of_le hi h.len) hl
    obtain ⟨k, hl0, he, hv, hs⟩ := h.blk i k' hi hl'
    exact ⟨k, hl0, he'.trans he, Nat.le_trans hv hv', fun e => by
      have e1 : k''.ver = k'.ver := by omega
      have e2 : k'.ver = k.ver := by omega
      rw [hs' e1, hs e2]⟩
  keep := by
    intro g hg ho
    rw [h'.keep g (Nat.lt_of_lt_of_le hg h.size) (fun x => ho (h.owned hg x)), h.keep g hg ho]
  own := by
    intro i k' g sz hl hs hg
    obtain ⟨k1, hl1, hs1⟩ := h'.own i k' g sz hl hs (Nat.lt_of_lt_of_le hg h.size)
    exact h.own i k1 g sz hl1 hs1 hg
  size := Nat.le_trans h.size h'.size
  os := h'.os.trans h.os
  tape := h'.tape.trans h.tape
  output := h'.output.trans h.output
  base := h'.base.trans h.base

theorem add_block (a : Addr) (n : Nat) : (a.add n).block = a.block := by unfold Addr.add; split <;> rfl
theorem add_add (a : Addr) (i j : Nat) : (a.add i).add j = a.add (i + j) := by
  unfold Addr.add
  by_cases hi : i = 0 <;> by_cases hj : j = 0 <;> simp [hi, hj, Nat.add_assoc]
theorem add_own (g off n : Nat) : (⟨g, off, none⟩ : Addr).add n = ⟨g, off + n, none⟩ := by
  unfold Addr.add
  split <;> simp_all

theorem cell_lt {w : World} {a : Addr} (h : (w.cell? a).isSome = true) : a.block < w.heap.size := by
  rcases Nat.lt_or_ge a.block w.heap.size with h' | h'
  · exact h'
  · rw [World.cell?, Array.getElem?_eq_none h'] at h
    simp at h

/-- What a value says is kept. -/
theorem RV.mono {P : Program} {c c' : Cx} {p : PV} {v : Value} (h : RV P c p v) (hle : Le c c') : RV P c' p v := by
  have row : ∀ (ad : Addr) (cs : List PV), ¬ c.owned ad.block → (∀ i, i < cs.length → (c.w.cell? (ad.add i)).isSome = true) →
      (∀ (i : Nat) p u, cs[i]? = some p → c.w.cell? (ad.add i) = some u → RV P c p u) → (∀ (i : Nat) p u, cs[i]? = some p → c.w.cell? (ad.add i) = some u → RV P c' p u) → cs ≠ [] →
      ¬ c'.owned ad.block ∧ (∀ i, i < cs.length → (c'.w.cell? (ad.add i)).isSome = true) ∧ (∀ (i : Nat) p u, cs[i]? = some p → c'.w.cell? (ad.add i) = some u → RV P c' p u) := by
    intro ad cs ho hs _ ih hne
    have hlt : ad.block < c.w.heap.size := by
      have h0 := hs 0 (by cases cs with | nil => exact absurd rfl hne | cons => simp)
      have := cell_lt h0
      rwa [add_block] at this
    have hc : ∀ i, c'.w.cell? (ad.add i) = c.w.cell? (ad.add i) := fun i => World.cell?_of_block (by rw [add_block]; exact hle.keep _ hlt ho)
    exact ⟨fun x => ho (hle.owned hlt x), fun i hi => by rw [hc]; exact hs i hi, fun i p u hp hu => ih i p u hp (by rw [← hc]; exact hu)⟩
  induction h with
  | bot v => exact .bot v
  | lit v hv => exact .lit v hv
  | agg cs vs hl _ ih => exact .agg cs vs hl ih
  | tup cs vs hl _ ih => exact .tup cs vs hl ih
  | rdNil n full fr A cap hn hf => exact .rdNil n full fr A cap hn hf
  | rdRow cs n full fr ad cap hn hf ho hb hs hc ih =>
    by_cases hne : cs = []
    · subst hne
      exact .rdNil n full fr (some ad) cap hn hf
    · obtain ⟨h1, h2, h3⟩ := row ad cs ho hs hc ih hne
      exact .rdRow cs n full fr ad cap hn hf h1 (fun e => by rw [hle.base]; exact hb e) h2 h3
  | rpNil off fr a => exact .rpNil off fr a
  | rp cs off fr ad ho hb hs hc ih =>
    by_cases hne : cs = []
    · subst hne
      exact .rpNil off fr _
    · obtain ⟨h1, h2, h3⟩ := row ad cs ho hs hc ih hne
      exact .rp cs off fr ad h1 (fun e => by rw [hle.base]; exact hb e) h2 h3
  | sl b ver off n A cap hb hv hn hr =>
    refine .sl b ver off n A cap (Nat.lt_of_lt_of_le hb hle.len) (fun k' hl => ?_) hn (fun k' hl e => ?_)
    · obtain ⟨k, hl0, _, hv0, _⟩ := hle.blk b k' hb hl
      exact Nat.le_trans (hv k hl0) hv0
    · obtain ⟨k, hl0, he, hv0, hs⟩ := hle.blk b k' hb hl
      have e1 : k.ver = ver := by have := hv k hl0; omega
      have hσ := hs (by omega)
      have := hr k hl0 e1
      unfold SlRel at this ⊢
      rw [hσ, he]
      exact this
  | ptr b ver off a hb hv hr =>
    refine .ptr b ver off a (Nat.lt_of_lt_of_le hb hle.len) (fun k' hl => ?_) (fun k' hl e => ?_)
    · obtain ⟨k, hl0, _, hv0, _⟩ := hle.blk b k' hb hl
      exact Nat.le_trans (hv k hl0) hv0
    · obtain ⟨k, hl0, he, hv0, hs⟩ := hle.blk b k' hb hl
      have e1 : k.ver = ver := by have := hv k hl0; omega
      rw [hs (by omega)]
      exact hr k hl0 e1
  | fn f cs vs hl _ ih => exact .fn f cs vs hl ih

end Go.Proofs.Ytjleanfcjipofaa.Eng
