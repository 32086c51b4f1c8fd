/- The engine, part H: conversions, composites, make. No condition. -/
import Derived.Test.YtjleanfcjipofaaEngG
import Derived.Lib.ConvBytes
import Derived.Laws.BytesString
import Derived.Laws.Tables
set_option linter.all false
namespace Go.Proofs.Ytjleanfcjipofaa.Eng
open Go Go.RowKit

variable {P : Program}

/-- One part is laid at its place. -/
theorem foldl_over (off : Nat) : ∀ (l : List Value) (k : Nat) (cells : Array Value), off + k + l.length ≤ cells.size →
    ((l.zipIdx k).foldl (fun cs (p : Value × Nat) => cs.setIfInBounds (off + p.2) p.1) cells).toList = over cells.toList (off + k) l
  | [], k, cells, h => by simp [over]
  | a :: r, k, cells, h => by
    simp only [List.length_cons] at h
    simp only [List.zipIdx_cons, List.foldl_cons]
    rw [foldl_over off r (k + 1) _ (by simp; omega)]
    apply List.ext_getElem?
    intro i
    rw [over_get _ _ _ (by simp; omega), over_get _ _ _ (by simp; omega)]
    simp only [Array.toList_setIfInBounds, List.getElem?_set, List.length_cons]
    have e0 : off + (k + 1) = off + k + 1 := by omega
    rw [e0]
    by_cases h1 : i < off + k
    · rw [if_pos h1, if_pos (by omega), if_neg (by omega)]
    · rw [if_neg h1]
      by_cases h2 : i = off + k
      · subst h2
        rw [if_pos (by omega), if_pos rfl, if_pos (by simp; omega), if_pos (by omega), Nat.sub_self]
        rfl
      · rw [if_neg (by omega)]
        by_cases h3 : i < off + k + 1 + r.length
        · rw [if_pos h3, if_pos (by omega)]
          have : i - (off + k) = (i - (off + k + 1)) + 1 := by omega
          rw [this, List.getElem?_cons_succ]
        · rw [if_neg h3, if_neg (Ne.symm h2), if_neg (by omega)]

theorem fill_sound {c : Cx} (place : Nat → Option (Nat × Nat)) : ∀ (parts : List (Nat × PV)) (vals : List (Nat × Value)) (cs cs' : List PV) (arr : Array Value),
    vals.length = parts.length → (∀ (i : Nat) p v, parts[i]? = some p → vals[i]? = some v → p.1 = v.1 ∧ RV P c p.2 v.2) → cs.length = arr.size → (∀ (i : Nat) p u, cs[i]? = some p → arr[i]? = some u → RV P c p u) →
    fillP place cs parts = some cs' → ∃ arr', Instr.fill place arr vals = some arr' ∧ cs'.length = arr'.size ∧ ∀ (i : Nat) p u, cs'[i]? = some p → arr'[i]? = some u → RV P c p u
  | [], vals, cs, cs', arr, hl, hv, hs, hc, h => by
    obtain rfl := List.eq_nil_of_length_eq_zero hl
    simp [fillP] at h
    subst h
    exact ⟨arr, rfl, hs, hc⟩
  | (i, x) :: r, [], cs, cs', arr, hl, _, _, _, _ => by simp at hl
  | (i, x) :: r, (j, v) :: vals, cs, cs', arr, hl, hv, hs, hc, h => by
    obtain ⟨e, hxv⟩ := hv 0 (i, x) (j, v) rfl rfl
    simp only at e hxv
    subst e
    simp only [fillP] at h
    obtain ⟨pl, hpl, h⟩ := Option.bind_eq_some_iff.1 h
    split at h
    · rename_i hcond
      obtain ⟨hval, hsz, hfit⟩ := hcond
      obtain ⟨h1, h2⟩ := hxv.cells hval
      have hol : (v.cells.zipIdx.foldl (fun cs (p : Value × Nat) => cs.setIfInBounds (pl.1 + p.2) p.1) arr).toList = over arr.toList pl.1 v.cells.toList := by
        rw [← Array.foldl_toList, Array.toList_zipIdx]
        have := foldl_over pl.1 v.cells.toList 0 arr (by simp; omega)
        simpa using this
      have hlen : (over arr.toList pl.1 v.cells.toList).length = arr.size := by rw [over_length _ _ _ (by simp; omega)]; simp
      obtain ⟨arr', ha, hb⟩ := fill_sound (c := c) place r vals (over cs pl.1 (cellsOf x)) cs' (v.cells.zipIdx.foldl (fun cs (p : Value × Nat) => cs.setIfInBounds (pl.1 + p.2) p.1) arr) (by simpa using hl)
        (fun i p v hp hv' => hv (i + 1) p v hp hv') (by rw [← Array.length_toList, hol, hlen, over_length _ _ _ (by omega)]; exact hs) (fun i p u hp hu => by
          rw [← Array.getElem?_toList, hol, over_get _ _ _ (by simp; omega)] at hu
          rw [over_get _ _ _ (by omega)] at hp
          rw [Array.length_toList, h1] at hu
          split at hp
          · rename_i hlt; rw [if_pos hlt] at hu; exact hc i p u hp (by simpa using hu)
          · rename_i hlt
            rw [if_neg hlt] at hu
            split at hp
            · rename_i hlt2; rw [if_pos hlt2] at hu; exact h2 _ p u hp (by simpa using hu)
            · rename_i hlt2; rw [if_neg hlt2] at hu; exact hc i p u hp (by simpa using hu)) h
      refine ⟨arr', ?_, hb⟩
      simp only [Instr.fill]
      rw [hpl]
      obtain ⟨o, sz⟩ := pl
      simp only at hsz hfit ha ⊢
      rw [if_neg (by simp; omega)]
      exact ha
    · cases h

theorem build_sound {c : Cx} {t : TypeId} {j : TI} {l : List (Nat × Nat)} {parts : List (Nat × PV)} {vals : Array (Nat × Value)} {cs : List PV} (hj : ti P t = some j) (hl : placesOf P t = some l)
    (hlen : vals.toList.length = parts.length) (hv : ∀ (i : Nat) p v, parts[i]? = some p → vals.toList[i]? = some v → p.1 = v.1 ∧ RV P c p.2 v.2) (h : fillP (fun i => l[i]?) (cellsOf (ofConst j.zero)) parts = some cs) :
    ∃ v, (Instr.build t vals).run P c.w = .ok v c.w ∧ RV P c (.agg cs) v := by
  obtain ⟨hd, i, hi, hsz, hby, hz⟩ := ti_some hj
  obtain ⟨z1, z2⟩ := cells_ofConst (P := P) c j.zero
  obtain ⟨arr, ha, hb, hc⟩ := fill_sound (c := c) (fun i => l[i]?) parts vals.toList _ cs j.zero.cells hlen hv z1 z2 h
  refine ⟨.agg arr, run_build c.w t vals arr ?_, .agg _ _ hb hc⟩
  unfold placesOf at hl
  split at hl
  · rename_i fs hfs
    unfold Program.built
    simp only [hi, hfs, hz, hl]
    rw [← ha]
    congr 1
    funext x
    simp
  · cases hl

theorem rep_get {α : Type} (zs : List α) : ∀ (n i : Nat), ((List.replicate n zs).flatten)[i]? = if i < n * zs.length then zs[i % zs.length]? else none
  | 0, i => by simp
  | n + 1, i => by
    rw [List.replicate_succ, List.flatten_cons]
    rcases Nat.lt_or_ge i zs.length with h | h
    · rw [List.getElem?_append_left h, if_pos (by rw [Nat.succ_mul]; omega), Nat.mod_eq_of_lt h]
    · rw [List.getElem?_append_right h, rep_get zs n (i - zs.length), Nat.succ_mul]
      by_cases h2 : i - zs.length < n * zs.length
      · rw [if_pos h2, if_pos (by omega), ← Nat.mod_eq_sub_mod h]
      · rw [if_neg h2, if_neg (by omega)]

/-- The cells of so many zero elements. -/
theorem zeros_rv {c : Cx} (z : Value) (n size : Nat) (hs : (cellsOf (ofConst z)).length = size) (hpos : 0 < size) (zero : Array Value) (hz : 0 < n * size → zero = z.cells) :
    ((List.replicate n (cellsOf (ofConst z))).flatten).length = ((Array.range (n * size)).map (zero[· % zero.size]!)).size ∧
    ∀ (i : Nat) p u, ((List.replicate n (cellsOf (ofConst z))).flatten)[i]? = some p → ((Array.range (n * size)).map (zero[· % zero.size]!))[i]? = some u → RV P c p u := by
  obtain ⟨z1, z2⟩ := cells_ofConst (P := P) c z
  refine ⟨by simp [hs], fun i p u hp hu => ?_⟩
  rw [rep_get, hs] at hp
  split at hp
  · rename_i hlt
    have hz' := hz (by omega)
    subst hz'
    have e : z.cells.size = size := by omega
    rw [e] at hu
    have hm : i % size < z.cells.size := by rw [e]; exact Nat.mod_lt _ hpos
    simp [hlt] at hu
    rw [getElem!_pos z.cells (i % size) hm] at hu
    exact z2 (i % size) p u hp (by rw [Array.getElem?_eq_getElem hm, hu])
  · cases hp

/-- A row of the call's own that nobody writes. -/
theorem fresh_rd {c : Cx} (hr : HR P c) (hb : c.base ≤ c.w.heap.size) (e : TypeId) (arr : Array Value) (cs : List PV) (n : Nat) (full : Bool) (hl : cs.length = arr.size) (hcs : ∀ (i : Nat) p u, cs[i]? = some p → arr[i]? = some u → RV P c p u) :
    ∃ c', c'.w = c.w.alloc (.cells arr e) ∧ c'.H = c.H ∧ Le c c' ∧ HR P c' ∧ RV P c' (.rd cs n full true) (.slice (some ⟨c.w.heap.size, 0, none⟩) n n) := by
  obtain ⟨h1, h2⟩ := world_on hr (c.w.alloc (.cells arr e)) (fun i hi => Below.heap_alloc _ _ _ hi) (by simp) rfl rfl rfl
  refine ⟨{ c with w := c.w.alloc (.cells arr e) }, rfl, rfl, h1, h2, ?_⟩
  have hcell : ∀ i, (c.w.alloc (.cells arr e)).cell? ((⟨c.w.heap.size, 0, none⟩ : Addr).add i) = arr[i]? := by
    intro i
    rw [add_own, Nat.zero_add]
    have := heap_alloc_new c.w (.cells arr e)
    simp only [World.cell?, this]
    rfl
  refine .rdRow _ _ _ _ _ _ (Nat.le_refl _) (fun _ => rfl) ?_ (fun _ => hb) (fun i hi => ?_) (fun i p u hp hu => ?_)
  · rintro ⟨b, k, sz, hk, hs⟩
    exact absurd (hr.lt (b := b) hk hs) (by simp)
  · simp only [hcell]
    rw [Array.getElem?_eq_getElem (by omega)]
    rfl
  · simp only [hcell] at hu
    exact (hcs i p u hp hu).mono h1

end Go.Proofs.Ytjleanfcjipofaa.Eng
