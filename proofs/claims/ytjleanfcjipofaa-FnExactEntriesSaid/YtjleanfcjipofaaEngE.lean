/- The engine, part E: loads, stores, composites, addresses. No condition. -/
import Derived.Test.YtjleanfcjipofaaEngD
set_option linter.all false
namespace Go.Proofs.Ytjleanfcjipofaa.Eng
open Go Go.RowKit

variable {P : Program}

theorem over_get {α : Type} (cs : List α) (off : Nat) (new : List α) (h : off + new.length ≤ cs.length) (i : Nat) :
    (over cs off new)[i]? = if i < off then cs[i]? else if i < off + new.length then new[i - off]? else cs[i]? := by
  unfold over
  have h1 : (cs.take off).length = off := by rw [List.length_take]; omega
  split
  · rename_i hi
    rw [List.append_assoc, List.getElem?_append_left (by omega), List.getElem?_take, if_pos hi]
  · rename_i hi
    split
    · rename_i hi2
      rw [List.append_assoc, List.getElem?_append_right (by omega), h1, List.getElem?_append_left (by omega)]
    · rename_i hi2
      rw [List.getElem?_append_right (by rw [List.length_append]; omega), List.length_append, h1, List.getElem?_drop]
      congr 1
      omega
theorem over_length {α : Type} (cs : List α) (off : Nat) (new : List α) (h : off + new.length ≤ cs.length) : (over cs off new).length = cs.length := by
  unfold over
  simp only [List.length_append, List.length_take, List.length_drop]
  omega

theorem live_block {c : Cx} (hr : HR P c) {b ver off : Nat} {k : Blk} {a : Option Addr} (hb : blkAt c.H b ver = some k) (h : RV P c (.ptr b ver off) (.pointer a)) :
    ∃ g arr, c.σ b = some (g, arr.size) ∧ a = some ⟨g, off, none⟩ ∧ c.w.heap[g]? = some (.cells arr k.e (0, 0)) ∧ k.cs.length ≤ arr.size ∧ ∀ (i : Nat) p u, k.cs[i]? = some p → arr[i]? = some u → RV P c p u := by
  obtain ⟨hl, hv⟩ := blkAt_some hb
  cases h with
  | ptr _ _ _ _ _ _ h3 =>
    obtain ⟨g, sz, hs, ha⟩ := h3 k hl hv
    rcases hr.cells b k hl with ⟨h1, _⟩ | ⟨g', sz', arr, h1, h2, h4, h5, h6⟩
    · rw [hs] at h1; cases h1
    · rw [hs] at h1
      injection h1 with h1
      injection h1 with h1 h1'
      subst h1
      subst h1'
      subst h4
      exact ⟨g, arr, hs, ha, h2, h5, h6⟩

theorem load_sound {c : Cx} (hr : HR P c) {t : TypeId} {p q : PV} {v : Value} (hv : RV P c p v) (h : loadP P c.H t p = some q) : ∃ u, (Instr.loadAt t v).run P c.w = .ok u c.w ∧ RV P c q u := by
  unfold loadP at h
  split at h
  · rename_i b ver off
    obtain ⟨i, hi, h⟩ := Option.bind_eq_some_iff.1 h
    obtain ⟨k, hk, h⟩ := Option.bind_eq_some_iff.1 h
    obtain ⟨a, rfl⟩ : ∃ a, v = .pointer a := by cases hv; exact ⟨_, rfl⟩
    obtain ⟨g, arr, hs, rfl, hg, hl, hc⟩ := live_block hr hk hv
    obtain ⟨u, h1, h2⟩ := load_at hi h ⟨g, off, none⟩ (fun j q hq => by
      have hlt := (List.getElem?_eq_some_iff.1 hq).1
      have h1 : arr[off + j]? = some arr[off + j] := Array.getElem?_eq_getElem (by omega)
      refine ⟨arr[off + j], ?_, hc _ _ _ hq h1⟩
      rw [add_own]
      simp [World.cell?, hg, h1])
    exact ⟨u, by simp only [Instr.loadAt, Instr.sureAddr, Sem.run_bind, Sem.run_pure, Result.andThen_ok, h1], h2⟩
  · rename_i cs off fr
    obtain ⟨i, hi, h⟩ := Option.bind_eq_some_iff.1 h
    cases hv with
    | rpNil _ _ a =>
      obtain ⟨u, h1, h2⟩ := load_at hi h a (fun j q hq => by simp at hq)
      exact ⟨u, by simp only [Instr.loadAt, Instr.sureAddr, Sem.run_bind, Sem.run_pure, Result.andThen_ok, h1], h2⟩
    | rp _ _ _ ad _ _ hs hc =>
      obtain ⟨u, h1, h2⟩ := load_at hi h (ad.add off) (fun j q hq => by
        have hlt := (List.getElem?_eq_some_iff.1 hq).1
        have := hs (off + j) hlt
        obtain ⟨u, hu⟩ := Option.isSome_iff_exists.1 this
        exact ⟨u, by rw [add_add]; exact hu, hc _ _ _ hq hu⟩)
      exact ⟨u, by simp only [Instr.loadAt, Instr.sureAddr, Sem.run_bind, Sem.run_pure, Result.andThen_ok, h1], h2⟩
  · cases h

theorem store_sound {c : Cx} (hr : HR P c) {t : TypeId} {p x : PV} {v y : Value} {u : Nat × Blk} (hv : RV P c p v) (hx : RV P c x y) (h : storeP P c.H t x p = some u) :
    ∃ c', (Instr.storeAt t v y).run P c.w = .ok () c'.w ∧ c'.H = c.H.set u.1 (some u.2) ∧ Le c c' ∧ HR P c' := by
  unfold storeP at h
  split at h
  · rename_i b ver off
    obtain ⟨i, hi, h⟩ := Option.bind_eq_some_iff.1 h
    obtain ⟨k, hk, h⟩ := Option.bind_eq_some_iff.1 h
    split at h
    · rename_i hcond
      obtain ⟨hlen, hall, hfit⟩ := hcond
      injection h with h
      subst h
      obtain ⟨a, rfl⟩ : ∃ a, v = .pointer a := by cases hv; exact ⟨_, rfl⟩
      obtain ⟨g, arr, hs, rfl, hg, hl, hc⟩ := live_block hr hk hv
      obtain ⟨hlive, hver⟩ := blkAt_some hk
      have hval : isVal x = true := by
        cases x <;> simp [cellsOf, isCell] at hall <;> rfl
      obtain ⟨hsz, hcells⟩ := hx.cells hval
      obtain ⟨hd, i', hi', hsize, _, _⟩ := ti_some hi
      have hone : ∀ u ∈ y.cells.toList, u.oneCell' = true := by
        intro u hu
        obtain ⟨j, hj, rfl⟩ := List.getElem_of_mem hu
        have hj' : j < (cellsOf x).length := by rw [← hsz]; simpa using hj
        have h1 := hcells j (cellsOf x)[j] y.cells[j] (List.getElem?_eq_getElem hj') (by rw [Array.getElem?_eq_getElem])
        have h2 := h1.oneCell (List.all_eq_true.1 hall _ (List.getElem_mem hj'))
        simpa using h2
      have hst := run_storeCells_at P g off k.e y.cells.toList 0 arr c.w hg (by rw [Array.length_toList]; omega) hone
      rw [Nat.add_zero] at hst
      have hrun : (Instr.storeAt t (.pointer (some ⟨g, off, none⟩)) y).run P c.w = .ok () (c.w.setRow g (over arr.toList off y.cells.toList).toArray) := by
        have hne : ¬ (y.cells.size ≠ i.size) := by omega
        simp only [Instr.storeAt, Instr.sureAddr, storeVar, Sem.run_bind, Sem.run_pure, Result.andThen_ok, sizeOf, typeInfo, program]
        simp only [Sem.run, Result.andThen_ok, hi', hsize, Sem.run_pure]
        rw [if_neg hne]
        exact hst
      have hol : (over arr.toList off y.cells.toList).length = arr.size := by rw [over_length _ _ _ (by simp; omega)]; simp
      obtain ⟨h1, h2⟩ := turned_block hr b k { k with cs := over k.cs off (cellsOf x) } (c.σ b) (c.w.setRow g (over arr.toList off y.cells.toList).toArray) hlive rfl (Nat.le_refl _) (fun _ => rfl) (fun g' sz' h _ => h)
        (fun g' hg' hne => setRow_other _ _ _ _ (fun e => by subst e; exact hne _ hs)) (by simp) rfl rfl rfl
        (.inr ⟨g, arr.size, (over arr.toList off y.cells.toList).toArray, hs, setRow_heap _ _ _ _ _ _ hg, by simpa using hol, by show (over k.cs off (cellsOf x)).length ≤ _; rw [over_length _ _ _ (by omega)]; exact hl, fun j q u hq hu => by
          change (over k.cs off (cellsOf x))[j]? = some q at hq
          rw [over_get _ _ _ (by omega)] at hq
          have hu' : (over arr.toList off y.cells.toList)[j]? = some u := by simpa using hu
          rw [over_get _ _ _ (by simp; omega)] at hu'
          rw [Array.length_toList, hsz] at hu'
          split at hq
          · rename_i hlt; rw [if_pos hlt] at hu'; exact hc j q u hq (by simpa using hu')
          · rename_i hlt
            rw [if_neg hlt] at hu'
            split at hq
            · rename_i hlt2; rw [if_pos hlt2] at hu'; exact hcells _ q u hq (by simpa using hu')
            · rename_i hlt2; rw [if_neg hlt2] at hu'; exact hc j q u hq (by simpa using hu')⟩)
      exact ⟨_, hrun, rfl, h1, h2⟩
    · cases h
  · cases h

/-! ### Addresses -/
theorem fieldOf_some {s f : Nat} {q : Nat × Nat} (h : fieldOf P s f = some q) : ∃ fs fd i, P.underlying s = some (.struct fs) ∧ fs[f]? = some fd ∧ P.info? fd.type = some i ∧ q = (fd.offset, i.size) := by
  unfold fieldOf placesOf at h
  obtain ⟨l, hl, h⟩ := Option.bind_eq_some_iff.1 h
  split at hl
  · rename_i fs hfs
    have hlen := mapM_some_length hl
    have hlt := (List.getElem?_eq_some_iff.1 h).1
    have e1 : fs.toList[f]? = some (fs.toList[f]'(by omega)) := List.getElem?_eq_getElem _
    have hg := mapM_some_get hl f _ e1
    rw [h] at hg
    obtain ⟨i, hi, he⟩ := Option.map_eq_some_iff.1 hg
    exact ⟨fs, _, i, hfs, by rw [← Array.getElem?_toList]; exact e1, hi, he.symm⟩
  · cases hl

theorem fieldAddr_run {s f : Nat} {q : Nat × Nat} (h : fieldOf P s f = some q) (hq : q.2 ≠ 0) (w : World) (a : Addr) : (Instr.fieldAt s (.pointer (some a)) f).run P w = .ok (.pointer (some (a.add q.1))) w := by
  obtain ⟨fs, fd, i, h1, h2, h3, rfl⟩ := fieldOf_some h
  have hne : i.size ≠ 0 := hq
  simp only [Instr.fieldAt, Sem.run_bind, run_underlying h1, Result.andThen_ok, h2, Instr.sureAddr, Sem.run_pure, fieldPlace, sizeOf, typeInfo, program]
  simp only [Sem.run, Result.andThen_ok, h3, Sem.run_pure]
  rw [if_neg hne]
  simp

theorem idx_some {c : Cx} {p : PV} {v : Value} {i : Int} (hv : RV P c p v) (h : idx p = some i) : ∃ k, v = .int k i := by
  unfold idx at h
  split at h
  · injection h with h
    subst h
    obtain ⟨rfl, _⟩ := hv.litInv
    exact ⟨_, rfl⟩
  · cases h

theorem indexAddr_sound {c : Cx} {t : TypeId} {x ix q : PV} {v y : Value} (hv : RV P c x v) (hy : RV P c ix y) (h : indexAddrP P c.H t x ix = some q) : ∃ u, (Instr.indexAt t v y).run P c.w = .ok u c.w ∧ RV P c q u := by
  unfold indexAddrP at h
  obtain ⟨i, hi, h⟩ := Option.bind_eq_some_iff.1 h
  obtain ⟨kd, rfl⟩ := idx_some hy hi
  split at h
  · rename_i e ht
    obtain ⟨j, hj, h⟩ := Option.bind_eq_some_iff.1 h
    have hrun : ∀ (ad : Addr) (n cap : Nat), 0 ≤ i ∧ i < (n : Int) → (Instr.indexAt t (.slice (some ad) n cap) (.int kd i)).run P c.w = .ok (.pointer (some (ad.add (i.toNat * j.size)))) c.w := by
      intro ad n cap hb
      simp only [Instr.indexAt, asIntOf, Sem.run_bind, Sem.run_pure, Result.andThen_ok, run_underlying ht, hb, and_self, if_true, sizeOf, typeInfo, program]
      simp [Sem.run, hj, hb]
    cases x with
    | rd cs n full fr =>
      dsimp only at h
      split at h
      · rename_i hb
        injection h with h
        subst h
        cases hv with
        | rdNil => exact absurd rfl hb.2.2
        | rdRow _ _ _ _ ad cap hn hf ho hbs hs hc =>
          exact ⟨_, hrun ad n cap ⟨hb.1, hb.2.1⟩, .rp _ _ _ ad ho hbs hs hc⟩
      · cases h
    | sl b ver off n =>
      dsimp only at h
      obtain ⟨k, hk, h⟩ := Option.bind_eq_some_iff.1 h
      split at h
      · rename_i hb
        obtain ⟨he, hb⟩ := hb
        injection h with h
        subst h
        obtain ⟨hl, hver⟩ := blkAt_some hk
        cases hv with
        | sl _ _ _ _ A cap h1 h2 h3 h4 =>
          rcases h4 k hl hver with ⟨g, sz, hs, h5 | h5⟩ | ⟨hs, h5, h6⟩
          · obtain ⟨rfl, _⟩ := h5
            refine ⟨_, hrun _ n cap hb, ?_⟩
            rw [add_own]
            exact .ptr _ _ _ _ h1 h2 (fun k' hl' e' => ⟨g, sz, by
              have e1 : k' = k := by
                have h7 : c.H[b]? = some (some k') := hl'
                rw [hl] at h7
                injection h7 with h7
                injection h7 with h7
                exact h7.symm
              exact hs, rfl⟩)
          · omega
          · omega
      · cases h
    | _ => cases h
  · cases h

end Go.Proofs.Ytjleanfcjipofaa.Eng
