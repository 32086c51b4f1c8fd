/- The engine, part D: each operation does what its abstract run says: numbers, addresses, loads, stores, composites. No condition. -/
import Derived.Test.YtjleanfcjipofaaEngC
import Derived.Laws.CopyRow
set_option linter.all false
namespace Go.Proofs.Ytjleanfcjipofaa.Eng
open Go Go.RowKit

variable {P : Program}

/-- What an operation has left. -/
def Yields (P : Program) (c : Cx) (H' : Hp) (p : PV) (r : Result Next) : Prop :=
  ∃ v c', (r = .ok (.value v) c'.w ∨ (r = .ok .skip c'.w ∧ v = undef)) ∧ c'.H = H' ∧ Le c c' ∧ HR P c' ∧ RV P c' p v

theorem Yields.pure {c : Cx} {p : PV} {v : Value} {r : Result Next} (hr : HR P c) (h : r = .ok (.value v) c.w) (hv : RV P c p v) : Yields P c c.H p r :=
  ⟨v, c, .inl h, rfl, Le.refl c, hr, hv⟩

theorem app_none (H : Hp) (v : PV) : H.app ⟨v, [], []⟩ = H := by simp [Hp.app, Hp.upds]
theorem app_new (H : Hp) (v : PV) (k : Blk) : H.app ⟨v, [], [k]⟩ = H ++ [some k] := by simp [Hp.app, Hp.upds]
theorem app_upd (H : Hp) (v : PV) (b : Nat) (k : Blk) : H.app ⟨v, [(b, k)], []⟩ = H.set b (some k) := by simp [Hp.app, Hp.upds]

theorem ti_some {t : TypeId} {j : TI} (h : ti P t = some j) : P.underlying t = some j.d ∧ ∃ i, P.info? t = some i ∧ i.size = j.size ∧ i.bytes = j.bytes ∧ i.zero = some j.zero := by
  unfold ti at h
  split at h
  · rename_i d i hd hi
    split at h
    · rename_i z hz
      injection h with h
      subst h
      exact ⟨hd, i, hi, rfl, rfl, hz⟩
    · cases h
  · cases h

theorem RV.litInv {c : Cx} {x : Value} {v : Value} (h : RV P c (.lit x) v) : v = x ∧ flat x = true := by
  cases h with
  | lit _ hf => exact ⟨rfl, hf⟩

theorem RV_ofCell (c : Cx) (v : Value) : RV P c (ofCell v) v := by
  unfold ofCell
  split
  · exact .rdNil 0 true true none 0 (Nat.le_refl _) (fun _ => rfl)
  · split
    · rename_i h; exact .lit _ h
    · exact .bot _

theorem RV_ofConst (c : Cx) (v : Value) : RV P c (ofConst v) v := by
  unfold ofConst
  split
  · rename_i cs
    refine .agg _ _ (by simp) (fun i p u hp hu => ?_)
    rw [List.getElem?_map] at hp
    rw [← Array.getElem?_toList] at hu
    rw [hu] at hp
    simp at hp
    subst hp
    exact RV_ofCell c u
  · exact RV_ofCell c _

/-- The cells of a constant. -/
theorem cells_ofConst (c : Cx) (v : Value) : (cellsOf (ofConst v)).length = v.cells.size ∧ ∀ (i : Nat) q u, (cellsOf (ofConst v))[i]? = some q → v.cells[i]? = some u → RV P c q u := by
  have key : ∀ (v : Value), v.cells = #[v] → ofConst v = ofCell v → cellsOf (ofCell v) = [ofCell v] → (cellsOf (ofConst v)).length = v.cells.size ∧ ∀ (i : Nat) q u, (cellsOf (ofConst v))[i]? = some q → v.cells[i]? = some u → RV P c q u := by
    intro v h1 h2 h3
    rw [h1, h2, h3]
    refine ⟨rfl, fun i q u hq hu => ?_⟩
    cases i with
    | zero => simp at hq hu; subst hq; subst hu; exact RV_ofCell c v
    | succ i => simp at hq
  have cell : ∀ v, cellsOf (ofCell v) = [ofCell v] := by
    intro v
    unfold ofCell
    split
    · rfl
    · split <;> rfl
  cases v with
  | agg cs =>
    refine ⟨by simp [ofConst, cellsOf, Value.cells], fun i q u hq hu => ?_⟩
    simp only [ofConst, cellsOf, List.getElem?_map] at hq
    simp only [Value.cells] at hu
    rw [← Array.getElem?_toList] at hu
    rw [hu] at hq
    simp at hq
    subst hq
    exact RV_ofCell c u
  | _ => exact key _ rfl rfl (cell _)

theorem peval_rv {c : Cx} {A : List PV} {a : Act} (hA : A.length = a.tmps.size) (h : ∀ (i : Nat) p u, A[i]? = some p → a.tmps[i]? = some u → RV P c p u) (x : Operand) : RV P c (peval A x) (a.eval x) := by
  cases x with
  | tmp t =>
    simp only [peval, Act.eval, Array.getD_eq_getD_getElem?]
    rcases Nat.lt_or_ge t A.length with ht | ht
    · have h1 : A[t]? = some A[t] := List.getElem?_eq_getElem ht
      have h2 : a.tmps[t]? = some a.tmps[t] := Array.getElem?_eq_getElem (by omega)
      rw [h1, h2]
      exact h t _ _ h1 h2
    · rw [List.getElem?_eq_none ht]
      exact .bot _
  | const v => exact RV_ofConst c v
  | global g => exact .bot _
  | func f => exact .fn f [] #[] rfl (fun i p u hp => by simp at hp)

/-! ### Allocation -/
theorem alloc_yields {c : Cx} (hr : HR P c) (e : TypeId) (arr : Array Value) (cs : List PV) (hl : cs.length = arr.size) (hcs : ∀ (i : Nat) p u, cs[i]? = some p → arr[i]? = some u → RV P c p u) {r : Result Next}
    (h : r = .ok (.value (.pointer (some ⟨c.w.heap.size, 0, none⟩))) (c.w.alloc (.cells arr e))) : Yields P c (c.H.app ⟨.ptr c.H.length 0 0, [], [⟨e, 0, cs⟩]⟩) (.ptr c.H.length 0 0) r := by
  obtain ⟨h1, h2⟩ := made_block hr ⟨e, 0, cs⟩ (c.w.alloc (.cells arr e)) c.w.heap.size arr (Nat.le_refl _) (heap_alloc_new _ _) (fun i hi => Below.heap_alloc _ _ _ hi) (by simp) rfl rfl rfl (by simp [hl]) hcs
  refine ⟨_, _, .inl h, ?_, h1, h2, ?_⟩
  · rw [app_new]; rfl
  · refine .ptr _ _ _ _ (by simp [Cx.made]) (fun k hk => ?_) (fun k hk _ => ⟨c.w.heap.size, arr.size, setσ_same _ _ _, rfl⟩)
    exact Nat.zero_le _

theorem size_cells_eq {v : Value} {p : PV} {c : Cx} (h : RV P c p v) (hv : isVal p = true) : v.cells.toList.length = (cellsOf p).length := by
  rw [Array.length_toList]; exact (h.cells hv).1

/-! ### Loads -/
theorem blkAt_some {H : Hp} {b ver : Nat} {k : Blk} (h : blkAt H b ver = some k) : H[b]? = some (some k) ∧ k.ver = ver := by
  unfold blkAt at h
  split at h
  · rename_i k' hk
    split at h
    · rename_i hv
      injection h with h
      subst h
      exact ⟨hk, hv⟩
    · cases h
  · cases h

/-- What the cells of a place say gives what is loaded there. -/
theorem load_at {c : Cx} {t : TypeId} {i : TI} (hi : ti P t = some i) {cs : List PV} {off : Nat} {p : PV} (hp : takeCells i cs off = some p) (a : Addr)
    (hc : ∀ j q, cs[off + j]? = some q → ∃ u, c.w.cell? (a.add j) = some u ∧ RV P c q u) :
    ∃ v, (loadVar t a).run P c.w = .ok v c.w ∧ RV P c p v := by
  obtain ⟨hd, i', hi', hsz, _, _⟩ := ti_some hi
  unfold takeCells at hp
  by_cases hagg : isAggD i.d = true
  · rw [if_pos hagg] at hp
    split at hp
    · rename_i hle
      injection hp with hp
      subst hp
      let f : Nat → Value := fun j => (c.w.cell? (a.add j)).getD undef
      have hf : ∀ j, j < i.size → c.w.cell? (a.add j) = some (f j) := by
        intro j hj
        obtain ⟨u, hu, _⟩ := hc j (cs[off + j]'(by omega)) (List.getElem?_eq_getElem (by omega))
        simp [f, hu]
      have hrun := run_loadCells (P := P) (w := c.w) a i.size f hf
      have his : (isAgg t).run P c.w = .ok true c.w := by
        unfold isAgg
        simp only [Sem.run_bind, run_underlying hd, Result.andThen_ok]
        cases hd' : i.d <;> rw [hd'] at hagg <;> simp [isAggD] at hagg <;> rfl
      refine ⟨.agg (((List.range i.size).map f).toArray), ?_, ?_⟩
      · simp only [loadVar, Sem.run_bind, his, Result.andThen_ok, if_true, sizeOf, typeInfo, program, hi', Sem.run_pure]
        simp only [Sem.run, Result.andThen_ok, hi', hsz, hrun, Sem.run_pure]
      · refine .agg _ _ (by simp; omega) (fun j q u hq hu => ?_)
        rw [List.getElem?_take] at hq
        split at hq
        · rename_i hj
          rw [List.getElem?_drop] at hq
          obtain ⟨u', hu', hrv⟩ := hc j q hq
          have := hf j hj
          rw [hu'] at this
          injection this with this
          have hu2 : u = f j := by
            have : ((List.range i.size).map f).toArray[j]? = some (f j) := by simp [hj]
            rw [this] at hu
            injection hu with hu
            exact hu.symm
          rw [hu2, ← this]
          exact hrv
        · cases hq
    · cases hp
  · rw [if_neg hagg] at hp
    have hp' : cs[off + 0]? = some p := by simpa using hp
    obtain ⟨u, hu, hrv⟩ := hc 0 p hp'
    have his : (isAgg t).run P c.w = .ok false c.w := by
      unfold isAgg
      simp only [Sem.run_bind, run_underlying hd, Result.andThen_ok]
      cases hd' : i.d <;> rw [hd'] at hagg <;> simp [isAggD] at hagg <;> rfl
    rw [Addr.add_zero'] at hu
    refine ⟨u, ?_, hrv⟩
    simp only [loadVar, Sem.run_bind, his, Result.andThen_ok]
    simp [hu]

end Go.Proofs.Ytjleanfcjipofaa.Eng
