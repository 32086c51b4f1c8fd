/- The engine, part K: every operation that is no call of a function does what its abstract run says. No condition. -/
import Derived.Test.YtjleanfcjipofaaEngJ
set_option linter.all false
namespace Go.Proofs.Ytjleanfcjipofaa.Eng
open Go Go.RowKit

variable {P : Program}

theorem RV.ptrShape {c : Cx} {b ver off : Nat} {v : Value} (h : RV P c (.ptr b ver off) v) : ∃ a, v = .pointer a := by cases h; exact ⟨_, rfl⟩
theorem RV.rpShape {c : Cx} {cs : List PV} {off : Nat} {fr : Bool} {v : Value} (h : RV P c (.rp cs off fr) v) : ∃ a, v = .pointer (some a) ∧ ∀ q, RV P c (.rp cs (off + q) fr) (.pointer (some (a.add q))) := by
  cases h with
  | rpNil _ _ a => exact ⟨a, rfl, fun q => .rpNil _ _ _⟩
  | rp _ _ _ ad h1 h2 h3 h4 => exact ⟨_, rfl, fun q => by rw [add_add]; exact .rp _ _ _ ad h1 h2 h3 h4⟩
theorem RV.fnShape {c : Cx} {f : FuncId} {cs : List PV} {v : Value} (h : RV P c (.fn f cs) v) : ∃ vs, v = .func (.func f) #[] vs ∧ cs.length = vs.size ∧ ∀ (i : Nat) p u, cs[i]? = some p → vs[i]? = some u → RV P c p u := by
  cases h with
  | fn _ _ vs h1 h2 => exact ⟨vs, rfl, h1, h2⟩
theorem RV.tupShape {c : Cx} {cs : List PV} {v : Value} (h : RV P c (.tup cs) v) : ∃ vs, v = .tuple vs ∧ cs.length = vs.size ∧ ∀ (i : Nat) p u, cs[i]? = some p → vs[i]? = some u → RV P c p u := by
  cases h with
  | tup _ vs h1 h2 => exact ⟨vs, rfl, h1, h2⟩

theorem one_some {q : Option PV} {r : Res} (h : one q = some r) : ∃ v, q = some v ∧ r = ⟨v, [], []⟩ := by
  unfold one at h
  obtain ⟨v, hv, he⟩ := Option.map_eq_some_iff.1 h
  exact ⟨v, hv, he.symm⟩

/-- The value of an operation that leaves the world alone. -/
theorem Yields.one {c : Cx} (hr : HR P c) {q : Option PV} {r : Res} (h : one q = some r) {s : Result Next} (hs : ∀ v, q = some v → ∃ u, s = .ok (.value u) c.w ∧ RV P c v u) : Yields P c (c.H.app r) r.v s := by
  obtain ⟨v, hv, rfl⟩ := one_some h
  obtain ⟨u, h1, h2⟩ := hs v hv
  rw [app_none]
  exact Yields.pure hr h1 h2

theorem Yields.of {c : Cx} {H' : Hp} {p : PV} {s : Sem Value} (h : ∃ v c', s.run P c.w = .ok v c'.w ∧ c'.H = H' ∧ Le c c' ∧ HR P c' ∧ RV P c' p v) : Yields P c H' p (Sem.run P (s >>= fun v => (Pure.pure (Next.value v) : Sem Next)) c.w) := by
  obtain ⟨v, c', h1, h2⟩ := h
  exact ⟨v, c', .inl (by simp [h1]), h2⟩

theorem RV.list {c : Cx} {ρ : Operand → PV} {ρ' : Operand → Value} (hρ : ∀ x, RV P c (ρ x) (ρ' x)) (xs : Array Operand) :
    (xs.toList.map ρ).length = (xs.map ρ').size ∧ ∀ (i : Nat) p u, (xs.toList.map ρ)[i]? = some p → (xs.map ρ')[i]? = some u → RV P c p u := by
  refine ⟨by simp, fun i p u hp hu => ?_⟩
  rw [List.getElem?_map] at hp
  rw [Array.getElem?_map] at hu
  obtain ⟨x, hx, rfl⟩ := Option.map_eq_some_iff.1 hp
  obtain ⟨y, hy, rfl⟩ := Option.map_eq_some_iff.1 hu
  rw [Array.getElem?_toList, hy] at hx
  injection hx with hx
  subst hx
  exact hρ _

theorem parts_rv {c : Cx} {ρ : Operand → PV} {ρ' : Operand → Value} (hρ : ∀ x, RV P c (ρ x) (ρ' x)) (parts : Array (Nat × Operand)) :
    (parts.map fun (q : Nat × Operand) => (q.1, ρ' q.2)).toList.length = (parts.toList.map fun q => (q.1, ρ q.2)).length ∧
    ∀ (i : Nat) p v, (parts.toList.map fun q => (q.1, ρ q.2))[i]? = some p → (parts.map fun (q : Nat × Operand) => (q.1, ρ' q.2)).toList[i]? = some v → p.1 = v.1 ∧ RV P c p.2 v.2 := by
  refine ⟨by simp, fun i p v hp hv => ?_⟩
  rw [List.getElem?_map] at hp
  rw [Array.toList_map, List.getElem?_map] at hv
  obtain ⟨x, hx, rfl⟩ := Option.map_eq_some_iff.1 hp
  obtain ⟨y, hy, rfl⟩ := Option.map_eq_some_iff.1 hv
  rw [hy] at hx
  injection hx with hx
  subst hx
  exact ⟨rfl, hρ _⟩

theorem lenS_run {c : Cx} {p : PV} {v : Value} {n : Nat} (hv : RV P c p v) (h : lenS p = some n) : ∃ A cap, v = .slice A n cap := by
  cases p with
  | rd cs n0 full fr =>
    simp [lenS] at h
    subst h
    cases hv <;> exact ⟨_, _, rfl⟩
  | sl b ver off n0 =>
    simp [lenS] at h
    subst h
    cases hv; exact ⟨_, _, rfl⟩
  | _ => simp [lenS] at h
theorem lenT_run {c : Cx} {p : PV} {v : Value} {n : Nat} (hv : RV P c p v) (h : lenT p = some n) : ∃ s : ByteArray, p = .lit (.string s) ∧ v = .string s ∧ n = s.size := by
  cases p with
  | lit x =>
    cases x <;> simp [lenT] at h
    rename_i s
    exact ⟨s, rfl, hv.litInv.1, h.symm⟩
  | _ => simp [lenT] at h

theorem sliceOf_len {c : Cx} {p : PV} {cs : List PV} {n : Nat} (h : sliceOf P c.H p = some (cs, n)) : lenS p = some n := by
  cases p with
  | rd cs0 n0 full fr => simp [sliceOf] at h; simp [lenS, h.2]
  | sl b ver off n0 =>
    simp only [sliceOf] at h
    rw [Option.bind_eq_some_iff] at h; obtain ⟨k, hk, h⟩ := h
    rw [Option.bind_eq_some_iff] at h; obtain ⟨j, hj, h⟩ := h
    split at h
    · injection h with h; injection h with h1 h2; simp [lenS, h2]
    · cases h
  | _ => simp [sliceOf] at h

theorem builtinP_sound {c : Cx} (hr : HR P c) {b : Builtin} {ts : Array TypeId} {ty : TypeId} {consts : Array Bool} {xs : List PV} {vs : Array Value} {r : Res} (hl : xs.length = vs.size) (hv : ∀ (i : Nat) p u, xs[i]? = some p → vs[i]? = some u → RV P c p u)
    (h : builtinP P c.H b ts xs = some r) : Yields P c (c.H.app r) r.v ((builtin b ts ty consts vs).run P c.w) := by
  have two : ∀ x y, xs = [x, y] → ∃ u v, vs = #[u, v] ∧ RV P c x u ∧ RV P c y v := by
    intro x y e
    subst e
    obtain ⟨l⟩ := vs
    match l, hl with
    | [u, v], _ => exact ⟨u, v, rfl, hv 0 x u rfl rfl, hv 1 y v rfl rfl⟩
  unfold builtinP at h
  split at h
  · rename_i x
    obtain ⟨u, rfl, hx⟩ : ∃ u, vs = #[u] ∧ RV P c x u := by
      obtain ⟨l⟩ := vs
      match l, hl with
      | [u], _ => exact ⟨u, rfl, hv 0 x u rfl rfl⟩
    cases ht : ts[0]? with
    | none => simp [ht] at h
    | some t =>
      have go : ∀ n : Nat, r = ⟨.lit (.int .i64 (n : Int)), [], []⟩ → (Builtin.len_ ts ty #[u]).run P c.w = .ok (.int .i64 n) c.w → Yields P c (c.H.app r) r.v ((builtin .len ts ty consts #[u]).run P c.w) := by
        intro n hr' hrun
        subst hr'
        rw [app_none]
        exact Yields.pure hr (by simp [builtin, hrun]) (.lit _ rfl)
      cases hu : P.underlying t with
      | none => simp [ht, hu] at h
      | some d =>
        cases d <;> simp only [ht, hu, Option.bind_some] at h <;> first | (cases h; done) | skip
        · obtain ⟨n, hn, rfl⟩ := Option.map_eq_some_iff.1 h
          obtain ⟨s, rfl, rfl, rfl⟩ := lenT_run hx hn
          exact go _ rfl (by simp [Builtin.len_, ht, run_underlying hu, goInt])
        · obtain ⟨n, hn, rfl⟩ := Option.map_eq_some_iff.1 h
          obtain ⟨A, cap, rfl⟩ := lenS_run hx hn
          exact go _ rfl (by simp [Builtin.len_, ht, run_underlying hu, goInt])
  · rename_i s x
    obtain ⟨u, v, rfl, hs, hx⟩ := two s x rfl
    cases ht : ts[0]? with
    | none => simp [ht] at h
    | some t =>
      cases hu0 : ts[1]? with
      | none => simp [ht, hu0] at h
      | some q =>
        simp only [ht, hu0] at h
        have fin : ∀ (new : List PV) (m : Nat) (du : TypeDesc), P.underlying q = some du → (∀ k, du ≠ .int k) → (Builtin.lenOf v).run P c.w = .ok m c.w →
            (∀ (w : World) (sz : Nat), w.heap = c.w.heap → new.length = m * sz → 0 < sz → ∃ arr, (Builtin.firstCells sz m v).run P w = .ok arr w ∧ new.length = arr.size ∧ ∀ (i : Nat) p v, new[i]? = some p → arr[i]? = some v → RV P c p v) →
            appendP P c.H t s new m = some r → Yields P c (c.H.app r) r.v ((builtin .append ts ty consts #[u, v]).run P c.w) := by
          intro new m du hdu hno hlen hcells happ
          obtain ⟨res, c', hrun, hrest⟩ := append_sound (ty := ty) hr hdu hno hs hlen hcells happ
          have e : (Builtin.append_ ts ty #[u, v]).run P c.w = (Builtin.append_ #[t, q] ty #[u, v]).run P c.w := by
            unfold Builtin.append_
            simp only [ht, hu0]
            rfl
          refine ⟨res, c', .inl ?_, hrest⟩
          simp [builtin, e, hrun]
        cases hu : P.underlying q with
        | none => simp [hu] at h
        | some d =>
          cases d with
          | slice e =>
            simp only [hu] at h
            rw [Option.bind_eq_some_iff] at h; obtain ⟨⟨cs, n⟩, hc, h⟩ := h
            obtain ⟨A, cap, rfl, hcap, hread⟩ := sliceOf_reads hr hx hc
            refine fin cs n _ hu (fun k e => by cases e) rfl (fun w sz hw hl' _ => ?_) h
            exact firstCells_of (P := P) hread n sz n cap hl' w hw
          | string =>
            simp only [hu] at h
            cases x with
            | lit y =>
              cases y <;> simp only at h <;> first | (cases h; done) | skip
              rename_i y
              rw [hx.litInv.1] at fin ⊢
              have hsz : y.data.toList.length = y.size := by rw [Array.length_toList]; rfl
              refine fin _ _ _ hu (fun k e => by cases e) rfl (fun w sz hw hl' hp => ⟨((y.extract 0 y.size).data.map fun b => .int .u8 b.toNat), rfl, ?_, fun i p v hp hv => ?_⟩) h
              · simp [ByteArray.extract_zero_size]
              · have e0 : y.extract 0 y.size = y := ByteArray.extract_zero_size
                rw [e0, Array.getElem?_map] at hv
                rw [List.getElem?_map, Array.getElem?_toList] at hp
                obtain ⟨b, hb, rfl⟩ := Option.map_eq_some_iff.1 hp
                rw [hb] at hv
                simp at hv
                subst hv
                exact .lit _ rfl
            | _ => simp at h
          | _ => simp [hu] at h
  · rename_i x y
    obtain ⟨u, v, rfl, hx, hy⟩ := two x y rfl
    obtain ⟨q, hq, rfl⟩ := Option.map_eq_some_iff.1 h
    unfold minP at hq
    split at hq
    · split at hq
      · rename_i k a k' b hk
        subst hk
        injection hq with hq
        subst hq
        rw [hx.litInv.1, hy.litInv.1, app_none]
        exact Yields.pure hr (by simp [builtin, Builtin.min_, Builtin.min2]) (.lit _ rfl)
      · cases hq
    · cases hq
  · rename_i x y
    obtain ⟨u, v, rfl, hx, hy⟩ := two x y rfl
    obtain ⟨q, hq, rfl⟩ := Option.map_eq_some_iff.1 h
    unfold maxP at hq
    split at hq
    · split at hq
      · rename_i k a k' b hk
        subst hk
        injection hq with hq
        subst hq
        rw [hx.litInv.1, hy.litInv.1, app_none]
        exact Yields.pure hr (by simp [builtin, Builtin.max_, Builtin.max2]) (.lit _ rfl)
      · cases hq
    · cases hq
  · cases h

theorem aop_sound {c : Cx} (hr : HR P c) (hb : c.base ≤ c.w.heap.size) (o : Oper) {ρ : Operand → PV} {ρ' : Operand → Value} (hρ : ∀ x, RV P c (ρ x) (ρ' x)) {r : Res} (h : aop P o.op ρ c.H = some r) :
    Yields P c (c.H.app r) r.v ((execOp ρ' o).run P c.w) := by
  obtain ⟨dst, op, type, pos, after, guard⟩ := o
  simp only at h
  cases op <;> simp only [aop] at h <;> simp only [execOp]
  case move x => exact Yields.one hr h (fun v hv => by injection hv with hv; subst hv; exact ⟨_, rfl, hρ x⟩)
  case assign x => exact Yields.one hr h (fun v hv => by injection hv with hv; subst hv; exact ⟨_, rfl, hρ x⟩)
  case pick q a b =>
    split at h
    · rename_i t ht
      refine Yields.one hr h (fun v hv => ?_)
      injection hv with hv
      subst hv
      have := hρ q
      rw [ht] at this
      refine ⟨if t then ρ' a else ρ' b, ?_, ?_⟩
      · simp [this.litInv.1, asBool]
      · cases t
        · exact hρ b
        · exact hρ a
    · cases h
  case alloc e =>
    obtain ⟨i, hi, rfl⟩ := Option.map_eq_some_iff.1 h
    obtain ⟨hd, j, hj, hsz, hby, hz⟩ := ti_some hi
    obtain ⟨z1, z2⟩ := cells_ofConst (P := P) c i.zero
    refine alloc_yields hr e i.zero.cells _ z1 z2 ?_
    simp [Instr.alloc, zeroValue, typeInfo, hj, hz, newVar, newRow]
  case box e x =>
    split at h
    case isFalse => cases h
    case isTrue hval =>
    injection h with h
    subst h
    obtain ⟨z1, z2⟩ := (hρ x).cells hval
    refine alloc_yields hr e (ρ' x).cells _ z1.symm z2 ?_
    simp [Instr.box, newVar, newRow]
  case build t parts =>
    rw [Option.bind_eq_some_iff] at h; obtain ⟨i, hi, h⟩ := h
    rw [Option.bind_eq_some_iff] at h; obtain ⟨l, hl, h⟩ := h
    rw [Option.bind_eq_some_iff] at h; obtain ⟨cs, hcs, h⟩ := h
    obtain ⟨h1, h2⟩ := parts_rv hρ parts
    obtain ⟨v, hv1, hv2⟩ := build_sound hi hl h1 h2 hcs
    refine Yields.one hr h (fun u hu => ?_)
    injection hu with hu
    subst hu
    exact ⟨v, by simp only [Sem.run_bind, hv1, Result.andThen_ok, Sem.run_pure], hv2⟩
  case buildSlice t len parts =>
    obtain ⟨e, ht⟩ : ∃ e, P.underlying t = some (.slice e) := by
      cases hq : P.underlying t with
      | none => simp [hq] at h
      | some d => cases d <;> simp [hq] at h <;> exact ⟨_, rfl⟩
    simp only [ht] at h
    rw [Option.bind_eq_some_iff] at h; obtain ⟨j, hj, h⟩ := h
    split at h
    case isFalse => cases h
    case isTrue hc =>
    rw [Option.bind_eq_some_iff] at h; obtain ⟨cs, hcs, h⟩ := h
    obtain ⟨v, hv, rfl⟩ := one_some h
    injection hv with hv
    subst hv
    obtain ⟨h1, h2⟩ := parts_rv hρ parts
    rw [app_none]
    exact Yields.of (buildSlice_sound hr hb ht hj hc.1 hc.2.1 hc.2.2 h1 h2 hcs)
  case load t a =>
    refine Yields.one hr h (fun v hv => ?_)
    obtain ⟨u, h1, h2⟩ := load_sound hr (hρ a) hv
    exact ⟨u, by simp only [Sem.run_bind, h1, Result.andThen_ok, Sem.run_pure], h2⟩
  case store t a x =>
    obtain ⟨u, hu, rfl⟩ := Option.map_eq_some_iff.1 h
    obtain ⟨c', h1, h2, h3, h4⟩ := store_sound hr (hρ a) (hρ x) hu
    obtain ⟨b, k⟩ := u
    rw [app_upd]
    exact ⟨undef, c', .inr ⟨by simp only [Sem.run_bind, h1, Result.andThen_ok, Sem.run_pure], rfl⟩, h2, h3, h4, .tup [] #[] rfl (fun i p u hp => by simp at hp)⟩
  case nilCheck x =>
    have hx := hρ x
    split at h
    · rename_i b ver off e
      rw [e] at hx
      rw [Option.bind_eq_some_iff] at h; obtain ⟨k, hk, h⟩ := h
      obtain ⟨a, ha⟩ := hx.ptrShape
      rw [ha] at hx ⊢
      obtain ⟨g, arr, _, rfl, _⟩ := live_block hr hk hx
      refine Yields.one hr h (fun v hv => ?_)
      injection hv with hv
      subst hv
      exact ⟨_, rfl, hx⟩
    · rename_i cs off fr e
      rw [e] at hx
      refine Yields.one hr h (fun v hv => ?_)
      injection hv with hv
      subst hv
      obtain ⟨a, ha, _⟩ := hx.rpShape
      rw [ha] at hx ⊢
      exact ⟨_, rfl, hx⟩
    · rename_i f caps e
      rw [e] at hx
      refine Yields.one hr h (fun v hv => ?_)
      injection hv with hv
      subst hv
      obtain ⟨vs, ha, _⟩ := hx.fnShape
      rw [ha] at hx ⊢
      exact ⟨_, rfl, hx⟩
    · cases h
  case binOp op t x y yt =>
    refine Yields.one hr h (fun v hv => ?_)
    obtain ⟨u, h1, h2⟩ := binP_sound (x := x) (y := y) (hρ x) (hρ y) hv
    refine ⟨u, ?_, h2⟩
    simp only [Sem.run_bind] at h1 ⊢
    rw [h1]
    rfl
  case unOp op t x =>
    refine Yields.one hr h (fun v hv => ?_)
    obtain ⟨u, h1, h2⟩ := unP_sound (hρ x) hv
    exact ⟨u, by simp only [Sem.run_bind, h1, Result.andThen_ok, Sem.run_pure], h2⟩
  case convert src dst x =>
    obtain ⟨v, hv, rfl⟩ := one_some h
    rw [app_none]
    exact Yields.of (convP_sound hr hb (hρ x) hv)
  case makeFunc fn first caps =>
    cases fn <;> simp only at h <;> first | (cases h; done) | skip
    rename_i f
    split at h
    case isFalse => cases h
    case isTrue hf =>
    refine Yields.one hr h (fun v hv => ?_)
    injection hv with hv
    subst hv
    have e : first = #[] := by simpa using hf
    subst e
    obtain ⟨h1, h2⟩ := RV.list hρ caps
    exact ⟨.func (.func f) #[] (caps.map ρ'), by simp [Instr.makeFunc], .fn _ _ _ h1 h2⟩
  case makeSlice t l q =>
    exact Yields.of (makeSlice_sound hr (hρ l) (hρ q) h)
  case slice t x lo hi mx =>
    cases mx with
    | some m => cases h
    | none =>
    refine Yields.one hr h (fun v hv => ?_)
    obtain ⟨u, h1, h2⟩ := sliceP_sound (lo' := lo.map ρ') (hi' := hi.map ρ') (hρ x) (fun p hp => by
      obtain ⟨y, hy, rfl⟩ := Option.map_eq_some_iff.1 hp
      exact ⟨ρ' y, by simp [hy], hρ y⟩) (fun hn => by simpa using hn) (fun p hp => by
      obtain ⟨y, hy, rfl⟩ := Option.map_eq_some_iff.1 hp
      exact ⟨ρ' y, by simp [hy], hρ y⟩) (fun hn => by simpa using hn) hv
    exact ⟨u, by simp only [Option.map_none, Sem.run_bind, h1, Result.andThen_ok, Sem.run_pure], h2⟩
  case fieldAddr s x f =>
    rw [Option.bind_eq_some_iff] at h; obtain ⟨q, hq, h⟩ := h
    split at h
    case isTrue => cases h
    case isFalse hq0 =>
    have hx := hρ x
    split at h
    · rename_i b ver off e
      rw [e] at hx
      rw [Option.bind_eq_some_iff] at h; obtain ⟨k, hk, h⟩ := h
      obtain ⟨a, ha⟩ := hx.ptrShape
      rw [ha] at hx ⊢
      obtain ⟨g, arr, hs, rfl, _⟩ := live_block hr hk hx
      refine Yields.one hr h (fun v hv => ?_)
      injection hv with hv
      subst hv
      have hrun := fieldAddr_run hq hq0 c.w ⟨g, off, none⟩
      rw [add_own] at hrun
      refine ⟨.pointer (some ⟨g, off + q.1, none⟩), by simp only [Sem.run_bind, hrun, Result.andThen_ok, Sem.run_pure], ?_⟩
      cases hx with
      | ptr _ _ _ _ h1 h2 h3 =>
        exact .ptr _ _ _ _ h1 h2 (fun k' hl' hv' => by
          obtain ⟨g', sz', h5, h6⟩ := h3 k' hl' hv'
          rw [hs] at h5
          injection h5 with h5
          exact ⟨g, arr.size, hs, rfl⟩)
    · rename_i cs off fr e
      rw [e] at hx
      refine Yields.one hr h (fun v hv => ?_)
      injection hv with hv
      subst hv
      obtain ⟨a, ha, hq2⟩ := hx.rpShape
      rw [ha]
      have hrun := fieldAddr_run hq hq0 c.w a
      exact ⟨.pointer (some (a.add q.1)), by simp only [Sem.run_bind, hrun, Result.andThen_ok, Sem.run_pure], hq2 q.1⟩
    · cases h
  case indexAddr t x ix =>
    refine Yields.one hr h (fun v hv => ?_)
    obtain ⟨u, h1, h2⟩ := indexAddr_sound (hρ x) (hρ ix) hv
    exact ⟨u, by simp only [Sem.run_bind, h1, Result.andThen_ok, Sem.run_pure], h2⟩
  case index t x ix =>
    refine Yields.one hr h (fun v hv => ?_)
    obtain ⟨u, h1, h2⟩ := indexP_sound (hρ x) (hρ ix) hv
    exact ⟨u, by simp only [Sem.run_bind, h1, Result.andThen_ok, Sem.run_pure], h2⟩
  case extract x i =>
    have hx := hρ x
    split at h
    · rename_i vs e
      rw [e] at hx
      refine Yields.one hr h (fun v hv => ?_)
      obtain ⟨us, ha, h1, h2⟩ := hx.tupShape
      rw [ha]
      have hlt := (List.getElem?_eq_some_iff.1 hv).1
      have e1 : us[i]? = some (us[i]'(by omega)) := Array.getElem?_eq_getElem _
      exact ⟨us[i]'(by omega), by simp [Instr.extract, e1], h2 i v _ hv e1⟩
    · cases h
  case call q =>
    obtain ⟨callee, args, argTypes⟩ := q
    cases callee <;> simp only at h <;> first | (cases h; done) | skip
    rename_i b
    obtain ⟨h1, h2⟩ := RV.list hρ args
    simp only [resolve, Sem.run_bind, Sem.run_pure, Result.andThen_ok, invoke]
    exact builtinP_sound hr h1 h2 h
  all_goals (cases h; done)

end Go.Proofs.Ytjleanfcjipofaa.Eng
