/- The engine, part G: unary operations, conversions, elements of strings, slices of slices and strings. No condition. -/
import Derived.Test.YtjleanfcjipofaaEngF
set_option linter.all false
namespace Go.Proofs.Ytjleanfcjipofaa.Eng
open Go Go.RowKit

variable {P : Program}

theorem unP_sound {c : Cx} {op : UnOp} {p q : PV} {v : Value} (hv : RV P c p v) (h : unP op p = some q) : ∃ u, (Op.unary op v).run P c.w = .ok u c.w ∧ RV P c q u := by
  unfold unP at h
  split at h
  · rw [hv.litInv.1]
    split at h
    · injection h with h; subst h; exact ⟨_, rfl, .lit _ rfl⟩
    · cases h
  · rw [hv.litInv.1]
    split at h
    · injection h with h; subst h; exact ⟨_, rfl, .lit _ rfl⟩
    · injection h with h; subst h; exact ⟨_, rfl, .lit _ rfl⟩
    · cases h
  · cases h

theorem indexP_sound {c : Cx} {t : TypeId} {x ix q : PV} {v y : Value} (hv : RV P c x v) (hy : RV P c ix y) (h : indexP P t x ix = some q) : ∃ u, (Instr.index t v y).run P c.w = .ok u c.w ∧ RV P c q u := by
  unfold indexP at h
  split at h
  · rename_i s k i ht
    rw [hv.litInv.1, hy.litInv.1]
    split at h
    · rename_i h0
      obtain ⟨b, hb, rfl⟩ := Option.map_eq_some_iff.1 h
      refine ⟨.int .u8 b.toNat, ?_, .lit _ rfl⟩
      simp [Instr.index, asIntOf, run_underlying ht, h0, hb]
    · cases h
  · cases h

theorem bound_run {c : Cx} {x : Option PV} {y : Option Value} {d l : Int} (hxy : ∀ p, x = some p → ∃ v, y = some v ∧ RV P c p v) (hn : x = none → y = none) (h : bound x d = some l) : (y = none ∧ l = d) ∨ ∃ k, y = some (.int k l) := by
  unfold bound at h
  split at h
  · injection h with h
    exact .inl ⟨hn rfl, h.symm⟩
  · rename_i p
    obtain ⟨v, hv, hr⟩ := hxy p rfl
    obtain ⟨k, rfl⟩ := idx_some hr h
    exact .inr ⟨k, hv⟩

/-- The bounds of a cut. -/
theorem bounds_run (isSlice : Bool) (n cap : Nat) {lo hi : Option Value} {l h : Int} (hl : (lo = none ∧ l = 0) ∨ ∃ k, lo = some (.int k l)) (hh : (hi = none ∧ h = n) ∨ ∃ k, hi = some (.int k h)) (h0 : 0 ≤ l) (h1 : l ≤ h) (h2 : h ≤ n) (h3 : n ≤ cap) (w : World) :
    (Instr.sliceBounds isSlice n cap lo hi none).run P w = .ok (l.toNat, h.toNat, cap) w := by
  have e1 : (h.toNat : Int) = h := Int.toNat_of_nonneg (by omega)
  have b1 : ∀ (k : IntKind) (code : BoundsCode), (Instr.sliceBound (.int k h) cap code).run P w = .ok h.toNat w := by
    intro k code
    have : 0 ≤ h ∧ h ≤ (cap : Int) := by omega
    simp [Instr.sliceBound, asIntOf, this]
  have b2 : ∀ (k : IntKind) (code : BoundsCode), (Instr.sliceBound (.int k l) h.toNat code).run P w = .ok l.toNat w := by
    intro k code
    have hc : 0 ≤ l ∧ l ≤ (h.toNat : Int) := by omega
    simp only [Instr.sliceBound, asIntOf, Sem.run_bind, Sem.run_pure, Result.andThen_ok]
    rw [if_pos hc]
    rfl
  rcases hl with ⟨rfl, rfl⟩ | ⟨k, rfl⟩ <;> rcases hh with ⟨rfl, rfl⟩ | ⟨k', rfl⟩
  · simp [Instr.sliceBounds]
  · simp [Instr.sliceBounds, b1]
  · have := b2 k
    simp only [Int.toNat_natCast] at this
    simp [Instr.sliceBounds, this]
  · simp [Instr.sliceBounds, b1, b2]

theorem lenP_slice {c : Cx} {p : PV} {A : Option Addr} {m cap n : Nat} (h : RV P c p (.slice A m cap)) (hn : lenP p = some n) : n = m ∧ n ≤ cap := by
  cases h with
  | rdNil => simp [lenP] at hn; subst hn; exact ⟨rfl, by assumption⟩
  | rdRow => simp [lenP] at hn; subst hn; exact ⟨rfl, by assumption⟩
  | sl => simp [lenP] at hn; subst hn; exact ⟨rfl, by assumption⟩
  | bot => simp [lenP] at hn
  | lit _ hf => simp [flat] at hf

theorem sliceP_sound {c : Cx} {t : TypeId} {x q : PV} {v : Value} {lo hi : Option PV} {lo' hi' : Option Value} (hv : RV P c x v) (hlo : ∀ p, lo = some p → ∃ v, lo' = some v ∧ RV P c p v) (hlo0 : lo = none → lo' = none)
    (hhi : ∀ p, hi = some p → ∃ v, hi' = some v ∧ RV P c p v) (hhi0 : hi = none → hi' = none) (h : sliceP P c.H t x lo hi = some q) :
    ∃ u, (Instr.sliceAt t v lo' hi' none).run P c.w = .ok u c.w ∧ RV P c q u := by
  unfold sliceP at h
  obtain ⟨n, hn, h⟩ := Option.bind_eq_some_iff.1 h
  obtain ⟨l, hl, h⟩ := Option.bind_eq_some_iff.1 h
  obtain ⟨m, hm, h⟩ := Option.bind_eq_some_iff.1 h
  have bl := bound_run hlo hlo0 hl
  have bh := bound_run hhi hhi0 hm
  split at h
  · rename_i hb
    obtain ⟨h0, h1, h2⟩ := hb
    cases x with
    | lit v0 =>
      dsimp only at h
      cases v0 with
      | string s =>
        cases ht : P.underlying t with
        | none => simp [ht] at h
        | some d =>
          cases d with
          | string =>
            simp only [ht] at h
            injection h with h
            subst h
            rw [hv.litInv.1]
            simp [lenP] at hn
            subst hn
            refine ⟨_, ?_, .lit _ rfl⟩
            have := bounds_run (P := P) false s.size s.size bl bh h0 h1 h2 (Nat.le_refl _) c.w
            simp [Instr.sliceAt, Instr.slice, run_underlying ht, this]
          | _ => simp [ht] at h
      | _ => simp at h
    | rd cs n' full fr =>
      dsimp only at h
      obtain ⟨e, ht⟩ : ∃ e, P.underlying t = some (.slice e) := by
        cases hu : P.underlying t with
        | none => simp [hu] at h
        | some d => cases d <;> simp [hu] at h <;> exact ⟨_, rfl⟩
      simp only [ht] at h
      · skip
        obtain ⟨j, hj, h⟩ := Option.map_eq_some_iff.1 h
        subst h
        simp [lenP] at hn
        subst hn
        have run : ∀ (A : Option Addr) (cap : Nat), n' ≤ cap → (Instr.sliceAt t (.slice A n' cap) lo' hi' none).run P c.w = .ok (.slice (if cap = l.toNat then A else A.map (·.add (l.toNat * j.size))) (m.toNat - l.toNat) (cap - l.toNat)) c.w := by
          intro A cap hc
          have := bounds_run (P := P) true n' cap bl bh h0 h1 h2 hc c.w
          simp [Instr.sliceAt, Instr.slice, run_underlying ht, this, sizeOf, typeInfo, hj]
        cases hv with
        | rdNil _ _ _ A cap hc hf =>
          refine ⟨_, run A cap hc, ?_⟩
          simp only [List.take_nil, List.drop_nil]
          exact .rdNil _ _ _ _ _ (by omega) (fun e => by cases e)
        | rdRow _ _ _ _ ad cap hc hf ho hbs hs hcs =>
          refine ⟨_, run (some ad) cap hc, ?_⟩
          by_cases hcap : cap = l.toNat
          · rw [if_pos hcap]
            have e1 : m.toNat = l.toNat := by omega
            have e2 : (cs.take (m.toNat * j.size)).drop (l.toNat * j.size) = [] := by
              rw [e1]
              exact List.drop_eq_nil_of_le (by rw [List.length_take]; omega)
            rw [e2]
            exact .rdNil _ _ _ _ _ (by omega) (fun e => by cases e)
          · rw [if_neg hcap]
            refine .rdRow _ _ _ _ (ad.add (l.toNat * j.size)) _ (by omega) (fun e => by cases e) (by rw [add_block]; exact ho) (by rw [add_block]; exact hbs) (fun i hi => ?_) (fun i p u hp hu => ?_)
            · rw [add_add]
              refine hs _ ?_
              simp only [List.length_drop, List.length_take] at hi
              omega
            · rw [add_add] at hu
              rw [List.getElem?_drop, List.getElem?_take] at hp
              split at hp
              · exact hcs _ p u hp hu
              · cases hp
    | sl b ver off n' =>
      dsimp only at h
      obtain ⟨e, ht⟩ : ∃ e, P.underlying t = some (.slice e) := by
        cases hu : P.underlying t with
        | none => simp [hu] at h
        | some d => cases d <;> simp [hu] at h <;> exact ⟨_, rfl⟩
      simp only [ht] at h
      · skip
        obtain ⟨j, hj, h⟩ := Option.bind_eq_some_iff.1 h
        obtain ⟨k, hk, h⟩ := Option.bind_eq_some_iff.1 h
        split at h
        · rename_i he
          injection h with h
          subst h
          simp [lenP] at hn
          subst hn
          obtain ⟨hlive, hver⟩ := blkAt_some hk
          cases hv with
          | sl _ _ _ _ A cap g1 g2 g3 g4 =>
            have run : (Instr.sliceAt t (.slice A n' cap) lo' hi' none).run P c.w = .ok (.slice (if cap = l.toNat then A else A.map (·.add (l.toNat * j.size))) (m.toNat - l.toNat) (cap - l.toNat)) c.w := by
              have := bounds_run (P := P) true n' cap bl bh h0 h1 h2 g3 c.w
              simp [Instr.sliceAt, Instr.slice, run_underlying ht, this, sizeOf, typeInfo, hj]
            refine ⟨_, run, .sl _ _ _ _ _ _ g1 g2 (by omega) (fun k' hl' hv' => ?_)⟩
            have ek : k' = k := by
              have h7 : c.H[b]? = some (some k') := hl'
              rw [hlive] at h7
              injection h7 with h7
              injection h7 with h7
              exact h7.symm
            subst ek
            rcases g4 k' hl' hv' with ⟨g, sz, hs, h5 | h5⟩ | ⟨hs, h5, h6⟩
            · obtain ⟨rfl, hcap⟩ := h5
              refine .inl ⟨g, sz, hs, ?_⟩
              by_cases hc : cap = l.toNat
              · refine .inr ⟨by omega, by omega, fun e0 => ?_⟩
                have := hcap j (by rw [he]; exact hj)
                rw [← this, hc]
                exact e0
              · refine .inl ⟨?_, fun i hi => ?_⟩
                · rw [if_neg hc]
                  simp [add_own]
                · rw [he, hj] at hi
                  injection hi with hi
                  subst hi
                  have := hcap j (by rw [he]; exact hj)
                  rw [← this, Nat.add_assoc, ← Nat.add_mul]
                  congr 2
                  omega
            · exact .inl ⟨g, sz, hs, .inr ⟨by omega, by omega, fun e0 => h5.2.2 (by omega)⟩⟩
            · exact .inr ⟨hs, by omega, by omega⟩
        · cases h
    | _ => cases h
  · cases h

/-- What a slice holds, read. -/
theorem sliceOf_reads {c : Cx} (hr : HR P c) {p : PV} {v : Value} {cs : List PV} {n : Nat} (hv : RV P c p v) (h : sliceOf P c.H p = some (cs, n)) :
    ∃ A cap, v = .slice A n cap ∧ n ≤ cap ∧ (cs ≠ [] → ∃ ad, A = some ad ∧ ∀ (i : Nat) q, cs[i]? = some q → ∃ u, c.w.cell? (ad.add i) = some u ∧ RV P c q u) := by
  cases p with
  | rd cs0 n0 full fr =>
    simp only [sliceOf] at h
    injection h with h
    injection h with h1 h2
    subst h1; subst h2
    cases hv with
    | rdNil _ _ _ A cap hc hf => exact ⟨A, cap, rfl, hc, fun e => absurd rfl e⟩
    | rdRow _ _ _ _ ad cap hc hf ho hbs hs hcs =>
      refine ⟨some ad, cap, rfl, hc, fun _ => ⟨ad, rfl, fun i q hq => ?_⟩⟩
      obtain ⟨u, hu⟩ := Option.isSome_iff_exists.1 (hs i (List.getElem?_eq_some_iff.1 hq).1)
      exact ⟨u, hu, hcs i q u hq hu⟩
  | sl b ver off n' =>
    simp only [sliceOf] at h
    obtain ⟨k, hk, h⟩ := Option.bind_eq_some_iff.1 h
    obtain ⟨j, hj, h⟩ := Option.bind_eq_some_iff.1 h
    split at h
    · rename_i hle
      injection h with h
      injection h with h1 h2
      subst h1; subst h2
      obtain ⟨hlive, hver⟩ := blkAt_some hk
      cases hv with
      | sl _ _ _ _ A cap g1 g2 g3 g4 =>
        refine ⟨A, cap, rfl, g3, fun hne => ?_⟩
        have hpos : 0 < n' := by
          rcases Nat.eq_zero_or_pos n' with h0 | h0
          · subst h0; simp at hne
          · exact h0
        rcases g4 k hlive hver with ⟨g, sz, hs, h5 | h5⟩ | ⟨hs, h5, h6⟩
        · obtain ⟨rfl, _⟩ := h5
          rcases hr.cells b k hlive with ⟨h1, _⟩ | ⟨g', sz', arr, h1, h2, h4, h5, h6⟩
          · rw [hs] at h1; cases h1
          · rw [hs] at h1
            injection h1 with h1
            injection h1 with h1 h1'
            subst h1
            refine ⟨_, rfl, fun i q hq => ?_⟩
            rw [List.getElem?_take] at hq
            split at hq
            · rw [List.getElem?_drop] at hq
              have hlt := (List.getElem?_eq_some_iff.1 hq).1
              have e1 : arr[off + i]? = some (arr[off + i]'(by omega)) := Array.getElem?_eq_getElem _
              refine ⟨_, ?_, h6 _ q _ hq e1⟩
              rw [add_own]
              simp [World.cell?, h2]
            · cases hq
        · omega
        · omega
    · cases h
  | _ => simp [sliceOf] at h

end Go.Proofs.Ytjleanfcjipofaa.Eng
