/- The engine, part F: numbers, texts, comparisons, conversions, slicing. No condition. -/
import Derived.Test.YtjleanfcjipofaaEngE
import Derived.Laws.StructEq
import Derived.Laws.Cover1
import Derived.Laws.Concat
set_option linter.all false
namespace Go.Proofs.Ytjleanfcjipofaa.Eng
open Go Go.RowKit

variable {P : Program}

theorem litBin_sound {op : BinOp} {t : TypeId} {x y : Operand} {a b v : Value} (h : litBin op a b = some v) (w : World) :
    (do eqGuard op t x y a b; binOp op t a b : Sem Value).run P w = .ok v w ∧ flat v = true := by
  unfold litBin at h
  split at h
  · rename_i k n _ m
    unfold shiftBin at h
    split at h
    · cases h
    · rename_i hneg
      simp at h
      subst h
      simp [eqGuard_at_int, binOp_shl, Op.shift, hneg, flat]
  · rename_i k n _ m
    unfold shiftBin at h
    split at h
    · cases h
    · rename_i hneg
      simp at h
      subst h
      simp [eqGuard_at_int, binOp_shr, Op.shift, hneg, flat]
  · rename_i k n k' m hs1 hs2
    split at h
    · rename_i hk
      subst hk
      simp only [eqGuard_at_int, Sem.run_bind, Sem.run_pure, Result.andThen_ok]
      cases op <;> simp only [intBin] at h
      case shl => cases h
      case shr => cases h
      case quo =>
        split at h
        · cases h
        · rename_i hz; simp at h; subst h; simp [binOp_quo, Op.intDiv, hz, flat]
      case rem =>
        split at h
        · cases h
        · rename_i hz; simp at h; subst h; simp [binOp_rem, Op.intDiv, hz, flat]
      all_goals (simp at h; subst h; simp [binOp_add, binOp_sub, binOp_mul, binOp_and, binOp_or, binOp_xor, binOp_andNot, binOp_eql, binOp_neq, binOp_lss, binOp_leq, binOp_gtr, binOp_geq, Op.intArith, Op.intBits, bitsOp, flat])
    · cases h
  · rename_i a b
    simp only [eqGuard_at_string, Sem.run_bind, Sem.run_pure, Result.andThen_ok]
    cases op <;> simp only [strBin] at h
    case add =>
      split at h
      · rename_i hl
        simp at h
        subst h
        refine ⟨?_, rfl⟩
        have : binOp .add t (.string a) (.string b) = Op.stringOp .add a b := by simp [binOp]
        rw [this]
        exact run_string_add_sum w a b hl
      · cases h
    all_goals first
      | (cases h; done)
      | (simp at h; subst h; refine ⟨?_, rfl⟩; simp [binOp, Op.stringOp])
  · cases h


theorem cellsEq_sound {c : Cx} (w : World) (d : Nat) : ∀ (fs : List Field) (j : Nat) (ks : List Nat) (xs ys : List PV) (vs us : Array Value) (b : Bool), plainFields P j fs = some ks →
    (∀ (i : Nat) p, xs[i]? = some p → ∃ u, vs[j + i]? = some u ∧ RV P c p u) → (∀ (i : Nat) p, ys[i]? = some p → ∃ u, us[j + i]? = some u ∧ RV P c p u) →
    cellsEq ks xs ys = some b → (Op.eqFields (d + 1) vs us fs).run P w = .ok b w
  | [], j, ks, xs, ys, vs, us, b, hp, _, _, h => by
    simp [plainFields] at hp
    subst hp
    unfold cellsEq at h
    split at h <;> simp_all [Op.eqFields]
  | f :: fs, j, ks, xs, ys, vs, us, b, hp, hx, hy, h => by
    simp only [plainFields] at hp
    split at hp
    · rename_i hc
      obtain ⟨ho, hn⟩ := hc
      have hn' : f.name ≠ "_" := by simpa using hn
      have go : ∀ (ks' : List Nat) (x y : PV) (r s : List PV), xs = x :: r → ys = y :: s → P.plainKey f.type = true → plainFields P (j + 1) fs = some ks' → ∀ (r0 r1 : Bool), cellsEq ks' r s = some r1 → b = (r0 && r1) →
          (∀ v u, RV P c x v → RV P c y u → (Op.equalIn (d + 1) f.type v u).run P w = .ok r0 w) → (Op.eqFields (d + 1) vs us (f :: fs)).run P w = .ok b w := by
        intro ks' x y r s e1 e2 hplain hpf r0 r1 hr hb heq
        subst e1; subst e2
        obtain ⟨v, ev, rv⟩ := hx 0 x rfl
        obtain ⟨u, eu, ru⟩ := hy 0 y rfl
        have p1 := run_part_plain (P := P) w hplain (xs := vs) (off := f.offset) (by rw [ho]; exact ev)
        have p2 := run_part_plain (P := P) w hplain (xs := us) (off := f.offset) (by rw [ho]; exact eu)
        have ih := cellsEq_sound (c := c) w d fs (j + 1) ks' r s vs us r1 hpf (fun i p h1 => by have := hx (i + 1) p h1; rwa [show j + (i + 1) = j + 1 + i by omega] at this) (fun i p h1 => by have := hy (i + 1) p h1; rwa [show j + (i + 1) = j + 1 + i by omega] at this) hr
        simp only [Op.eqFields, hn', ne_eq, not_false_eq_true, if_true, Sem.run_bind, p1, p2, Result.andThen_ok, heq v u rv ru]
        cases r0
        · simp [hb]
        · simp [hb, ih]
      split at hp
      · rename_i q hu
        obtain ⟨ks', hk, rfl⟩ := Option.map_eq_some_iff.1 hp
        unfold cellsEq at h
        split at h
        all_goals first
          | (cases h; done)
          | skip
        · rename_i e; cases e
        · rename_i k a r k' b' s e
          injection e with e1 e2
          subst e2
          split at h
          · rename_i hkk
            subst hkk
            obtain ⟨r1, hr1, hb⟩ := Option.map_eq_some_iff.1 h
            refine go _ _ _ r s rfl rfl (by simp [Program.plainKey, hu]) hk _ r1 hr1 hb.symm (fun v u rv ru => ?_)
            rw [rv.litInv.1, ru.litInv.1]
            exact run_equalIn_int w d f.type k _ a b' hu
          · cases h
        · rename_i e; injection e with e1 e2; cases e1
        · rename_i e; injection e with e1 e2; cases e1
      · rename_i hu
        obtain ⟨ks', hk, rfl⟩ := Option.map_eq_some_iff.1 hp
        unfold cellsEq at h
        split at h
        all_goals first
          | (cases h; done)
          | skip
        · rename_i e; cases e
        · rename_i e; injection e with e1 e2; cases e1
        · rename_i a r b' s e
          injection e with e1 e2
          subst e2
          obtain ⟨r1, hr1, hb⟩ := Option.map_eq_some_iff.1 h
          refine go _ _ _ r s rfl rfl (by simp [Program.plainKey, hu]) hk _ r1 hr1 hb.symm (fun v u rv ru => ?_)
          rw [rv.litInv.1, ru.litInv.1]
          exact run_equalIn_bool' w d f.type a b' hu
        · rename_i e; injection e with e1 e2; cases e1
      · rename_i hu
        obtain ⟨ks', hk, rfl⟩ := Option.map_eq_some_iff.1 hp
        unfold cellsEq at h
        split at h
        all_goals first
          | (cases h; done)
          | skip
        · rename_i e; cases e
        · rename_i e; injection e with e1 e2; cases e1
        · rename_i e; injection e with e1 e2; cases e1
        · rename_i a r b' s e
          injection e with e1 e2
          subst e2
          obtain ⟨r1, hr1, hb⟩ := Option.map_eq_some_iff.1 h
          refine go _ _ _ r s rfl rfl (by simp [Program.plainKey, hu]) hk _ r1 hr1 hb.symm (fun v u rv ru => ?_)
          rw [rv.litInv.1, ru.litInv.1]
          exact run_equalIn_string w d f.type a b' hu
      · cases hp
    · cases hp

theorem binP_sound {c : Cx} {op : BinOp} {t : TypeId} {x y : Operand} {p q r : PV} {a b : Value} (hp : RV P c p a) (hq : RV P c q b) (h : binP P op t p q = some r) :
    ∃ v, (do eqGuard op t x y a b; binOp op t a b : Sem Value).run P c.w = .ok v c.w ∧ RV P c r v := by
  unfold binP at h
  split at h
  · rename_i s1 s2
    split at h
    · rename_i hu
      obtain ⟨v, hv, rfl⟩ := Option.map_eq_some_iff.1 h
      rw [hp.litInv.1, hq.litInv.1]
      refine ⟨v, ?_, ?_⟩
      · simp only [eqGuard_at_bool, Sem.run_bind, Sem.run_pure, Result.andThen_ok]
        cases op <;> simp only [boolBin] at hv <;> first | (cases hv; done) | skip
        · simp at hv; subst hv
          simp [binOp, Op.equal, Op.maxDepth, run_equalIn_bool' c.w 9999 t s1 s2 hu]
        · simp at hv; subst hv
          simp [binOp, Op.equal, Op.maxDepth, run_equalIn_bool' c.w 9999 t s1 s2 hu]
      · cases op <;> simp only [boolBin] at hv <;> first | (cases hv; done) | (simp at hv; subst hv; exact .lit _ rfl)
    · cases h
  · obtain ⟨v, hv, rfl⟩ := Option.map_eq_some_iff.1 h
    rw [hp.litInv.1, hq.litInv.1]
    obtain ⟨h1, h2⟩ := litBin_sound (P := P) (t := t) (x := x) (y := y) hv c.w
    exact ⟨v, h1, .lit _ h2⟩
  · rename_i xs ys
    obtain ⟨ks, hk, h⟩ := Option.bind_eq_some_iff.1 h
    unfold plainKinds at hk
    split at hk
    · rename_i fs hfs
      split at hk
      · rename_i hg
        obtain ⟨hst, hgd⟩ := hg
        have hfo : P.fieldsOf t = fs := by simp [Program.fieldsOf, hfs]
        cases hp with
        | agg _ vs hl hc =>
          cases hq with
          | agg _ us hl' hc' =>
            have key : ∀ b, cellsEq ks xs ys = some b → (Op.equalIn 10000 t (.agg vs) (.agg us)).run P c.w = .ok b c.w := by
              intro b hb
              rw [run_equalIn_agg c.w 9999 t vs us (by rw [hfo]; exact hfs) hst, hfo]
              refine cellsEq_sound (c := c) c.w 9998 fs.toList 0 ks xs ys vs us b hk (fun i p hi => ?_) (fun i p hi => ?_) hb
              · have hlt := (List.getElem?_eq_some_iff.1 hi).1
                have e : vs[0 + i]? = some (vs[i]'(by omega)) := by rw [Nat.zero_add]; exact Array.getElem?_eq_getElem _
                exact ⟨_, e, hc i p _ hi (by rw [Nat.zero_add] at e; exact e)⟩
              · have hlt := (List.getElem?_eq_some_iff.1 hi).1
                have e : us[0 + i]? = some (us[i]'(by omega)) := by rw [Nat.zero_add]; exact Array.getElem?_eq_getElem _
                exact ⟨_, e, hc' i p _ hi (by rw [Nat.zero_add] at e; exact e)⟩
            split at h
            · obtain ⟨b, hb, rfl⟩ := Option.map_eq_some_iff.1 h
              refine ⟨.bool b, ?_, .lit _ rfl⟩
              rw [Sem.run_bind, run_eqGuard_agg c.w _ t x y vs us hgd, Result.andThen_ok, run_eql_struct, key b hb, Result.andThen_ok]
            · obtain ⟨b, hb, rfl⟩ := Option.map_eq_some_iff.1 h
              refine ⟨.bool (!b), ?_, .lit _ rfl⟩
              rw [Sem.run_bind, run_eqGuard_agg c.w _ t x y vs us hgd, Result.andThen_ok, run_neq_struct, key b hb, Result.andThen_ok]
            · cases h
      · cases hk
    · cases hk
  · cases h

end Go.Proofs.Ytjleanfcjipofaa.Eng
