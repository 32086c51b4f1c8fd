/- The engine, part Na: a result that is made of own blocks is handed over to the caller: its blocks, each told once, in the order in which they are met, become own blocks of the caller. No condition. -/
import Derived.Test.YtjleanfcjipofaaEngN
set_option linter.all false
namespace Go.Proofs.Ytjleanfcjipofaa.Eng
open Go Go.RowKit

/-- The cells of a value of a type: none: a plain one; some e: a slice of elements e. -/
def cellTs (P : Program) : Nat → TypeId → Option (List (Option TypeId))
  | 0, _ => none
  | n + 1, t => match P.underlying t with
    | some (.int _) | some .bool | some .string => some [none]
    | some (.slice e) => some [some e]
    | some (.struct fs) => (fs.toList.mapM fun f => cellTs P n f.type).map List.flatten
    | _ => none

abbrev Cn (α : Type) := Option (α × List Blk × List (Option Nat))

section
variable (P : Program) (G : Hp)

def canL (C : Option TypeId → PV → Nat → Cn PV) : List (Option TypeId) → List PV → Nat → Cn (List PV)
  | [], [], _ => some ([], [], [])
  | t :: ts, p :: ps, base => (C t p base).bind fun r => (canL C ts ps (base + r.2.1.length)).map fun s => (r.1 :: s.1, r.2.1 ++ s.2.1, r.2.2 ++ s.2.2)
  | _, _, _ => none

/-- A cell. -/
def canC : Nat → Option TypeId → PV → Nat → Cn PV
  | _, none, .lit v, _ => some (.lit v, [], [])
  | _, some e, .rd [] 0 true _, base => some (.sl base 0 0 0, [⟨e, 0, []⟩], [none])
  | 0, _, _, _ => none
  | k + 1, some e, .sl b ver 0 n, base => (blkAt G b ver).bind fun x => (P.info? e).bind fun i => if x.e = e ∧ x.cs.length = n * i.size then
      if (belowL 0 x.cs && freshs x.cs) = true then some (.sl base 0 0 n, [⟨e, 0, x.cs⟩], [some b])
      else (cellTs P 8 e).bind fun ts => (canL (canC k) (List.replicate n ts).flatten x.cs (base + 1)).map fun r => (.sl base 0 0 n, ⟨e, 0, r.1⟩ :: r.2.1, some b :: r.2.2)
    else none
  | _, _, _, _ => none

/-- A value of a type. -/
def canV (t : TypeId) (p : PV) (base : Nat) : Cn PV :=
  (cellTs P 8 t).bind fun ts => match p with
    | .agg cs => (canL (canC P G 8) ts cs base).map fun r => (.agg r.1, r.2)
    | p => match ts with
      | [x] => canC P G 8 x p base
      | _ => none

def canVs : List TypeId → List PV → Nat → Cn (List PV)
  | [], [], _ => some ([], [], [])
  | t :: ts, p :: ps, base => (canV P G t p base).bind fun r => (canVs ts ps (base + r.2.1.length)).map fun s => (r.1 :: s.1, r.2.1 ++ s.2.1, r.2.2 ++ s.2.2)
  | _, _, _ => none

/-- What a function hands back. -/
def canR (ts : List TypeId) (p : PV) (base : Nat) : Cn PV :=
  match p with
  | .tup vs => (canVs P G ts vs base).map fun r => (.tup r.1, r.2)
  | p => match ts with
    | [t] => canV P G t p base
    | _ => none

/-- Handed over to a caller. -/
def ownR (H : Hp) (ts : List TypeId) (p : PV) : Option (PV × Hp) :=
  (canR P G ts p H.length).bind fun r => if (r.2.2.filterMap id).Nodup then some (r.1, H ++ r.2.1.map some) else none
end

section
variable {P : Program}

/-- What stands in a block. -/
def BlkOk (P : Program) (c : Cx) (b : Nat) (k : Blk) : Prop :=
  (c.σ b = none ∧ k.cs = []) ∨ ∃ g sz arr, c.σ b = some (g, sz) ∧ c.w.heap[g]? = some (.cells arr k.e (0, 0)) ∧ arr.size = sz ∧ k.cs.length ≤ sz ∧ ∀ (i : Nat) p u, k.cs[i]? = some p → arr[i]? = some u → RV P c p u

/-- The caller's reading, beside the callee's. -/
structure Beside (c1 c' : Cx) : Prop where
  w : c'.w = c1.w
  base : c'.base ≤ c1.base
  own : ∀ g, c1.base ≤ g → ¬ c1.owned g → ¬ c'.owned g

theorem belowL_zero_mem {cs : List PV} (h : belowL 0 cs = true) {p : PV} (hp : p ∈ cs) : belowB 0 p = true := belowL_mem h hp

theorem RV.beside {c1 c' : Cx} (hb : Beside c1 c') {p : PV} {v : Value} (h : RV P c1 p v) : belowB 0 p = true → fresh p = true → RV P c' p v := by
  induction h with
  | bot v => exact fun _ _ => .bot v
  | lit v hf => exact fun _ _ => .lit v hf
  | agg cs vs hl _ ih => exact fun h1 h2 => .agg cs vs hl fun i p u hp hu => ih i p u hp hu (belowL_zero_mem (by simpa only [belowB] using h1) (List.mem_of_getElem? hp)) (freshs_mem (by simpa only [fresh] using h2) (List.mem_of_getElem? hp))
  | tup cs vs hl _ ih => exact fun h1 h2 => .tup cs vs hl fun i p u hp hu => ih i p u hp hu (belowL_zero_mem (by simpa only [belowB] using h1) (List.mem_of_getElem? hp)) (freshs_mem (by simpa only [fresh] using h2) (List.mem_of_getElem? hp))
  | fn f cs vs hl _ ih => exact fun h1 h2 => .fn f cs vs hl fun i p u hp hu => ih i p u hp hu (belowL_zero_mem (by simpa only [belowB] using h1) (List.mem_of_getElem? hp)) (freshs_mem (by simpa only [fresh] using h2) (List.mem_of_getElem? hp))
  | rdNil n full fr A cap h1 h2 => exact fun _ _ => .rdNil n full fr A cap h1 h2
  | rpNil off fr a => exact fun _ _ => .rpNil off fr a
  | rdRow cs n full fr ad cap h1 h2 h3 h4 h5 h6 ih =>
    intro hz hf
    simp only [fresh, Bool.and_eq_true] at hf
    simp only [belowB] at hz
    exact .rdRow cs n full fr ad cap h1 h2 (hb.own _ (h4 hf.1) h3) (fun e => Nat.le_trans hb.base (h4 e)) (fun i hi => by rw [hb.w]; exact h5 i hi)
      (fun i p u hp hu => ih i p u hp (by rw [← hb.w]; exact hu) (belowL_zero_mem hz (List.mem_of_getElem? hp)) (freshs_mem hf.2 (List.mem_of_getElem? hp)))
  | rp cs off fr ad h3 h4 h5 h6 ih =>
    intro hz hf
    simp only [fresh, Bool.and_eq_true] at hf
    simp only [belowB] at hz
    exact .rp cs off fr ad (hb.own _ (h4 hf.1) h3) (fun e => Nat.le_trans hb.base (h4 e)) (fun i hi => by rw [hb.w]; exact h5 i hi)
      (fun i p u hp hu => ih i p u hp (by rw [← hb.w]; exact hu) (belowL_zero_mem hz (List.mem_of_getElem? hp)) (freshs_mem hf.2 (List.mem_of_getElem? hp)))
  | sl b ver off n A cap h1 => intro hz; simp [belowB] at hz
  | ptr b ver off a h1 => intro hz; simp [belowB] at hz

/-- The blocks lie where they are told. -/
structure Laid (c1 c' : Cx) (base : Nat) (bl : List Blk) (ids : List (Option Nat)) : Prop where
  len : ids.length = bl.length
  at' : ∀ (i : Nat) k, bl[i]? = some k → c'.H[base + i]? = some (some k)
  sig : ∀ (i : Nat) o, ids[i]? = some o → c'.σ (base + i) = o.bind c1.σ

theorem Laid.left {c1 c' : Cx} {base : Nat} {b1 b2 : List Blk} {i1 i2 : List (Option Nat)} (h : Laid c1 c' base (b1 ++ b2) (i1 ++ i2)) (hl : i1.length = b1.length) : Laid c1 c' base b1 i1 :=
  ⟨hl, fun i k hk => h.at' i k (by rw [List.getElem?_append_left (List.getElem?_eq_some_iff.1 hk).1]; exact hk), fun i o ho => h.sig i o (by rw [List.getElem?_append_left (List.getElem?_eq_some_iff.1 ho).1]; exact ho)⟩
theorem Laid.right {c1 c' : Cx} {base : Nat} {b1 b2 : List Blk} {i1 i2 : List (Option Nat)} (h : Laid c1 c' base (b1 ++ b2) (i1 ++ i2)) (hl : i1.length = b1.length) : Laid c1 c' (base + b1.length) b2 i2 := by
  refine ⟨?_, fun i k hk => ?_, fun i o ho => ?_⟩
  · have := h.len
    rw [List.length_append, List.length_append] at this
    omega
  · have := h.at' (b1.length + i) k (by rw [List.getElem?_append_right (by omega), Nat.add_sub_cancel_left]; exact hk)
    rwa [← Nat.add_assoc] at this
  · have := h.sig (b1.length + i) o (by rw [← hl, List.getElem?_append_right (by omega), Nat.add_sub_cancel_left]; exact ho)
    rwa [← Nat.add_assoc] at this

/-- What such a handing over shows: of cells. -/
def CanOk (P : Program) (G : Hp) (ps ps' : List PV) (base : Nat) (bl : List Blk) (ids : List (Option Nat)) : Prop :=
  ps'.length = ps.length ∧ ids.length = bl.length ∧ (∀ b, some b ∈ ids → ∃ k, G[b]? = some (some k)) ∧
  ∀ (c1 c' : Cx), c1.H = G → HR P c1 → Beside c1 c' → Laid c1 c' base bl ids →
    (∀ (i : Nat) p p' v, ps[i]? = some p → ps'[i]? = some p' → RV P c1 p v → RV P c' p' v) ∧ ∀ (i : Nat) k, bl[i]? = some k → BlkOk P c' (base + i) k

theorem canL_ok {G : Hp} {C : Option TypeId → PV → Nat → Cn PV} (hC : ∀ t p base r, C t p base = some r → CanOk P G [p] [r.1] base r.2.1 r.2.2) :
    ∀ (ts : List (Option TypeId)) (ps : List PV) (base : Nat) r, canL C ts ps base = some r → CanOk P G ps r.1 base r.2.1 r.2.2
  | [], [], base, r, h => by
    simp only [canL] at h
    injection h with h
    subst h
    exact ⟨rfl, rfl, fun b hb => by simp at hb, fun c1 c' _ _ _ _ => ⟨fun i p p' v hp => by simp at hp, fun i k hk => by simp at hk⟩⟩
  | t :: ts, p :: ps, base, r, h => by
    simp only [canL] at h
    rw [Option.bind_eq_some_iff] at h; obtain ⟨⟨q, b1, i1⟩, h1, h⟩ := h
    obtain ⟨⟨qs, b2, i2⟩, h2, rfl⟩ := Option.map_eq_some_iff.1 h
    obtain ⟨_, l1, m1, k1⟩ := hC t p base _ h1
    obtain ⟨n2, l2, m2, k2⟩ := canL_ok hC ts ps _ _ h2
    simp only at l1 m1 k1 n2 l2 m2 k2 ⊢
    refine ⟨by simp [n2], by simp [l1, l2], fun b hb => ?_, fun c1 c' hG hr hbe hla => ?_⟩
    · rcases List.mem_append.1 hb with hb | hb
      · exact m1 b hb
      · exact m2 b hb
    · obtain ⟨f1, g1⟩ := k1 c1 c' hG hr hbe (hla.left l1)
      obtain ⟨f2, g2⟩ := k2 c1 c' hG hr hbe (hla.right l1)
      refine ⟨fun i x x' v hx hx' => ?_, fun i k hk => ?_⟩
      · cases i with
        | zero => exact f1 0 x x' v (by simpa using hx) (by simpa using hx')
        | succ i => exact f2 i x x' v (by simpa using hx) (by simpa using hx')
      · rcases Nat.lt_or_ge i b1.length with hlt | hge
        · rw [List.getElem?_append_left hlt] at hk
          exact g1 i k hk
        · rw [List.getElem?_append_right hge] at hk
          have := g2 _ k hk
          rwa [show base + b1.length + (i - b1.length) = base + i by omega] at this
  | [], _ :: _, _, r, h => by simp [canL] at h
  | _ :: _, [], _, r, h => by simp [canL] at h

theorem one_get {α : Type} {x y : α} {i : Nat} (h : [x][i]? = some y) : i = 0 ∧ y = x := by
  cases i with
  | zero => simp at h; exact ⟨rfl, h.symm⟩
  | succ i => simp at h

theorem canC_ok {G : Hp} : ∀ (f : Nat) (t : Option TypeId) (p : PV) (base : Nat) r, canC P G f t p base = some r → CanOk P G [p] [r.1] base r.2.1 r.2.2 := by
  have plain : ∀ (v : Value) (base : Nat), CanOk P G [.lit v] [.lit v] base [] [] := fun v base =>
    ⟨rfl, rfl, fun b hb => by simp at hb, fun c1 c' _ _ _ _ => ⟨fun i p p' u hp hp' hv => by
      obtain ⟨_, rfl⟩ := one_get hp
      obtain ⟨_, rfl⟩ := one_get hp'
      cases hv with
      | lit _ hf => exact .lit _ hf, fun i k hk => by simp at hk⟩⟩
  have empty : ∀ (e : TypeId) (fr : Bool) (base : Nat), CanOk P G [.rd [] 0 true fr] [.sl base 0 0 0] base [⟨e, 0, []⟩] [none] := fun e fr base => by
    refine ⟨rfl, rfl, fun b hb => by simp at hb, fun c1 c' _ _ hbe hla => ?_⟩
    have h0 : c'.H[base]? = some (some ⟨e, 0, []⟩) := hla.at' 0 _ rfl
    have s0 : c'.σ base = none := hla.sig 0 none rfl
    have hlive : ∀ k, c'.live base k → k = ⟨e, 0, []⟩ := by
      intro k hk
      have : c'.H[base]? = some (some k) := hk
      rw [h0] at this
      injection this with this
      injection this with this
      exact this.symm
    have key : ∀ A, RV P c' (.sl base 0 0 0) (.slice A 0 0) := fun A =>
      .sl _ _ _ _ _ _ (List.getElem?_eq_some_iff.1 h0).1 (fun k hk => Nat.zero_le _) (Nat.le_refl _) (fun k _ _ => .inr ⟨s0, rfl, rfl⟩)
    refine ⟨fun i p p' u hp hp' hv => ?_, fun i k hk => ?_⟩
    · obtain ⟨_, rfl⟩ := one_get hp
      obtain ⟨_, rfl⟩ := one_get hp'
      cases hv with
      | rdNil _ _ _ A cap h1 h2 => rw [h2 rfl]; exact key A
      | rdRow _ _ _ _ ad cap h1 h2 => rw [h2 rfl]; exact key _
    · obtain ⟨rfl, rfl⟩ := one_get hk
      exact .inl ⟨s0, rfl⟩
  intro f
  induction f with
  | zero =>
    intro t p base r h
    cases t with
    | none => cases p with
      | lit v => simp only [canC] at h; injection h with h; subst h; exact plain _ _
      | _ => simp [canC] at h
    | some e => cases p with
      | rd cs n full fr =>
        cases cs with
        | cons _ _ => simp [canC] at h
        | nil => cases n with
          | succ n => simp [canC] at h
          | zero => cases full with
            | false => simp [canC] at h
            | true => simp only [canC] at h; injection h with h; subst h; exact empty _ _ _
      | _ => simp [canC] at h
  | succ f ih =>
    intro t p base' r h
    cases t with
    | none => cases p with
      | lit v => simp only [canC] at h; injection h with h; subst h; exact plain _ _
      | _ => simp [canC] at h
    | some e => cases p with
      | rd cs n full fr =>
        cases cs with
        | cons _ _ => simp [canC] at h
        | nil => cases n with
          | succ n => simp [canC] at h
          | zero => cases full with
            | false => simp [canC] at h
            | true => simp only [canC] at h; injection h with h; subst h; exact empty _ _ _
      | sl b ver off n =>
       cases off with
       | succ _ => simp [canC] at h
       | zero =>
      simp only [canC] at h
      rw [Option.bind_eq_some_iff] at h; obtain ⟨x, hx, h⟩ := h
      rw [Option.bind_eq_some_iff] at h; obtain ⟨i, hi, h⟩ := h
      split at h
      case isFalse => cases h
      case isTrue hq =>
      obtain ⟨he, hlen⟩ := hq
      obtain ⟨hxG, hver⟩ : G[b]? = some (some x) ∧ x.ver = ver := by
        unfold blkAt at hx
        split at hx
        · rename_i k hk
          split at hx
          · rename_i hv
            injection hx with hx
            subst hx
            exact ⟨hk, hv⟩
          · cases hx
        · cases hx
      -- the slice itself, whatever its cells become
      have top : ∀ (cs' : List PV) (bl : List Blk) (ids : List (Option Nat)) (c1 c' : Cx), c1.H = G → HR P c1 → Beside c1 c' → Laid c1 c' base' (⟨e, 0, cs'⟩ :: bl) (some b :: ids) → cs'.length = x.cs.length →
          (∀ (i : Nat) p p' v, x.cs[i]? = some p → cs'[i]? = some p' → RV P c1 p v → RV P c' p' v) → (∀ v, RV P c1 (.sl b ver 0 n) v → RV P c' (.sl base' 0 0 n) v) ∧ BlkOk P c' base' ⟨e, 0, cs'⟩ := by
        intro cs' bl ids c1 c' hG hr hbe hla hcl hcells
        have h0 : c'.H[base']? = some (some ⟨e, 0, cs'⟩) := hla.at' 0 _ rfl
        have s0 : c'.σ base' = c1.σ b := hla.sig 0 (some b) rfl
        have hlive : c1.live b x := by unfold Cx.live; rw [hG]; exact hxG
        have hl' : ∀ k, c'.live base' k → k = ⟨e, 0, cs'⟩ := by
          intro k hk
          have : c'.H[base']? = some (some k) := hk
          rw [h0] at this
          injection this with this
          injection this with this
          exact this.symm
        refine ⟨fun v hv => ?_, ?_⟩
        · cases hv with
          | sl _ _ _ _ A cap h1 h2 h3 h4 =>
            refine .sl _ _ _ _ _ _ (List.getElem?_eq_some_iff.1 h0).1 (fun k hk => Nat.zero_le _) h3 (fun k hk _ => ?_)
            have := h4 x hlive hver
            rw [hl' k hk]
            unfold SlRel at this ⊢
            rw [s0]
            rw [he] at this
            exact this
        · rcases hr.cells b x hlive with ⟨h1, h2⟩ | ⟨g, sz, arr, h1, h2, h3, h4, h5⟩
          · left
            refine ⟨by rw [s0]; exact h1, List.eq_nil_of_length_eq_zero (by simp only; rw [hcl, h2]; rfl)⟩
          · right
            refine ⟨g, sz, arr, by rw [s0]; exact h1, by rw [hbe.w, h2, he], h3, by simp only; omega, fun i p u hp hu => ?_⟩
            have hi' := (List.getElem?_eq_some_iff.1 hp).1
            simp only at hi'
            have e1 : x.cs[i]? = some (x.cs[i]'(by omega)) := List.getElem?_eq_getElem _
            exact hcells i _ p u e1 hp (h5 i _ u e1 hu)
      split at h
      · rename_i hflat
        injection h with h
        subst h
        simp only [Bool.and_eq_true] at hflat
        refine ⟨rfl, rfl, fun b' hb' => ?_, fun c1 c' hG hr hbe hla => ?_⟩
        · simp at hb'; subst hb'; exact ⟨x, hxG⟩
        · obtain ⟨t1, t2⟩ := top x.cs [] [] c1 c' hG hr hbe hla rfl (fun i p p' v hp hp' hv => by
            rw [hp] at hp'
            injection hp' with hp'
            subst hp'
            exact hv.beside hbe (belowL_zero_mem hflat.1 (List.mem_of_getElem? hp)) (freshs_mem hflat.2 (List.mem_of_getElem? hp)))
          refine ⟨fun i p p' u hp hp' hv => ?_, fun i k hk => ?_⟩
          · obtain ⟨_, rfl⟩ := one_get hp
            obtain ⟨_, rfl⟩ := one_get hp'
            exact t1 u hv
          · obtain ⟨rfl, rfl⟩ := one_get hk
            exact t2
      · rw [Option.bind_eq_some_iff] at h; obtain ⟨ts, hts, h⟩ := h
        obtain ⟨⟨cs', bl, ids⟩, hc, rfl⟩ := Option.map_eq_some_iff.1 h
        obtain ⟨q1, q2, q3, q4⟩ := canL_ok (P := P) (G := G) ih _ _ _ _ hc
        simp only at q1 q2 q3 q4 ⊢
        refine ⟨rfl, by simp [q2], fun b' hb' => ?_, fun c1 c' hG hr hbe hla => ?_⟩
        · rcases List.mem_cons.1 hb' with hb' | hb'
          · injection hb' with hb'; subst hb'; exact ⟨x, hxG⟩
          · exact q3 b' hb'
        · have hla2 : Laid c1 c' (base' + 1) bl ids := Laid.right (b1 := [⟨e, 0, cs'⟩]) (i1 := [some b]) hla rfl
          obtain ⟨f2, g2⟩ := q4 c1 c' hG hr hbe hla2
          obtain ⟨t1, t2⟩ := top cs' bl ids c1 c' hG hr hbe hla q1 f2
          refine ⟨fun i p p' u hp hp' hv => ?_, fun i k hk => ?_⟩
          · obtain ⟨_, rfl⟩ := one_get hp
            obtain ⟨_, rfl⟩ := one_get hp'
            exact t1 u hv
          · cases i with
            | zero => simp at hk; subst hk; exact t2
            | succ i =>
              have := g2 i k (by simpa using hk)
              rwa [show base' + 1 + i = base' + (i + 1) by omega] at this
      | _ => simp [canC] at h

theorem canV_ok {G : Hp} {t : TypeId} {p : PV} {base : Nat} {r} (h : canV P G t p base = some r) : CanOk P G [p] [r.1] base r.2.1 r.2.2 := by
  unfold canV at h
  rw [Option.bind_eq_some_iff] at h; obtain ⟨ts, _, h⟩ := h
  split at h
  · obtain ⟨⟨cs', bl, ids⟩, hc, rfl⟩ := Option.map_eq_some_iff.1 h
    obtain ⟨q1, q2, q3, q4⟩ := canL_ok (P := P) (G := G) (canC_ok 8) _ _ _ _ hc
    refine ⟨rfl, q2, q3, fun c1 c' hG hr hbe hla => ?_⟩
    obtain ⟨f2, g2⟩ := q4 c1 c' hG hr hbe hla
    refine ⟨fun i p p' u hp hp' hv => ?_, g2⟩
    obtain ⟨_, rfl⟩ := one_get hp
    obtain ⟨_, rfl⟩ := one_get hp'
    cases hv with
    | agg _ vs hl hc' =>
      simp only at q1
      refine .agg _ _ (by simp only; omega) (fun i p u hp hu => ?_)
      have hi' := (List.getElem?_eq_some_iff.1 hp).1
      have e1 := List.getElem?_eq_getElem (show i < _ from by rw [← q1]; exact hi')
      exact f2 i _ p u e1 hp (hc' i _ u e1 hu)
  · split at h
    · exact canC_ok _ _ _ _ _ h
    · cases h

theorem canVs_ok {G : Hp} : ∀ (ts : List TypeId) (ps : List PV) (base : Nat) r, canVs P G ts ps base = some r → CanOk P G ps r.1 base r.2.1 r.2.2
  | [], [], base, r, h => by
    simp only [canVs] at h
    injection h with h
    subst h
    exact ⟨rfl, rfl, fun b hb => by simp at hb, fun c1 c' _ _ _ _ => ⟨fun i p p' v hp => by simp at hp, fun i k hk => by simp at hk⟩⟩
  | t :: ts, p :: ps, base, r, h => by
    simp only [canVs] at h
    rw [Option.bind_eq_some_iff] at h; obtain ⟨⟨q, b1, i1⟩, h1, h⟩ := h
    obtain ⟨⟨qs, b2, i2⟩, h2, rfl⟩ := Option.map_eq_some_iff.1 h
    obtain ⟨_, l1, m1, k1⟩ := canV_ok h1
    obtain ⟨n2, l2, m2, k2⟩ := canVs_ok ts ps _ _ h2
    simp only at l1 m1 k1 n2 l2 m2 k2 ⊢
    refine ⟨by simp [n2], by simp [l1, l2], fun b hb => ?_, fun c1 c' hG hr hbe hla => ?_⟩
    · rcases List.mem_append.1 hb with hb | hb
      · exact m1 b hb
      · exact m2 b hb
    · obtain ⟨f1, g1⟩ := k1 c1 c' hG hr hbe (hla.left l1)
      obtain ⟨f2, g2⟩ := k2 c1 c' hG hr hbe (hla.right l1)
      refine ⟨fun i x x' v hx hx' => ?_, fun i k hk => ?_⟩
      · cases i with
        | zero => exact f1 0 x x' v (by simpa using hx) (by simpa using hx')
        | succ i => exact f2 i x x' v (by simpa using hx) (by simpa using hx')
      · rcases Nat.lt_or_ge i b1.length with hlt | hge
        · rw [List.getElem?_append_left hlt] at hk
          exact g1 i k hk
        · rw [List.getElem?_append_right hge] at hk
          have := g2 _ k hk
          rwa [show base + b1.length + (i - b1.length) = base + i by omega] at this
  | [], _ :: _, _, r, h => by simp [canVs] at h
  | _ :: _, [], _, r, h => by simp [canVs] at h

theorem canR_ok {G : Hp} {ts : List TypeId} {p : PV} {base : Nat} {r} (h : canR P G ts p base = some r) : CanOk P G [p] [r.1] base r.2.1 r.2.2 := by
  unfold canR at h
  split at h
  · obtain ⟨⟨cs', bl, ids⟩, hc, rfl⟩ := Option.map_eq_some_iff.1 h
    obtain ⟨q1, q2, q3, q4⟩ := canVs_ok (P := P) (G := G) _ _ _ _ hc
    refine ⟨rfl, q2, q3, fun c1 c' hG hr hbe hla => ?_⟩
    obtain ⟨f2, g2⟩ := q4 c1 c' hG hr hbe hla
    refine ⟨fun i p p' u hp hp' hv => ?_, g2⟩
    obtain ⟨_, rfl⟩ := one_get hp
    obtain ⟨_, rfl⟩ := one_get hp'
    cases hv with
    | tup _ vs hl hc' =>
      simp only at q1
      refine .tup _ _ (by simp only; omega) (fun i p u hp hu => ?_)
      have hi' := (List.getElem?_eq_some_iff.1 hp).1
      have e1 := List.getElem?_eq_getElem (show i < _ from by rw [← q1]; exact hi')
      exact f2 i _ p u e1 hp (hc' i _ u e1 hu)
  · split at h
    · exact canV_ok h
    · cases h

/-- A run that hands its blocks over serves every caller. -/
theorem by_own {f : FuncId} {args a0 : List PV} {H G : Hp} {q : PV} {ts : List TypeId} {r : PV × Hp} (ha : travs (own P H false 8) false args = some a0) (hc : ACalls P f a0 [] q G) (hr0 : ownR P G H ts q = some r) :
    ACalls P f args H r.1 r.2 := by
  intro c vs hH hr hb hl hv
  let c0 : Cx := ⟨fun _ => none, [], c.w, c.w.heap.size⟩
  obtain ⟨hl0, hv0⟩ := travs_sound (c := c) (c0 := c0) (g := own P H false 8) (kp := false) rfl rfl (fun h => by cases h)
    (by rw [← hH]; exact own_sound (c0 := c0) hr rfl rfl (fun h => by cases h) (fun h => by cases h) 8) args a0 ha
  unfold ownR at hr0
  rw [Option.bind_eq_some_iff] at hr0; obtain ⟨⟨p', bl, ids⟩, hcan, hr0⟩ := hr0
  split at hr0
  case isFalse => cases hr0
  case isTrue hnd =>
  injection hr0 with hr0
  subst hr0
  obtain ⟨_, q2, q3, q4⟩ := canR_ok hcan
  simp only at q2 q3 q4 hnd ⊢
  refine (hc c0 vs rfl (empty_hr rfl) (Nat.le_refl _) (by rw [hl0, hl]) (fun i p u hp hu => ?_)).mono ?_
  · have hi := (List.getElem?_eq_some_iff.1 hp).1
    exact hv0 i _ p (List.getElem?_eq_getElem (by omega)) hp u (hv i _ u (List.getElem?_eq_getElem (by omega)) hu)
  · rintro e w' ⟨v, c1, rfl, rfl, hG, hle, hr1, hq⟩
    have hge : ∀ b k g sz, c1.live b k → c1.σ b = some (g, sz) → c.w.heap.size ≤ g := by
      intro b k g sz hlive hσ
      rcases Nat.lt_or_ge g c.w.heap.size with hlt | hge
      · obtain ⟨k0, hk0, _⟩ := hle.own b k g sz hlive hσ hlt
        unfold Cx.live at hk0
        simp [c0] at hk0
      · exact hge
    have hkeep : ∀ i, i < c.w.heap.size → c1.w.heap[i]? = c.w.heap[i]? := fun i hi => hle.keep i hi (not_owned rfl i)
    -- the caller's reading
    let c' : Cx := ⟨fun b => if b < H.length then c.σ b else (ids[b - H.length]?).bind fun o => o.bind c1.σ, H ++ bl.map some, c1.w, c.base⟩
    have liveL : ∀ b k, b < H.length → (c'.live b k ↔ c.live b k) := by
      intro b k hb
      unfold Cx.live
      show (H ++ bl.map some)[b]? = some (some k) ↔ c.H[b]? = some (some k)
      rw [List.getElem?_append_left hb, hH]
    have liveR : ∀ b k, ¬ b < H.length → c'.live b k → bl[b - H.length]? = some k := by
      intro b k hb h
      have h : (H ++ bl.map some)[b]? = some (some k) := h
      rw [List.getElem?_append_right (by omega), List.getElem?_map] at h
      obtain ⟨k', h1, h2⟩ := Option.map_eq_some_iff.1 h
      injection h2 with h2
      subst h2
      exact h1
    have sigL : ∀ b, b < H.length → c'.σ b = c.σ b := fun b hb => by simp only [c', hb, if_true]
    -- where a new block lies
    have sigR : ∀ b k g sz, ¬ b < H.length → c'.live b k → c'.σ b = some (g, sz) → ∃ b1 k1, ids[b - H.length]? = some (some b1) ∧ c1.live b1 k1 ∧ c1.σ b1 = some (g, sz) := by
      intro b k g sz hb hlive hσ
      simp only [c', hb, if_false] at hσ
      rw [Option.bind_eq_some_iff] at hσ; obtain ⟨o, ho, hσ⟩ := hσ
      rw [Option.bind_eq_some_iff] at hσ; obtain ⟨b1, rfl, hσ⟩ := hσ
      obtain ⟨k1, hk1⟩ := q3 b1 (List.mem_of_getElem? ho)
      exact ⟨b1, k1, ho, by unfold Cx.live; rw [hG]; exact hk1, hσ⟩
    have hle3 : Le c c' := by
      refine ⟨?_, ?_, ?_, ?_, hle.size, hle.os, hle.tape, hle.output, rfl⟩
      · show c.H.length ≤ (H ++ bl.map some).length
        rw [hH, List.length_append]; omega
      · intro b k' hb hl'
        rw [hH] at hb
        exact ⟨k', (liveL b k' hb).1 hl', rfl, Nat.le_refl _, fun _ => sigL b hb⟩
      · exact fun g hg _ => hkeep g hg
      · intro b k' g sz hl' hs hg
        by_cases hb : b < H.length
        · exact ⟨k', (liveL b k' hb).1 hl', by rw [← sigL b hb]; exact hs⟩
        · obtain ⟨b1, k1, _, h2, h3⟩ := sigR b k' g sz hb hl' hs
          have := hge b1 k1 g sz h2 h3
          omega
    have hbe : Beside c1 c' := by
      refine ⟨rfl, by show c.base ≤ c1.base; rw [hle.base]; exact hb, fun g hg ho => ?_⟩
      rintro ⟨b, k, sz, hlive, hσ⟩
      by_cases hbl : b < H.length
      · have := hr.lt ((liveL b k hbl).1 hlive) (by rw [← sigL b hbl]; exact hσ)
        have h7 : c1.base = c.w.heap.size := hle.base
        omega
      · obtain ⟨b1, k1, _, h2, h3⟩ := sigR b k g sz hbl hlive hσ
        exact ho ⟨b1, k1, sz, h2, h3⟩
    have hla : Laid c1 c' H.length bl ids := by
      refine ⟨q2, fun i k hk => ?_, fun i o ho => ?_⟩
      · show (H ++ bl.map some)[H.length + i]? = some (some k)
        rw [List.getElem?_append_right (by omega), Nat.add_sub_cancel_left, List.getElem?_map, hk]; rfl
      · simp only [c', show ¬ H.length + i < H.length by omega, if_false, Nat.add_sub_cancel_left, ho, Option.bind_some]
    obtain ⟨f2, g2⟩ := q4 c1 c' hG hr1 hbe hla
    refine ⟨v, c', rfl, rfl, rfl, hle3, ⟨?_, ?_⟩, f2 0 _ _ v rfl rfl hq⟩
    · intro b k hlive
      by_cases hbl : b < H.length
      · have hlive0 := (liveL b k hbl).1 hlive
        rcases hr.cells b k hlive0 with ⟨h1, h2⟩ | ⟨g, sz, arr, h1, h2, h3, h4, h5⟩
        · exact .inl ⟨by rw [sigL b hbl]; exact h1, h2⟩
        · exact .inr ⟨g, sz, arr, by rw [sigL b hbl]; exact h1, by show c1.w.heap[g]? = _; rw [hkeep g (hr.lt hlive0 h1)]; exact h2, h3, h4, fun i p u hp hu => (h5 i p u hp hu).mono hle3⟩
      · have := g2 (b - H.length) k (liveR b k hbl hlive)
        rw [show H.length + (b - H.length) = b by omega] at this
        exact this
    · intro b b' k k' g sz sz' hl1 hl2 hs1 hs2
      by_cases hbl : b < H.length <;> by_cases hbl' : b' < H.length
      · exact hr.inj b b' k k' g sz sz' ((liveL b k hbl).1 hl1) ((liveL b' k' hbl').1 hl2) (by rw [← sigL b hbl]; exact hs1) (by rw [← sigL b' hbl']; exact hs2)
      · have h1 := hr.lt ((liveL b k hbl).1 hl1) (by rw [← sigL b hbl]; exact hs1)
        obtain ⟨b1, k1, _, h2, h3⟩ := sigR b' k' g sz' hbl' hl2 hs2
        have := hge b1 k1 g sz' h2 h3
        omega
      · have h1 := hr.lt ((liveL b' k' hbl').1 hl2) (by rw [← sigL b' hbl']; exact hs2)
        obtain ⟨b1, k1, _, h2, h3⟩ := sigR b k g sz hbl hl1 hs1
        have := hge b1 k1 g sz h2 h3
        omega
      · obtain ⟨b1, k1, i1, h2, h3⟩ := sigR b k g sz hbl hl1 hs1
        obtain ⟨b2, k2, i2, h4, h5⟩ := sigR b' k' g sz' hbl' hl2 hs2
        have hbb := hr1.inj b1 b2 k1 k2 g sz sz' h2 h4 h3 h5
        subst hbb
        have key : ∀ (l : List (Option Nat)) (i j : Nat), (l.filterMap id).Nodup → l[i]? = some (some b1) → l[j]? = some (some b1) → i = j := by
          intro l
          induction l with
          | nil => intro i j _ h; simp at h
          | cons o l ih =>
            intro i j hn hi hj
            have mem : ∀ k, l[k]? = some (some b1) → b1 ∈ l.filterMap id := fun k hk => List.mem_filterMap.2 ⟨some b1, List.mem_of_getElem? hk, rfl⟩
            cases i with
            | zero =>
              simp at hi
              subst hi
              cases j with
              | zero => rfl
              | succ j =>
                simp at hj
                simp only [List.filterMap_cons, id, List.nodup_cons] at hn
                exact absurd (mem j hj) hn.1
            | succ i =>
              simp at hi
              cases j with
              | zero =>
                simp at hj
                subst hj
                simp only [List.filterMap_cons, id, List.nodup_cons] at hn
                exact absurd (mem i hi) hn.1
              | succ j =>
                simp at hj
                have hn' : (l.filterMap id).Nodup := by
                  cases o with
                  | none => simpa only [List.filterMap_cons, id] using hn
                  | some y => simp only [List.filterMap_cons, id, List.nodup_cons] at hn; exact hn.2
                rw [ih i j hn' hi hj]
        have := key ids _ _ hnd i1 i2
        omega
end
end Go.Proofs.Ytjleanfcjipofaa.Eng
