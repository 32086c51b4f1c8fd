/- The engine, part N: the whole program, run abstractly: a function either works on the caller's abstract heap, or (the common case) is handed trees by value and hands back a tree by value. What such a run shows of the kit's 'Calls'. -/
import Derived.Test.YtjleanfcjipofaaEngM
set_option linter.all false
namespace Go.Proofs.Ytjleanfcjipofaa.Eng
open Go Go.RowKit

/-! ### Trees by value -/

mutual
/-- A value as a tree by value; 'g' tells what an own slice or an own pointer is. kp: rows that were made by this call stay marked so. -/
def trav (g : PV → Option PV) (kp : Bool) : PV → Option PV
  | .lit v => some (.lit v)
  | .agg cs => (travs g kp cs).map .agg
  | .tup cs => (travs g kp cs).map .tup
  | .rd cs n _ fr => (travs g kp cs).map fun cs => .rd cs n false (fr && kp)
  | .rp cs off fr => (travs g kp cs).map fun cs => .rp cs off (fr && kp)
  | .fn f cs => (travs g kp cs).map (.fn f)
  | .bot => some .bot
  | .sl b ver off n => g (.sl b ver off n)
  | .ptr b ver off => g (.ptr b ver off)
def travs (g : PV → Option PV) (kp : Bool) : List PV → Option (List PV)
  | [] => some []
  | p :: r => (trav g kp p).bind fun q => (travs g kp r).map fun s => q :: s
end

def own (P : Program) (H : Hp) (kp : Bool) : Nat → PV → Option PV
  | 0, _ => none
  | k + 1, .sl b ver off n => (sliceOf P H (.sl b ver off n)).bind fun c => (travs (own P H kp k) kp c.1).map fun cs => .rd cs n false kp
  | k + 1, .ptr b ver off => (blkAt H b ver).bind fun x => (travs (own P H kp k) kp x.cs).map fun cs => .rp cs off kp
  | _, _ => none

mutual
/-- Every row was made by this call. -/
def fresh : PV → Bool
  | .lit _ => true
  | .agg cs => freshs cs
  | .tup cs => freshs cs
  | .rd cs _ _ fr => fr && freshs cs
  | .rp cs _ fr => fr && freshs cs
  | .fn _ cs => freshs cs
  | .bot => true
  | .sl .. => true
  | .ptr .. => true
def freshs : List PV → Bool
  | [] => true
  | p :: r => fresh p && freshs r
end

def noLive : Hp → Bool
  | [] => true
  | none :: r => noLive r
  | some _ :: _ => false

section
variable {P : Program}

theorem not_owned {c : Cx} (h : c.H = []) (g : Nat) : ¬ c.owned g := by
  rintro ⟨b, k, sz, hl, _⟩
  unfold Cx.live at hl
  rw [h] at hl
  simp at hl

mutual
theorem trav_sound {c c0 : Cx} {g : PV → Option PV} {kp : Bool} (h0 : c0.H = []) (hw : c0.w = c.w) (hk : kp = true → c0.base ≤ c.base)
    (hg : ∀ p p' v, g p = some p' → RV P c p v → RV P c0 p' v) : ∀ (p p' : PV) (v : Value), trav g kp p = some p' → RV P c p v → RV P c0 p' v
  | .lit v, p', u, h, hv => by
    simp only [trav] at h
    injection h with h
    subst h
    cases hv with
    | lit _ hf => exact .lit _ hf
  | .bot, p', u, h, hv => by
    simp only [trav] at h
    injection h with h
    subst h
    exact .bot u
  | .agg cs, p', u, h, hv => by
    simp only [trav] at h
    obtain ⟨cs', h1, rfl⟩ := Option.map_eq_some_iff.1 h
    obtain ⟨hl, hc⟩ := travs_sound h0 hw hk hg cs cs' h1
    cases hv with
    | agg _ vs h2 h3 =>
      refine .agg _ _ (by omega) (fun i p u hp hu => ?_)
      have hi := (List.getElem?_eq_some_iff.1 hp).1
      exact hc i _ p (List.getElem?_eq_getElem (by omega)) hp u (h3 i _ u (List.getElem?_eq_getElem (by omega)) hu)
  | .tup cs, p', u, h, hv => by
    simp only [trav] at h
    obtain ⟨cs', h1, rfl⟩ := Option.map_eq_some_iff.1 h
    obtain ⟨hl, hc⟩ := travs_sound h0 hw hk hg cs cs' h1
    cases hv with
    | tup _ vs h2 h3 =>
      refine .tup _ _ (by omega) (fun i p u hp hu => ?_)
      have hi := (List.getElem?_eq_some_iff.1 hp).1
      exact hc i _ p (List.getElem?_eq_getElem (by omega)) hp u (h3 i _ u (List.getElem?_eq_getElem (by omega)) hu)
  | .fn f cs, p', u, h, hv => by
    simp only [trav] at h
    obtain ⟨cs', h1, rfl⟩ := Option.map_eq_some_iff.1 h
    obtain ⟨hl, hc⟩ := travs_sound h0 hw hk hg cs cs' h1
    cases hv with
    | fn _ _ vs h2 h3 =>
      refine .fn _ _ _ (by omega) (fun i p u hp hu => ?_)
      have hi := (List.getElem?_eq_some_iff.1 hp).1
      exact hc i _ p (List.getElem?_eq_getElem (by omega)) hp u (h3 i _ u (List.getElem?_eq_getElem (by omega)) hu)
  | .rd cs n full fr, p', u, h, hv => by
    simp only [trav] at h
    obtain ⟨cs', h1, rfl⟩ := Option.map_eq_some_iff.1 h
    obtain ⟨hl, hc⟩ := travs_sound h0 hw hk hg cs cs' h1
    cases hv with
    | rdNil _ _ _ A cap h2 h3 =>
      have : cs' = [] := List.eq_nil_of_length_eq_zero (by simpa using hl)
      subst this
      exact .rdNil _ _ _ _ _ h2 (fun h => by cases h)
    | rdRow _ _ _ _ ad cap h2 h3 h4 h5 h6 h7 =>
      refine .rdRow _ _ _ _ ad cap h2 (fun h => by cases h) (not_owned h0 _) (fun e => ?_) (fun i hi => by rw [hw]; exact h6 i (by omega)) (fun i p u hp hu => ?_)
      · simp only [Bool.and_eq_true] at e
        exact Nat.le_trans (hk e.2) (h5 e.1)
      · have hi := (List.getElem?_eq_some_iff.1 hp).1
        exact hc i _ p (List.getElem?_eq_getElem (by omega)) hp u (h7 i _ u (List.getElem?_eq_getElem (by omega)) (by rw [← hw]; exact hu))
  | .rp cs off fr, p', u, h, hv => by
    simp only [trav] at h
    obtain ⟨cs', h1, rfl⟩ := Option.map_eq_some_iff.1 h
    obtain ⟨hl, hc⟩ := travs_sound h0 hw hk hg cs cs' h1
    cases hv with
    | rpNil _ _ a =>
      have : cs' = [] := List.eq_nil_of_length_eq_zero (by simpa using hl)
      subst this
      exact .rpNil _ _ _
    | rp _ _ _ ad h4 h5 h6 h7 =>
      refine .rp _ _ _ ad (not_owned h0 _) (fun e => ?_) (fun i hi => by rw [hw]; exact h6 i (by omega)) (fun i p u hp hu => ?_)
      · simp only [Bool.and_eq_true] at e
        exact Nat.le_trans (hk e.2) (h5 e.1)
      · have hi := (List.getElem?_eq_some_iff.1 hp).1
        exact hc i _ p (List.getElem?_eq_getElem (by omega)) hp u (h7 i _ u (List.getElem?_eq_getElem (by omega)) (by rw [← hw]; exact hu))
  | .sl b ver off n, p', u, h, hv => hg _ _ _ (by simpa only [trav] using h) hv
  | .ptr b ver off, p', u, h, hv => hg _ _ _ (by simpa only [trav] using h) hv
theorem travs_sound {c c0 : Cx} {g : PV → Option PV} {kp : Bool} (h0 : c0.H = []) (hw : c0.w = c.w) (hk : kp = true → c0.base ≤ c.base)
    (hg : ∀ p p' v, g p = some p' → RV P c p v → RV P c0 p' v) : ∀ (ps ps' : List PV), travs g kp ps = some ps' → ps'.length = ps.length ∧ ∀ (i : Nat) p p', ps[i]? = some p → ps'[i]? = some p' → ∀ v, RV P c p v → RV P c0 p' v
  | [], ps', h => by
    simp only [travs] at h
    injection h with h
    subst h
    exact ⟨rfl, fun i p p' h => by simp at h⟩
  | p :: r, ps', h => by
    simp only [travs] at h
    rw [Option.bind_eq_some_iff] at h; obtain ⟨q, hq, h⟩ := h
    obtain ⟨s, hs, rfl⟩ := Option.map_eq_some_iff.1 h
    obtain ⟨hl, hc⟩ := travs_sound h0 hw hk hg r s hs
    refine ⟨by simp [hl], fun i p1 p2 h1 h2 v hv => ?_⟩
    cases i with
    | zero =>
      simp at h1 h2
      subst h1 h2
      exact trav_sound h0 hw hk hg p q v hq hv
    | succ i => exact hc i p1 p2 (by simpa using h1) (by simpa using h2) v hv
end

theorem own_sound {c c0 : Cx} {kp : Bool} (hr : HR P c) (h0 : c0.H = []) (hw : c0.w = c.w) (hk : kp = true → c0.base ≤ c.base) (hf : kp = true → ∀ b k g sz, c.live b k → c.σ b = some (g, sz) → c0.base ≤ g) :
    ∀ (n : Nat) (p p' : PV) (v : Value), own P c.H kp n p = some p' → RV P c p v → RV P c0 p' v
  | 0, p, p', v, h, _ => by cases p <;> simp [own] at h
  | k + 1, p, p', v, h, hv => by
    have ih := own_sound hr h0 hw hk hf k
    cases p with
    | sl b ver off n =>
      simp only [own] at h
      rw [Option.bind_eq_some_iff] at h; obtain ⟨⟨cs, m⟩, hs, h⟩ := h
      obtain ⟨cs', h1, rfl⟩ := Option.map_eq_some_iff.1 h
      obtain ⟨hl, hc⟩ := travs_sound h0 hw hk ih cs cs' h1
      obtain ⟨A, cap, rfl, hn, hcells⟩ := sliceOf_reads hr hv hs
      have hm : m = n := by
        simp only [sliceOf] at hs
        rw [Option.bind_eq_some_iff] at hs; obtain ⟨_, _, hs⟩ := hs
        rw [Option.bind_eq_some_iff] at hs; obtain ⟨_, _, hs⟩ := hs
        split at hs
        · injection hs with hs; injection hs with _ hs; exact hs.symm
        · cases hs
      subst hm
      by_cases hne : cs = []
      · have : cs' = [] := List.eq_nil_of_length_eq_zero (by rw [hl, hne]; rfl)
        subst this
        exact .rdNil _ _ _ _ _ hn (fun h => by cases h)
      · obtain ⟨ad, rfl, hcs⟩ := hcells hne
        refine .rdRow _ _ _ _ ad cap hn (fun h => by cases h) (not_owned h0 _) (fun e => ?_) (fun i hi => ?_) (fun i p u hp hu => ?_)
        · have hb : ∃ k, c.live b k ∧ k.ver = ver := by
            simp only [sliceOf] at hs
            rw [Option.bind_eq_some_iff] at hs; obtain ⟨k', hk', _⟩ := hs
            unfold blkAt at hk'
            split at hk'
            · rename_i kk hkk
              split at hk'
              · rename_i hver; exact ⟨kk, hkk, hver⟩
              · cases hk'
            · cases hk'
          obtain ⟨kb, hlive, hver⟩ := hb
          cases hv with
          | sl _ _ _ _ _ _ _ _ _ hrel =>
            rcases hrel kb hlive hver with ⟨g, sz, hσ, h2⟩ | ⟨_, hn0, _⟩
            · rcases h2 with ⟨hA, _⟩ | ⟨hn0, _, _⟩
              · injection hA with hA
                subst hA
                exact hf e b kb g sz hlive hσ
              · exfalso
                subst hn0
                simp only [sliceOf] at hs
                rw [Option.bind_eq_some_iff] at hs; obtain ⟨_, _, hs⟩ := hs
                rw [Option.bind_eq_some_iff] at hs; obtain ⟨_, _, hs⟩ := hs
                simp at hs
                exact hne hs.2
            · exfalso
              subst hn0
              simp only [sliceOf] at hs
              rw [Option.bind_eq_some_iff] at hs; obtain ⟨_, _, hs⟩ := hs
              rw [Option.bind_eq_some_iff] at hs; obtain ⟨_, _, hs⟩ := hs
              simp at hs
              exact hne hs.2
        · rw [hw]
          obtain ⟨u, hu, _⟩ := hcs i _ (List.getElem?_eq_getElem (by omega))
          rw [hu]; rfl
        · have hi := (List.getElem?_eq_some_iff.1 hp).1
          obtain ⟨u', hu', hrv⟩ := hcs i _ (List.getElem?_eq_getElem (by omega))
          rw [hw, hu'] at hu
          injection hu with hu
          subst hu
          exact hc i _ p (List.getElem?_eq_getElem (by omega)) hp _ hrv
    | ptr b ver off =>
      simp only [own] at h
      rw [Option.bind_eq_some_iff] at h; obtain ⟨kb, hkb, h⟩ := h
      obtain ⟨cs', h1, rfl⟩ := Option.map_eq_some_iff.1 h
      obtain ⟨hl, hc⟩ := travs_sound h0 hw hk ih kb.cs cs' h1
      have hb : c.live b kb ∧ kb.ver = ver := by
        unfold blkAt at hkb
        split at hkb
        · rename_i kk hkk
          split at hkb
          · rename_i hver
            injection hkb with hkb
            subst hkb
            exact ⟨hkk, hver⟩
          · cases hkb
        · cases hkb
      cases hv with
      | ptr _ _ _ a hlt hle hrel =>
        obtain ⟨g, sz, hσ, rfl⟩ := hrel kb hb.1 hb.2
        rcases hr.cells b kb hb.1 with ⟨h2, _⟩ | ⟨g', sz', arr, h2, h3, h4, h5, h6⟩
        · rw [hσ] at h2; cases h2
        · rw [hσ] at h2
          injection h2 with h2
          injection h2 with h2 h2'
          subst h2 h2'
          have e : (⟨g, off, none⟩ : Addr) = (⟨g, 0, none⟩ : Addr).add off := by rw [add_own, Nat.zero_add]
          rw [e]
          have hcell : ∀ i, c.w.cell? ((⟨g, 0, none⟩ : Addr).add i) = arr[i]? := by
            intro i
            rw [add_own, Nat.zero_add]
            simp [World.cell?, h3]
          refine .rp _ _ _ ⟨g, 0, none⟩ (not_owned h0 _) (fun e => hf e b kb g sz hb.1 hσ) (fun i hi => ?_) (fun i p u hp hu => ?_)
          · rw [hw, hcell, Array.getElem?_eq_getElem (by omega)]; rfl
          · rw [hw, hcell] at hu
            have hi := (List.getElem?_eq_some_iff.1 hp).1
            exact hc i _ p (List.getElem?_eq_getElem (by omega)) hp u (h6 i _ u (List.getElem?_eq_getElem (by omega)) hu)
    | _ => simp [own] at h

theorem freshs_mem {cs : List PV} (h : freshs cs = true) : ∀ {p}, p ∈ cs → fresh p = true := by
  induction cs with
  | nil => intro p hp; cases hp
  | cons x r ih =>
    simp only [freshs, Bool.and_eq_true] at h
    intro p hp
    rcases List.mem_cons.1 hp with e | e
    · subst e; exact h.1
    · exact ih h.2 e

/-- Back from the world by value. -/
theorem back_sound {c2 c3 : Cx} (h0 : c2.H = []) (hw : c3.w = c2.w) (hb : c3.base ≤ c2.base) {p : PV} {v : Value} (hv : RV P c2 p v) :
    (fresh p = true ∧ ∀ g, c3.owned g → g < c2.base) ∨ (∀ g, ¬ c3.owned g) → RV P c3 p v := by
  induction hv with
  | bot v => exact fun _ => .bot v
  | lit v hf => exact fun _ => .lit v hf
  | agg cs vs hl _ ih => exact fun h => .agg cs vs hl fun i p u hp hu => ih i p u hp hu (h.imp (fun h => ⟨freshs_mem (by simpa only [fresh] using h.1) (List.mem_of_getElem? hp), h.2⟩) id)
  | tup cs vs hl _ ih => exact fun h => .tup cs vs hl fun i p u hp hu => ih i p u hp hu (h.imp (fun h => ⟨freshs_mem (by simpa only [fresh] using h.1) (List.mem_of_getElem? hp), h.2⟩) id)
  | fn f cs vs hl _ ih => exact fun h => .fn f cs vs hl fun i p u hp hu => ih i p u hp hu (h.imp (fun h => ⟨freshs_mem (by simpa only [fresh] using h.1) (List.mem_of_getElem? hp), h.2⟩) id)
  | rdNil n full fr A cap h1 h2 => exact fun _ => .rdNil n full fr A cap h1 h2
  | rpNil off fr a => exact fun _ => .rpNil off fr a
  | rdRow cs n full fr ad cap h1 h2 h3 h4 h5 h6 ih =>
    intro h
    refine .rdRow cs n full fr ad cap h1 h2 ?_ (fun e => Nat.le_trans hb (h4 e)) (fun i hi => by rw [hw]; exact h5 i hi) (fun i p u hp hu => ih i p u hp (by rw [← hw]; exact hu) (h.imp (fun h => ⟨freshs_mem ?_ (List.mem_of_getElem? hp), h.2⟩) id))
    · rcases h with ⟨hf, hlt⟩ | h
      · simp only [fresh, Bool.and_eq_true] at hf
        intro ho
        have := hlt _ ho
        have := h4 hf.1
        omega
      · exact h _
    · have := h.1
      simp only [fresh, Bool.and_eq_true] at this
      exact this.2
  | rp cs off fr ad h3 h4 h5 h6 ih =>
    intro h
    refine .rp cs off fr ad ?_ (fun e => Nat.le_trans hb (h4 e)) (fun i hi => by rw [hw]; exact h5 i hi) (fun i p u hp hu => ih i p u hp (by rw [← hw]; exact hu) (h.imp (fun h => ⟨freshs_mem ?_ (List.mem_of_getElem? hp), h.2⟩) id))
    · rcases h with ⟨hf, hlt⟩ | h
      · simp only [fresh, Bool.and_eq_true] at hf
        intro ho
        have := hlt _ ho
        have := h4 hf.1
        omega
      · exact h _
    · have := h.1
      simp only [fresh, Bool.and_eq_true] at this
      exact this.2
  | sl b ver off n A cap h1 => rw [h0] at h1; exact absurd h1 (by simp)
  | ptr b ver off a h1 => rw [h0] at h1; exact absurd h1 (by simp)

theorem noLive_owned {c : Cx} (h : noLive c.H = true) (g : Nat) : ¬ c.owned g := by
  rintro ⟨b, k, sz, hl, _⟩
  have : ∀ (H : Hp), noLive H = true → ∀ (b : Nat) (k : Blk), H[b]? ≠ some (some k) := by
    intro H
    induction H with
    | nil => intro _ b k h; simp at h
    | cons x r ih =>
      intro h b k hb
      cases x with
      | none =>
        cases b with
        | zero => simp at hb
        | succ b => exact ih (by simpa only [noLive] using h) b k (by simpa using hb)
      | some y => simp [noLive] at h
  exact this c.H h b k hl

theorem empty_hr {c : Cx} (h : c.H = []) : HR P c := by
  refine ⟨fun b k hl => ?_, fun b b' k k' g sz sz' hl => ?_⟩
  · unfold Cx.live at hl; rw [h] at hl; simp at hl
  · unfold Cx.live at hl; rw [h] at hl; simp at hl

/-- A run by value serves every caller. -/
theorem by_value {f : FuncId} {args a0 : List PV} {H G : Hp} {q p : PV} (ha : travs (own P H false 8) false args = some a0) (hc : ACalls P f a0 [] q G) {kp : Bool} (hp : trav (own P G kp 8) kp q = some p) (hf : fresh p = true ∨ noLive H = true) :
    ACalls P f args H p H := by
  intro c vs hH hr hb hl hv
  let c0 : Cx := ⟨fun _ => none, [], c.w, c.w.heap.size⟩
  obtain ⟨hl0, hv0⟩ := travs_sound (c := c) (c0 := c0) (g := own P H false 8) (kp := false) rfl rfl (fun h => by cases h)
    (by rw [← hH]; exact own_sound (c0 := c0) hr rfl rfl (fun h => by cases h) (fun h => by cases h) 8) args a0 ha
  refine (hc c0 vs rfl (empty_hr rfl) (Nat.le_refl _) (by rw [hl0, hl]) (fun i p u hp hu => ?_)).mono ?_
  · have hi := (List.getElem?_eq_some_iff.1 hp).1
    exact hv0 i _ p (List.getElem?_eq_getElem (by omega)) hp u (hv i _ u (List.getElem?_eq_getElem (by omega)) hu)
  · rintro e w' ⟨v, c1, rfl, rfl, hG, hle, hr1, hq⟩
    let c2 : Cx := ⟨fun _ => none, [], c1.w, c.w.heap.size⟩
    have hk2 : c2.base ≤ c1.base := by rw [hle.base]; exact Nat.le_refl _
    have h2 : RV P c2 p v := trav_sound (c := c1) (c0 := c2) (g := own P G kp 8) (kp := kp) rfl rfl (fun _ => hk2)
      (by
        rw [← hG]
        refine own_sound (c0 := c2) hr1 rfl rfl (fun _ => hk2) (fun _ b k g sz hlive hσ => ?_) 8
        rcases Nat.lt_or_ge g c.w.heap.size with hlt | hge
        · obtain ⟨k0, hk0, _⟩ := hle.own b k g sz hlive hσ hlt
          unfold Cx.live at hk0
          simp [c0] at hk0
        · exact hge) q p v hp hq
    have hkeep : ∀ i, i < c.w.heap.size → c1.w.heap[i]? = c.w.heap[i]? := fun i hi => hle.keep i hi (not_owned rfl i)
    obtain ⟨hle3, hr3⟩ := world_on hr c1.w hkeep hle.size hle.os hle.tape hle.output
    refine ⟨v, { c with w := c1.w }, rfl, rfl, hH, hle3, hr3, back_sound (c2 := c2) (c3 := { c with w := c1.w }) rfl rfl hb h2 ?_⟩
    rcases hf with hf | hf
    · left
      refine ⟨hf, ?_⟩
      rintro g ⟨b, k, sz, hlive, hσ⟩
      exact hr.lt hlive hσ
    · right
      exact noLive_owned (c := { c with w := c1.w }) (by rw [← hH] at hf; exact hf)

end

end Go.Proofs.Ytjleanfcjipofaa.Eng
