/- The engine, part I: append. No condition. -/
import Derived.Test.YtjleanfcjipofaaEngH
set_option linter.all false
namespace Go.Proofs.Ytjleanfcjipofaa.Eng
open Go Go.RowKit

variable {P : Program}

theorem nx_le (v k : Nat) : v ≤ nx v k := Nat.le_trans (Nat.le_succ v) (Nat.le_max_left _ _)
theorem nx_ne (v k : Nat) : nx v k ≠ v := by have := Nat.le_max_left (v + 1) k; unfold nx; omega
section
variable (w : World) (t u ty e : TypeId) (i : TypeInfo) (du : TypeDesc) (ht : P.underlying t = some (.slice e)) (hu : P.underlying u = some du) (hdu : ∀ k, du ≠ .int k) (hi : P.info? e = some i)
include ht hu hdu hi

theorem append_fits (A : Option Addr) (n cap m : Nat) (x : Value) (new : Array Value) (hlen : (Builtin.lenOf x).run P w = .ok m w) (hnew : (Builtin.firstCells i.size m x).run P w = .ok new w) (hroom : n + m ≤ cap) :
    (Builtin.append_ #[t, u] ty #[.slice A n cap, x]).run P w = match A with
      | some a => ((storeCells (a.add (n * i.size)) new.toList).run P w).andThen fun _ w' => .ok (.slice A (n + m) cap) w'
      | none => .ok (.slice A (n + m) cap) w := by
  have hz : (match du with | .int _ => true | _ => false) = false := by cases du <;> first | rfl | exact absurd rfl (hdu _)
  cases A with
  | none => simp [Builtin.append_, run_underlying ht, run_underlying hu, sizeOf, typeInfo, hi, hz, hlen, hnew, hroom]
  | some a => simp [Builtin.append_, run_underlying ht, run_underlying hu, sizeOf, typeInfo, hi, hz, hlen, hnew, hroom]

theorem append_grows (A : Option Addr) (n cap m : Nat) (x : Value) (old new : Array Value) (z : Value) (hz0 : i.zero = some z) (hlen : (Builtin.lenOf x).run P w = .ok m w) (hold : (Builtin.firstCells i.size n (.slice A n cap)).run P w.drew = .ok old w.drew)
    (hnew : (Builtin.firstCells i.size m x).run P w.drew = .ok new w.drew) (hroom : cap < n + m) (h63 : n + m ≤ 9223372036854775807) (hfit : Builtin.nextslicecap (n + m) cap * i.bytes ≤ 281474976710656) :
    (Builtin.append_ #[t, u] ty #[.slice A n cap, x]).run P w = .ok (.slice (some ⟨w.heap.size, 0, none⟩) (n + m) (grownCap w (n + m) cap e))
      (w.drew.alloc (.cells (old ++ new ++ Builtin.zeroCells z.cells (grownCap w (n + m) cap e - (n + m))) e)) := by
  have hz : (match du with | .int _ => true | _ => false) = false := by cases du <;> first | rfl | exact absurd rfl (hdu _)
  have hn : ¬ (n + m ≤ cap) := by omega
  have h63' : ¬ (9223372036854775807 < ((n : Int) + (m : Int))) := by omega
  have h48' : ¬ (281474976710656 < Builtin.nextslicecap (n + m) cap * i.bytes) := by omega
  simp [Builtin.append_, run_underlying ht, run_underlying hu, sizeOf, typeInfo, zeroValue, hi, hz0, hz, hlen, hn, h63', h48', Question.forced, hold, hnew, newRow, grownCap]
end

theorem world_size_drew_alloc (w : World) (o : Obj) : (w.drew.alloc o).heap.size = w.heap.size + 1 := by simp

/-- A row that has grown: what is known of the elder cells and of the new ones. -/
theorem grown_get {c : Cx} (old new rest : Array Value) (cs ns : List PV) (h1 : cs.length = old.size) (h2 : ns.length = new.size) (r1 : ∀ (i : Nat) p u, cs[i]? = some p → old[i]? = some u → RV P c p u) (r2 : ∀ (i : Nat) p u, ns[i]? = some p → new[i]? = some u → RV P c p u) :
    ∀ (i : Nat) p u, (cs ++ ns)[i]? = some p → (old ++ new ++ rest)[i]? = some u → RV P c p u := by
  intro i p u hp hu
  rcases Nat.lt_or_ge i cs.length with h | h
  · rw [List.getElem?_append_left h] at hp
    rw [Array.append_assoc, Array.getElem?_append_left (by omega)] at hu
    exact r1 i p u hp hu
  · rw [List.getElem?_append_right h] at hp
    have hlt := (List.getElem?_eq_some_iff.1 hp).1
    rw [Array.append_assoc, Array.getElem?_append_right (by omega), Array.getElem?_append_left (by omega)] at hu
    exact r2 _ p u hp (by rw [h1]; exact hu)

/-- The cells of a slice, read in whatever world of this heap. -/
theorem firstCells_of {c : Cx} {A : Option Addr} {cs : List PV} (h : cs ≠ [] → ∃ ad, A = some ad ∧ ∀ (i : Nat) q, cs[i]? = some q → ∃ u, c.w.cell? (ad.add i) = some u ∧ RV P c q u) (n sz len cap : Nat) (hl : cs.length = n * sz) (w : World) (hw : w.heap = c.w.heap) :
    ∃ arr, (Builtin.firstCells sz n (.slice A len cap)).run P w = .ok arr w ∧ cs.length = arr.size ∧ ∀ (i : Nat) p v, cs[i]? = some p → arr[i]? = some v → RV P c p v := by
  by_cases hne : cs = []
  · subst hne
    have h0 : n * sz = 0 := by simpa using hl.symm
    refine ⟨#[], ?_, rfl, fun i p v hp => by simp at hp⟩
    cases A with
    | none => exact run_firstCells_none (P := P) w sz n len cap
    | some a =>
      have := run_firstCells_some (P := P) w sz n a len cap [] (by simpa using h0.symm) (fun j v hv => by simp at hv)
      simpa using this
  · obtain ⟨ad, rfl, hc⟩ := h hne
    have hcell : ∀ a : Addr, w.cell? a = c.w.cell? a := fun a => by simp [World.cell?, hw]
    let f : Nat → Value := fun j => (c.w.cell? (ad.add j)).getD undef
    have hf : ∀ j q, cs[j]? = some q → c.w.cell? (ad.add j) = some (f j) ∧ RV P c q (f j) := by
      intro j q hq
      obtain ⟨u, hu, hr⟩ := hc j q hq
      have : f j = u := by simp [f, hu]
      rw [this]
      exact ⟨hu, hr⟩
    refine ⟨((List.range cs.length).map f).toArray, ?_, by simp, fun i p v hp hv => ?_⟩
    · refine run_firstCells_some (P := P) w sz n ad len cap _ (by simpa using hl) (fun j v hv => ?_)
      have hj : j < cs.length := by have := (List.getElem?_eq_some_iff.1 hv).1; simpa using this
      simp [hj] at hv
      rw [hcell, ← hv]
      exact (hf j cs[j] (List.getElem?_eq_getElem hj)).1
    · have hi := (List.getElem?_eq_some_iff.1 hp).1
      simp [hi] at hv
      rw [← hv]
      exact (hf i p hp).2

theorem append_sound {c : Cx} (hr : HR P c) {t u ty : TypeId} {du : TypeDesc} (hu : P.underlying u = some du) (hdu : ∀ k, du ≠ .int k) {s : PV} {sv x : Value} {new : List PV} {m : Nat} {r : Res} (hs : RV P c s sv)
    (hlen : (Builtin.lenOf x).run P c.w = .ok m c.w)
    (hx : ∀ (w : World) (sz : Nat), w.heap = c.w.heap → new.length = m * sz → 0 < sz → ∃ arr, (Builtin.firstCells sz m x).run P w = .ok arr w ∧ new.length = arr.size ∧ ∀ (i : Nat) p v, new[i]? = some p → arr[i]? = some v → RV P c p v)
    (h : appendP P c.H t s new m = some r) : ∃ v c', (Builtin.append_ #[t, u] ty #[sv, x]).run P c.w = .ok v c'.w ∧ c'.H = c.H.app r ∧ Le c c' ∧ HR P c' ∧ RV P c' r.v v := by
  unfold appendP at h
  obtain ⟨e, ht⟩ : ∃ e, P.underlying t = some (.slice e) := by
    cases hq : P.underlying t with
    | none => simp [hq] at h
    | some d => cases d <;> simp [hq] at h <;> exact ⟨_, rfl⟩
  simp only [ht] at h
  obtain ⟨j, hj, h⟩ := Option.bind_eq_some_iff.1 h
  obtain ⟨hd, i, hi, hsz, hby, hz⟩ := ti_some hj
  split at h
  case isFalse => cases h
  case isTrue hcond =>
  obtain ⟨hnl, hpos, hbpos, hzl, hall⟩ := hcond
  have hzs : j.zero.cells.size = j.size := by rw [← (cells_ofConst (P := P) c j.zero).1]; exact hzl
  -- the new cells, read in whatever world of this heap
  obtain ⟨na, hn1, hn2, hn3⟩ := hx c.w j.size rfl hnl hpos
  obtain ⟨nb, hb1, hb2, hb3⟩ := hx c.w.drew j.size rfl hnl hpos
  rw [← hsz] at hn1 hb1
  have one_of : ∀ (arr : Array Value), new.length = arr.size → (∀ (i : Nat) p v, new[i]? = some p → arr[i]? = some v → RV P c p v) → ∀ v ∈ arr.toList, v.oneCell' = true := by
    intro arr h1 h2 v hv
    obtain ⟨q, hq, rfl⟩ := List.getElem_of_mem hv
    have hq' : q < new.length := by rw [h1]; simpa using hq
    have := h2 q new[q] arr[q] (List.getElem?_eq_getElem hq') (Array.getElem?_eq_getElem _)
    have := this.oneCell (List.all_eq_true.1 hall _ (List.getElem_mem hq'))
    simpa using this
  have bound63 : ∀ q : Nat, q * j.bytes ≤ room → q ≤ 9223372036854775807 := by
    intro q hq
    have : q ≤ q * j.bytes := Nat.le_mul_of_pos_right _ hbpos
    unfold room at hq
    omega
  have fitb : ∀ n cap : Nat, (n + m) * j.bytes ≤ room → cap < n + m → Builtin.nextslicecap (n + m) cap * i.bytes ≤ 281474976710656 := by
    intro n cap h1 h2
    rw [hby]
    exact growslice_fits h2 (by unfold room at h1; exact h1)
  have zsize : ∀ q, (Builtin.zeroCells j.zero.cells q).size = q * j.zero.cells.size := fun q => size_zeroCells _ _
  -- a new row: the cells cs (read as old) and the new ones
  have grow : ∀ (A : Option Addr) (n cap : Nat) (cs : List PV) (old : Array Value), sv = .slice A n cap → cap < n + m → (n + m) * j.bytes ≤ room → cs.length = n * j.size → cs.length = old.size → (∀ (q : Nat) p v, cs[q]? = some p → old[q]? = some v → RV P c p v) →
      (Builtin.firstCells i.size n (.slice A n cap)).run P c.w.drew = .ok old c.w.drew →
      ∃ arr w', (Builtin.append_ #[t, u] ty #[sv, x]).run P c.w = .ok (.slice (some ⟨c.w.heap.size, 0, none⟩) (n + m) (grownCap c.w (n + m) cap e)) w' ∧ w' = c.w.drew.alloc (.cells arr e) ∧ arr.size = grownCap c.w (n + m) cap e * j.size ∧ (cs ++ new).length ≤ arr.size ∧
        (∀ (q : Nat) p v, (cs ++ new)[q]? = some p → arr[q]? = some v → RV P c p v) := by
    intro A n cap cs old hsv hlt hroom hcl hol hrv hold
    subst hsv
    have hge := grownCap_ge c.w (n + m) cap e
    have hrun := append_grows (P := P) c.w t u ty e i du ht hu hdu hi A n cap m x old nb j.zero hz hlen hold hb1 hlt (bound63 _ hroom) (fitb _ _ hroom hlt)
    have hsize : (old ++ nb ++ Builtin.zeroCells j.zero.cells (grownCap c.w (n + m) cap e - (n + m))).size = grownCap c.w (n + m) cap e * j.size := by
      simp only [Array.size_append, zsize, hzs]
      rw [← hol, ← hb2, hcl, hnl, ← Nat.add_mul, ← Nat.add_mul]
      congr 1
      omega
    refine ⟨_, _, hrun, rfl, hsize, ?_, grown_get (P := P) old nb _ cs new hol hb2 hrv hb3⟩
    rw [hsize, List.length_append, hcl, hnl, ← Nat.add_mul]
    exact Nat.mul_le_mul_right _ hge
  cases s with
  | rd cs n full fr =>
    cases full
    · simp at h
    · simp only at h
      split at h
      case isFalse => cases h
      case isTrue hq =>
      obtain ⟨hroom, hcl, hcall, hnm⟩ := hq
      injection h with h
      subst h
      -- what it is
      obtain ⟨A, rfl, hread⟩ : ∃ A, sv = .slice A n n ∧ (cs ≠ [] → ∃ ad, A = some ad ∧ ∀ (i : Nat) q, cs[i]? = some q → ∃ u, c.w.cell? (ad.add i) = some u ∧ RV P c q u) := by
        cases hs with
        | rdNil _ _ _ A cap h1 h2 => rw [h2 rfl]; exact ⟨A, rfl, fun e => absurd rfl e⟩
        | rdRow _ _ _ _ ad cap h1 h2 ho hbs hsm hcs =>
          rw [h2 rfl]
          refine ⟨some ad, rfl, fun _ => ⟨ad, rfl, fun q p hp => ?_⟩⟩
          obtain ⟨u, hu⟩ := Option.isSome_iff_exists.1 (hsm q (List.getElem?_eq_some_iff.1 hp).1)
          exact ⟨u, hu, hcs q p u hp hu⟩
      by_cases hm : m = 0
      · subst hm
        have hn0 : n = 0 := by omega
        subst hn0
        have hnew : new = [] := List.eq_nil_of_length_eq_zero (by simpa using hnl)
        have hcs : cs = [] := List.eq_nil_of_length_eq_zero (by simpa using hcl)
        subst hnew; subst hcs
        have hna : na = #[] := by have := hn2; simp at this; exact Array.eq_empty_of_size_eq_zero this.symm
        subst hna
        have hrun := append_fits (P := P) c.w t u ty e i du ht hu hdu hi A 0 0 0 x #[] hlen hn1 (Nat.le_refl _)
        have hrun' : (Builtin.append_ #[t, u] ty #[.slice A 0 0, x]).run P c.w = .ok (.slice A 0 0) c.w := by
          rw [hrun]
          cases A <;> simp [storeCells]
        obtain ⟨g1, g2⟩ := put_block (c := c) (c' := c.made c.w none ⟨e, 0 + 0, [] ++ []⟩) hr c.H.length ⟨e, 0 + 0, [] ++ []⟩ rfl (by simp [Cx.made]) (by simp [Cx.made]) (fun b hb hlt => by simp only [Cx.made]; rw [List.getElem?_append_left hlt])
          (fun b hb hlt => List.getElem?_eq_none (by simp [Cx.made]; omega)) (by simp [Cx.made]) (fun b hb => setσ_ne _ _ hb) (fun h => absurd h (by omega)) (fun g sz h => by simp [Cx.made, setσ_same] at h) (fun _ _ _ => rfl) (Nat.le_refl _) rfl rfl rfl (.inl ⟨setσ_same _ _ _, rfl⟩)
        refine ⟨_, c.made c.w none ⟨e, 0 + 0, [] ++ []⟩, hrun', ?_, g1, g2, ?_⟩
        · rw [app_new]; rfl
        · exact .sl _ _ _ _ _ _ (by simp [Cx.made]) (fun k _ => Nat.zero_le _) (Nat.le_refl _) (fun k _ _ => .inr ⟨setσ_same _ _ _, rfl, rfl⟩)
      · obtain ⟨old, ho1, ho2, ho3⟩ := firstCells_of (P := P) (c := c) (A := A) hread n i.size n n (by rw [hsz]; exact hcl) c.w.drew rfl
        obtain ⟨arr, w', hrun, rfl, ha1, ha2, ha3⟩ := grow A n n cs old rfl (by omega) hroom hcl ho2 ho3 ho1
        obtain ⟨g1, g2⟩ := made_block hr ⟨e, n + m, cs ++ new⟩ (c.w.drew.alloc (.cells arr e)) c.w.heap.size arr (Nat.le_refl _) (heap_alloc_new c.w.drew _) (fun q hq => Below.heap_alloc c.w.drew _ _ hq) (by simp) rfl rfl rfl ha2 ha3
        refine ⟨_, _, hrun, ?_, g1, g2, ?_⟩
        · rw [app_new]; rfl
        · have hek : ∀ k, (c.made (c.w.drew.alloc (.cells arr e)) (some (c.w.heap.size, arr.size)) ⟨e, n + m, cs ++ new⟩).live c.H.length k → k = ⟨e, n + m, cs ++ new⟩ := by
            intro k hk
            have : (c.made (c.w.drew.alloc (.cells arr e)) (some (c.w.heap.size, arr.size)) ⟨e, n + m, cs ++ new⟩).H[c.H.length]? = some (some k) := hk
            simp [Cx.made] at this
            exact this.symm
          refine .sl _ _ _ _ _ _ (by simp [Cx.made]) (fun k hk => by rw [hek k hk]; exact Nat.le_refl _) (grownCap_ge _ _ _ _) (fun k hk _ => .inl ⟨c.w.heap.size, arr.size, setσ_same _ _ _, .inl ⟨rfl, fun q hq => ?_⟩⟩)
          have ek := hek k hk
          subst ek
          simp only at hq
          rw [hi] at hq
          injection hq with hq
          rw [← hq, hsz, ha1, Nat.zero_add]
  | sl b ver off n =>
    cases off with
    | succ off => simp at h
    | zero =>
    simp only at h
    obtain ⟨k, hk, h⟩ := Option.bind_eq_some_iff.1 h
    obtain ⟨hlive, hver⟩ := blkAt_some hk
    obtain ⟨A, cap, rfl, hbl, hvl, hncap, hsr⟩ : ∃ A cap, sv = .slice A n cap ∧ b < c.H.length ∧ (∀ k, c.live b k → ver ≤ k.ver) ∧ n ≤ cap ∧ SlRel P c k b 0 n A cap := by
      cases hs with
      | sl _ _ _ _ A cap h1 h2 h3 h4 => exact ⟨A, cap, rfl, h1, h2, h3, h4 k hlive hver⟩
    have hke : ∀ q, c.live b q → q = k := by
      intro q hq
      have h7 : c.H[b]? = some (some q) := hq
      rw [hlive] at h7
      injection h7 with h7
      injection h7 with h7
      exact h7.symm
    -- the block, where there is one
    have hblk : ∀ g sz, c.σ b = some (g, sz) → ∃ arr, c.w.heap[g]? = some (.cells arr k.e (0, 0)) ∧ arr.size = sz ∧ k.cs.length ≤ sz ∧ ∀ (q : Nat) p v, k.cs[q]? = some p → arr[q]? = some v → RV P c p v := by
      intro g sz hg
      rcases hr.cells b k hlive with ⟨h1, _⟩ | ⟨g', sz', arr, h1, h2, h3, h4, h5⟩
      · rw [hg] at h1; cases h1
      · rw [hg] at h1
        injection h1 with h1
        injection h1 with h1 h1'
        subst h1; subst h1'
        exact ⟨arr, h2, h3, h4, h5⟩
    -- written in place, in the block that there is
    have inplace : ∀ (k' : Blk) (g : Nat) (arr : Array Value), c.σ b = some (g, arr.size) → c.w.heap[g]? = some (.cells arr k.e (0, 0)) → A = some ⟨g, 0, none⟩ → n + m ≤ cap → (n + m) * j.size ≤ arr.size → k'.e = k.e → ver ≤ k'.ver → k'.cs.length ≤ arr.size →
        (∀ (q : Nat) p v, k'.cs[q]? = some p → (over arr.toList (n * j.size) na.toList)[q]? = some v → RV P c p v) →
        ∃ c', (Builtin.append_ #[t, u] ty #[.slice A n cap, x]).run P c.w = .ok (.slice A (n + m) cap) c'.w ∧ c' = c.turned c'.w b (c.σ b) k' ∧ Le c c' ∧ HR P c' := by
      intro k' g arr hσ hg hA hfit hfit2 he hv hl hrel
      subst hA
      have hrun := append_fits (P := P) c.w t u ty e i du ht hu hdu hi (some ⟨g, 0, none⟩) n cap m x na hlen hn1 hfit
      have hnal : na.toList.length = m * j.size := by rw [Array.length_toList, ← hn2, hnl]
      have hst := run_storeCells_at P g (n * i.size) k.e na.toList 0 arr c.w hg (by rw [hnal, hsz, Nat.add_zero, ← Nat.add_mul]; exact hfit2) (one_of na hn2 hn3)
      simp only [add_own, Nat.zero_add] at hrun
      rw [Nat.add_zero] at hst
      rw [hst, Result.andThen_ok, hsz] at hrun
      have hol : (over arr.toList (n * j.size) na.toList).length = arr.size := by
        rw [over_length _ _ _ (by rw [hnal, ← Nat.add_mul, Array.length_toList]; exact hfit2), Array.length_toList]
      obtain ⟨g1, g2⟩ := turned_block hr b k k' (c.σ b) (c.w.setRow g (over arr.toList (n * j.size) na.toList).toArray) hlive he (by rw [hver]; exact hv) (fun _ => rfl) (fun g' sz' h _ => h)
        (fun g' hg' hne => setRow_other _ _ _ _ (fun e => by subst e; exact hne _ hσ)) (by simp) rfl rfl rfl
        (.inr ⟨g, arr.size, (over arr.toList (n * j.size) na.toList).toArray, hσ, by rw [he]; exact setRow_heap _ _ _ _ _ _ hg, by simpa using hol, hl, fun q p v hp hv => hrel q p v hp (by simpa using hv)⟩)
      exact ⟨_, hrun, rfl, g1, g2⟩
    split at h
    case isTrue hq =>
      obtain ⟨hroom, hcl, he⟩ := hq
      injection h with h
      subst h
      have hsl : ∀ (c' : Cx) (w' : World) (σn : Option (Nat × Nat)) (A' : Option Addr) (cap' : Nat), c' = c.turned w' b σn ⟨e, nx ver (n + m), k.cs ++ new⟩ → n + m ≤ cap' → SlRel P c' ⟨e, nx ver (n + m), k.cs ++ new⟩ b 0 (n + m) A' cap' → RV P c' (.sl b (nx ver (n + m)) 0 (n + m)) (.slice A' (n + m) cap') := by
        intro c' w' σn A' cap' hc' hcap hrel
        subst hc'
        have hat : ∀ q, (c.turned w' b σn ⟨e, nx ver (n + m), k.cs ++ new⟩).live b q → q = ⟨e, nx ver (n + m), k.cs ++ new⟩ := by
          intro q hq
          have : (c.turned w' b σn ⟨e, nx ver (n + m), k.cs ++ new⟩).H[b]? = some (some q) := hq
          simp [Cx.turned, hbl] at this
          exact this.symm
        exact .sl _ _ _ _ _ _ (by simp [Cx.turned, hbl]) (fun q hq => by rw [hat q hq]; exact Nat.le_refl _) hcap (fun q hq _ => by rw [hat q hq]; exact hrel)
      by_cases hfit : n + m ≤ cap
      · -- it fits
        have hdeg : (n = 0 ∧ cap = 0) → ∃ v c', (Builtin.append_ #[t, u] ty #[.slice A n cap, x]).run P c.w = .ok v c'.w ∧ c'.H = c.H.app ⟨.sl b (nx ver (n + m)) 0 (n + m), [(b, ⟨e, nx ver (n + m), k.cs ++ new⟩)], []⟩ ∧ Le c c' ∧ HR P c' ∧ RV P c' (.sl b (nx ver (n + m)) 0 (n + m)) v := by
          rintro ⟨rfl, rfl⟩
          have hm : m = 0 := by omega
          subst hm
          have hnew : new = [] := List.eq_nil_of_length_eq_zero (by simpa using hnl)
          have hcs : k.cs = [] := List.eq_nil_of_length_eq_zero (by simpa using hcl)
          subst hnew
          have hna : na = #[] := by have := hn2; simp at this; exact Array.eq_empty_of_size_eq_zero this.symm
          subst hna
          have hrun := append_fits (P := P) c.w t u ty e i du ht hu hdu hi A 0 0 0 x #[] hlen hn1 (Nat.le_refl _)
          have hrun' : (Builtin.append_ #[t, u] ty #[.slice A 0 0, x]).run P c.w = .ok (.slice A 0 0) c.w := by
            rw [hrun]
            cases A <;> simp [storeCells]
          obtain ⟨g1, g2⟩ := turned_block hr b k ⟨e, nx ver (0 + 0), k.cs ++ []⟩ (c.σ b) c.w hlive he.symm (by rw [hver]; exact nx_le _ _) (fun _ => rfl) (fun g' sz' h _ => h) (fun _ _ _ => rfl) (Nat.le_refl _) rfl rfl rfl (by
            rcases hr.cells b k hlive with ⟨h1, h2⟩ | ⟨g, sz, arr, h1, h2, h3, h4, h5⟩
            · exact .inl ⟨h1, by simpa using h2⟩
            · exact .inr ⟨g, sz, arr, h1, by rw [← he]; exact h2, h3, by simpa using h4, fun q p v hp hv => h5 q p v (by simpa using hp) hv⟩)
          refine ⟨_, c.turned c.w b (c.σ b) ⟨e, nx ver (0 + 0), k.cs ++ []⟩, hrun', by rw [app_upd]; rfl, g1, g2, hsl _ _ _ _ _ rfl (Nat.le_refl _) ?_⟩
          rcases hsr with ⟨g, sz, hσ, h5⟩ | ⟨hσ, h5, h6⟩
          · obtain ⟨arr, q1, q2, q3, q4⟩ := hblk g sz hσ
            refine .inl ⟨g, sz, by simp only [Cx.turned, setσ_same]; exact hσ, ?_⟩
            rcases h5 with ⟨h5, h6⟩ | h5
            · exact .inl ⟨h5, fun q hq => by simpa using h6 q (by rw [he]; exact hq)⟩
            · exact .inr ⟨by omega, by omega, h5.2.2⟩
          · exact .inr ⟨by simp only [Cx.turned, setσ_same]; exact hσ, by omega, by omega⟩
        rcases hsr with ⟨g, sz, hσ, h5⟩ | ⟨hσ, h5, h6⟩
        · rcases h5 with ⟨hA, h6⟩ | h5
          · obtain ⟨arr, q1, q2, q3, q4⟩ := hblk g sz hσ
            subst q2
            have hcap : cap * j.size = arr.size := by
              have := h6 i (by rw [he]; exact hi)
              rw [hsz] at this
              omega
            have hfit2 : (n + m) * j.size ≤ arr.size := by rw [← hcap]; exact Nat.mul_le_mul_right _ hfit
            have hkl : (k.cs ++ new).length = (n + m) * j.size := by rw [List.length_append, hcl, hnl, Nat.add_mul]
            obtain ⟨c', hrun, hc', g1, g2⟩ := inplace ⟨e, nx ver (n + m), k.cs ++ new⟩ g arr hσ q1 hA hfit hfit2 he.symm (nx_le _ _) (by rw [hkl]; exact hfit2) (fun q p v hp hv => by
              rw [over_get _ _ _ (by rw [Array.length_toList, ← hn2, hnl, ← Nat.add_mul, Array.length_toList]; exact hfit2)] at hv
              split at hv
              · rename_i hlt
                change (k.cs ++ new)[q]? = some p at hp
                rw [List.getElem?_append_left (by omega)] at hp
                exact q4 q p v hp (by simpa using hv)
              · rename_i hlt
                change (k.cs ++ new)[q]? = some p at hp
                rw [List.getElem?_append_right (by omega)] at hp
                have hq2 := (List.getElem?_eq_some_iff.1 hp).1
                rw [if_pos (by rw [Array.length_toList, ← hn2]; omega)] at hv
                exact hn3 _ p v hp (by rw [hcl]; simpa using hv))
            refine ⟨_, c', hrun, by rw [hc', app_upd]; rfl, g1, g2, hsl _ _ _ _ _ hc' hfit (.inl ⟨g, arr.size, ?_, .inl ⟨hA, fun q hq => ?_⟩⟩)⟩
            · rw [hc']; simp only [Cx.turned, setσ_same]; exact hσ
            · have := h6 q (by rw [he]; exact hq); exact this
          · exact hdeg ⟨h5.1, h5.2.1⟩
        · exact hdeg ⟨h5, h6⟩
      · -- it grows
        have hread : k.cs ≠ [] → ∃ ad, A = some ad ∧ ∀ (q : Nat) p, k.cs[q]? = some p → ∃ v, c.w.cell? (ad.add q) = some v ∧ RV P c p v := by
          intro hne
          have hn0 : 0 < n := by
            rcases Nat.eq_zero_or_pos n with h0 | h0
            · subst h0; exact absurd (List.eq_nil_of_length_eq_zero (by simpa using hcl)) hne
            · exact h0
          rcases hsr with ⟨g, sz, hσ, h5⟩ | ⟨hσ, h5, h6⟩
          · rcases h5 with ⟨hA, h6⟩ | h5
            · obtain ⟨arr, q1, q2, q3, q4⟩ := hblk g sz hσ
              refine ⟨_, hA, fun q p hp => ?_⟩
              have hlt := (List.getElem?_eq_some_iff.1 hp).1
              have e1 : arr[q]? = some (arr[q]'(by omega)) := Array.getElem?_eq_getElem _
              refine ⟨_, ?_, q4 q p _ hp e1⟩
              rw [add_own, Nat.zero_add]
              simp only [World.cell?, q1]
              exact e1
            · omega
          · omega
        obtain ⟨old, ho1, ho2, ho3⟩ := firstCells_of (P := P) (c := c) (A := A) hread n i.size n cap (by rw [hsz]; exact hcl) c.w.drew rfl
        obtain ⟨arr, w', hrun, rfl, ha1, ha2, ha3⟩ := grow A n cap k.cs old rfl (by omega) hroom hcl ho2 ho3 ho1
        obtain ⟨g1, g2⟩ := turned_block hr b k ⟨e, nx ver (n + m), k.cs ++ new⟩ (some (c.w.heap.size, arr.size)) (c.w.drew.alloc (.cells arr e)) hlive he.symm (by rw [hver]; exact nx_le _ _) (fun h => absurd h (by simp only [hver]; exact nx_ne _ _))
          (fun g sz h hlt => by injection h with h; injection h with h _; omega) (fun g hg _ => Below.heap_alloc c.w.drew _ _ hg) (by simp) rfl rfl rfl (.inr ⟨c.w.heap.size, arr.size, arr, rfl, heap_alloc_new c.w.drew _, rfl, ha2, ha3⟩)
        refine ⟨_, c.turned (c.w.drew.alloc (.cells arr e)) b (some (c.w.heap.size, arr.size)) ⟨e, nx ver (n + m), k.cs ++ new⟩, hrun, by rw [app_upd]; rfl, g1, g2, hsl _ _ _ _ _ rfl (grownCap_ge _ _ _ _) (.inl ⟨c.w.heap.size, arr.size, setσ_same _ _ _, .inl ⟨rfl, fun q hq => ?_⟩⟩)⟩
        simp only at hq
        rw [hi] at hq
        injection hq with hq
        rw [← hq, hsz, ha1, Nat.zero_add]
    case isFalse =>
      split at h
      case isFalse => cases h
      case isTrue hq =>
      obtain ⟨he, hfitc⟩ := hq
      injection h with h
      subst h
      have hsl : ∀ (c' : Cx) (w' : World) (A' : Option Addr) (cap' : Nat), c' = c.turned w' b (c.σ b) { k with cs := over k.cs (n * j.size) new } → n + m ≤ cap' → SlRel P c' { k with cs := over k.cs (n * j.size) new } b 0 (n + m) A' cap' → RV P c' (.sl b ver 0 (n + m)) (.slice A' (n + m) cap') := by
        intro c' w' A' cap' hc' hcap hrel
        subst hc'
        have hat : ∀ q, (c.turned w' b (c.σ b) { k with cs := over k.cs (n * j.size) new }).live b q → q = { k with cs := over k.cs (n * j.size) new } := by
          intro q hq
          have : (c.turned w' b (c.σ b) { k with cs := over k.cs (n * j.size) new }).H[b]? = some (some q) := hq
          simp [Cx.turned, hbl] at this
          exact this.symm
        exact .sl _ _ _ _ _ _ (by simp [Cx.turned, hbl]) (fun q hq => by rw [hat q hq]; exact Nat.le_of_eq hver.symm) hcap (fun q hq _ => by rw [hat q hq]; exact hrel)
      have hov : (over k.cs (n * j.size) new).length = k.cs.length := over_length _ _ _ (by rw [hnl, ← Nat.add_mul]; exact hfitc)
      have hdeg : n = 0 → m = 0 → cap = 0 → ∃ v c', (Builtin.append_ #[t, u] ty #[.slice A n cap, x]).run P c.w = .ok v c'.w ∧ c'.H = c.H.app ⟨.sl b ver 0 (n + m), [(b, { k with cs := over k.cs (n * j.size) new })], []⟩ ∧ Le c c' ∧ HR P c' ∧ RV P c' (.sl b ver 0 (n + m)) v := by
        intro hn0 hm0 hc0
        subst hn0; subst hm0; subst hc0
        have hnew : new = [] := List.eq_nil_of_length_eq_zero (by simpa using hnl)
        subst hnew
        have hna : na = #[] := by have := hn2; simp at this; exact Array.eq_empty_of_size_eq_zero this.symm
        subst hna
        have hrun := append_fits (P := P) c.w t u ty e i du ht hu hdu hi A 0 0 0 x #[] hlen hn1 (Nat.le_refl _)
        have hrun' : (Builtin.append_ #[t, u] ty #[.slice A 0 0, x]).run P c.w = .ok (.slice A 0 0) c.w := by
          rw [hrun]
          cases A <;> simp [storeCells]
        have hsame : over k.cs (0 * j.size) ([] : List PV) = k.cs := by simp [over]
        obtain ⟨g1, g2⟩ := turned_block hr b k { k with cs := over k.cs (0 * j.size) [] } (c.σ b) c.w hlive rfl (Nat.le_refl _) (fun _ => rfl) (fun g' sz' h _ => h) (fun _ _ _ => rfl) (Nat.le_refl _) rfl rfl rfl (by
          rcases hr.cells b k hlive with ⟨h1, h2⟩ | ⟨g, sz, arr, h1, h2, h3, h4, h5⟩
          · exact .inl ⟨h1, by show over k.cs (0 * j.size) [] = []; rw [hsame]; exact h2⟩
          · exact .inr ⟨g, sz, arr, h1, h2, h3, by show (over k.cs (0 * j.size) []).length ≤ sz; rw [hsame]; exact h4, fun q p v hp hv => h5 q p v (by change (over k.cs (0 * j.size) [])[q]? = some p at hp; rwa [hsame] at hp) hv⟩)
        refine ⟨_, c.turned c.w b (c.σ b) { k with cs := over k.cs (0 * j.size) [] }, hrun', by rw [app_upd]; rfl, g1, g2, hsl _ _ _ _ rfl (Nat.le_refl _) ?_⟩
        rcases hsr with ⟨g, sz, hσ, h5⟩ | ⟨hσ, h5, h6⟩
        · refine .inl ⟨g, sz, by simp only [Cx.turned, setσ_same]; exact hσ, ?_⟩
          rcases h5 with ⟨h5, h6⟩ | h5
          · exact .inl ⟨h5, fun q hq => h6 q hq⟩
          · exact .inr ⟨by omega, by omega, h5.2.2⟩
        · exact .inr ⟨by simp only [Cx.turned, setσ_same]; exact hσ, by omega, by omega⟩
      have zero_of : ∀ q : Nat, q * j.size ≤ 0 → q = 0 := by
        intro q hq
        rcases Nat.eq_zero_or_pos q with h0 | h0
        · exact h0
        · have := Nat.mul_pos h0 hpos; omega
      rcases hsr with ⟨g, sz, hσ, h5⟩ | ⟨hσ, h5, h6⟩
      · obtain ⟨arr, q1, q2, q3, q4⟩ := hblk g sz hσ
        subst q2
        rcases h5 with ⟨hA, h6⟩ | h5
        · have hcap : cap * j.size = arr.size := by
            have := h6 i (by rw [he]; exact hi)
            rw [hsz] at this
            omega
          have hfit2 : (n + m) * j.size ≤ arr.size := Nat.le_trans hfitc q3
          have hfit : n + m ≤ cap := Nat.le_of_mul_le_mul_right (by rw [hcap]; exact hfit2) hpos
          obtain ⟨c', hrun, hc', g1, g2⟩ := inplace { k with cs := over k.cs (n * j.size) new } g arr hσ q1 hA hfit hfit2 rfl (Nat.le_of_eq hver.symm) (by rw [hov]; exact q3) (fun q p v hp hv => by
            rw [over_get _ _ _ (by rw [Array.length_toList, ← hn2, hnl, ← Nat.add_mul, Array.length_toList]; exact hfit2)] at hv
            change (over k.cs (n * j.size) new)[q]? = some p at hp
            rw [over_get _ _ _ (by rw [hnl, ← Nat.add_mul]; exact hfitc)] at hp
            rw [Array.length_toList, ← hn2] at hv
            split at hp
            · rename_i hlt; rw [if_pos hlt] at hv; exact q4 q p v hp (by simpa using hv)
            · rename_i hlt
              rw [if_neg hlt] at hv
              split at hp
              · rename_i hlt2; rw [if_pos hlt2] at hv; exact hn3 _ p v hp (by simpa using hv)
              · rename_i hlt2; rw [if_neg hlt2] at hv; exact q4 q p v hp (by simpa using hv))
          refine ⟨_, c', hrun, by rw [hc', app_upd]; rfl, g1, g2, hsl _ _ _ _ hc' hfit (.inl ⟨g, arr.size, ?_, .inl ⟨hA, fun q hq => h6 q hq⟩⟩)⟩
          rw [hc']; simp only [Cx.turned, setσ_same]; exact hσ
        · have hsz0 := h5.2.2 rfl
          have hm0 := zero_of (n + m) (by omega)
          exact hdeg (by omega) (by omega) h5.2.1
      · have hk0 : k.cs = [] := by
          rcases hr.cells b k hlive with ⟨h1, h2⟩ | ⟨g, sz, arr, h1, _⟩
          · exact h2
          · rw [hσ] at h1; cases h1
        have hm0 := zero_of (n + m) (by rw [hk0] at hfitc; simpa using hfitc)
        exact hdeg (by omega) (by omega) h6
  | _ => simp at h

end Go.Proofs.Ytjleanfcjipofaa.Eng
