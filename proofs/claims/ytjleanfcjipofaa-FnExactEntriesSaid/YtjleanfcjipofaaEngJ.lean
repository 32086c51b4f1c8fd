/- The engine, part J: conversions, make, built-ins; all operations together. No condition. -/
import Derived.Test.YtjleanfcjipofaaEngI
set_option linter.all false
namespace Go.Proofs.Ytjleanfcjipofaa.Eng
open Go Go.RowKit

variable {P : Program}

theorem bytesOfCells_some : ∀ {cs : List PV} {l : List UInt8}, bytesOfCells cs = some l → ∃ ns : List Int, cs = ns.map (fun n => .lit (.int .u8 n)) ∧ l = ns.map fun n => UInt8.ofNat n.toNat
  | [], l, h => by simp [bytesOfCells] at h; subst h; exact ⟨[], rfl, rfl⟩
  | p :: r, l, h => by
    unfold bytesOfCells at h
    split at h
    · rename_i e; cases e
    · rename_i n r' e
      injection e with e1 e2
      subst e1; subst e2
      obtain ⟨l', hl, rfl⟩ := Option.map_eq_some_iff.1 h
      obtain ⟨ns, h1, h2⟩ := bytesOfCells_some hl
      exact ⟨n :: ns, by simp [h1], by simp [h2]⟩
    · cases h

/-- A conversion: the value, in the same world or in one with a row of bytes more. -/
theorem convP_sound {c : Cx} (hr : HR P c) (hb : c.base ≤ c.w.heap.size) {src dst : TypeId} {x q : PV} {v : Value} (hv : RV P c x v) (h : convP P c.H src dst x = some q) :
    ∃ u c', (convert src dst v).run P c.w = .ok u c'.w ∧ c'.H = c.H ∧ Le c c' ∧ HR P c' ∧ RV P c' q u := by
  unfold convP at h
  rw [Option.bind_eq_some_iff] at h; obtain ⟨s, hs, h⟩ := h
  rw [Option.bind_eq_some_iff] at h; obtain ⟨d, hd, h⟩ := h
  have same : ∀ u, (convert src dst v).run P c.w = .ok u c.w → RV P c q u → ∃ u c', (convert src dst v).run P c.w = .ok u c'.w ∧ c'.H = c.H ∧ Le c c' ∧ HR P c' ∧ RV P c' q u := fun u h1 h2 => ⟨u, c, h1, rfl, Le.refl c, hr, h2⟩
  split at h
  · rename_i k n
    injection h with h
    subst h
    rw [hv.litInv.1] at same ⊢
    refine same _ ?_ (.lit _ rfl)
    simp [convert, run_underlying hs, run_underlying hd, Conv.intToInt]
  · rename_i t
    injection h with h
    subst h
    rw [hv.litInv.1] at same ⊢
    refine same _ ?_ (.lit _ rfl)
    simp [convert, run_underlying hs, run_underlying hd]
  · rename_i e t
    obtain ⟨he, hq⟩ : P.underlying e = some (.int .u8) ∧ q = .rd (t.data.toList.map fun b => .lit (.int .u8 b.toNat)) t.size false true := by
      split at h
      · rename_i hq
        injection h with h
        exact ⟨hq, h.symm⟩
      · cases h
    subst hq
    rw [hv.litInv.1]
    obtain ⟨g1, g2⟩ := world_on hr (Lib.bytesWorld c.w e t) (fun i hi => Lib.bytesWorld_at_old c.w e t i hi) (by rw [Lib.bytesWorld_size]; omega) rfl rfl rfl
    have hcell : ∀ i, i < t.size → (Lib.bytesWorld c.w e t).cell? ((⟨c.w.heap.size, 0, none⟩ : Addr).add i) = some (.int .u8 (t.data.toList.getD i 0).toNat) := by
      intro i hi
      rw [add_own, Nat.zero_add]
      exact Lib.bytesWorld_cell c.w e t i hi
    have hsz : t.data.toList.length = t.size := by rw [Array.length_toList]; rfl
    refine ⟨_, { c with w := Lib.bytesWorld c.w e t }, Lib.run_convert_string_bytes c.w src dst e t hs hd he, rfl, g1, g2, .rdRow _ _ _ _ _ _ (grownCap_ge _ _ _ _) (fun e => by cases e) ?_ (fun _ => hb) (fun i hi => ?_) (fun i p u hp hu => ?_)⟩
    · rintro ⟨b, k, sz, hk, hσ⟩
      exact absurd (hr.lt (b := b) hk hσ) (by simp)
    · rw [List.length_map, hsz] at hi
      show ((Lib.bytesWorld c.w e t).cell? _).isSome = true
      rw [hcell i hi]
      rfl
    · rw [List.getElem?_map] at hp
      obtain ⟨b, hb', rfl⟩ := Option.map_eq_some_iff.1 hp
      have hi := (List.getElem?_eq_some_iff.1 hb').1
      rw [hsz] at hi
      have hu' : (Lib.bytesWorld c.w e t).cell? ((⟨c.w.heap.size, 0, none⟩ : Addr).add i) = some u := hu
      rw [hcell i hi] at hu'
      injection hu' with hu'
      subst hu'
      have : t.data.toList.getD i 0 = b := by rw [List.getD_eq_getElem?_getD, hb']; rfl
      rw [this]
      exact .lit _ rfl
  · rename_i e
    split at h
    · rename_i he hi
      rename_i i
      split at h
      case isFalse => cases h
      case isTrue hsz =>
      rw [Option.bind_eq_some_iff] at h; obtain ⟨cn, hcn, h⟩ := h
      obtain ⟨cs, n⟩ := cn
      split at h
      case isFalse => cases h
      case isTrue hlen =>
      simp only at hlen h
      obtain ⟨l, hl, rfl⟩ := Option.map_eq_some_iff.1 h
      obtain ⟨ns, rfl, rfl⟩ := bytesOfCells_some hl
      obtain ⟨A, cap, rfl, hcap, hread⟩ := sliceOf_reads hr hv hcn
      refine same (.string ⟨(ns.map fun n => UInt8.ofNat n.toNat).toArray⟩) ?_ (.lit _ rfl)
      rw [run_convert_bytes_string c.w src dst e A n cap hs he hd]
      by_cases hne : ns = []
      · subst hne
        have hn0 : n = 0 := by simpa using hlen.symm
        subst hn0
        cases A with
        | none => simp [Conv.bytesToString]; rfl
        | some a => simp [Conv.bytesToString, loadCells, loadCellsFrom]; rfl
      · obtain ⟨ad, rfl, hc⟩ := hread (by simpa using hne)
        have hn : n = ns.length := by simpa using hlen.symm
        subst hn
        rw [run_bytesToString c.w ad ns.length cap ns ?_]
        · congr 2
          rw [foldl_push_bytes]
          show ByteArray.mk (#[] ++ _) = _
          rw [Array.empty_append]
        · have := run_loadCells_list (P := P) (w := c.w) ad (ns.map (Value.int .u8)) (fun j v hj => by
            rw [List.getElem?_map] at hj
            obtain ⟨n, hn, rfl⟩ := Option.map_eq_some_iff.1 hj
            obtain ⟨u, hu, hrv⟩ := hc j (.lit (.int .u8 n)) (by rw [List.getElem?_map, hn]; rfl)
            rw [hu, hrv.litInv.1])
          simpa using this
    · cases h
  · cases h

theorem makeSlice_sound {c : Cx} (hr : HR P c) {t : TypeId} {l q : PV} {lv qv : Value} {r : Res} (hl : RV P c l lv) (hq : RV P c q qv) (h : makeSliceP P c.H t l q = some r) :
    ∃ v c', (Instr.makeSlice t lv qv).run P c.w = .ok v c'.w ∧ c'.H = c.H.app r ∧ Le c c' ∧ HR P c' ∧ RV P c' r.v v := by
  unfold makeSliceP at h
  split at h
  · rename_i e k1 n1 k2 n2 ht
    rw [Option.bind_eq_some_iff] at h; obtain ⟨j, hj, h⟩ := h
    split at h
    case isFalse => cases h
    case isTrue hc =>
    obtain ⟨hlc, h0, hroom, h63, hpos, hzl⟩ := hc
    injection h with h
    subst h
    obtain ⟨hd, i, hi, hsz, hby, hz⟩ := ti_some hj
    rw [hl.litInv.1, hq.litInv.1]
    have hzs : j.zero.cells.size = j.size := by rw [← (cells_ofConst (P := P) c j.zero).1]; exact hzl
    have hrun := run_make (P := P) c.w t e i j.zero ht hi hz k1 k2 n1 n2 h0 hlc (by rw [hby, Int.mul_comm]; unfold room at hroom; omega) h63
    rw [hsz] at hrun
    obtain ⟨n, rfl⟩ := Int.eq_ofNat_of_zero_le h0
    obtain ⟨m, rfl⟩ := Int.eq_ofNat_of_zero_le (Int.le_trans h0 hlc)
    simp only [Int.toNat_natCast] at hrun ⊢
    have hnm : n ≤ m := by omega
    obtain ⟨z1, z2⟩ := zeros_rv (P := P) (c := c) j.zero m j.size hzl hpos j.zero.cells (fun _ => rfl)
    have hlen : ((List.replicate n (cellsOf (ofConst j.zero))).flatten).length = n * j.size := by simp [hzl]
    have hpre : ∀ (q : Nat) p, ((List.replicate n (cellsOf (ofConst j.zero))).flatten)[q]? = some p → ((List.replicate m (cellsOf (ofConst j.zero))).flatten)[q]? = some p := by
      intro q p hp
      rw [rep_get, hzl] at hp ⊢
      split at hp
      · rename_i hlt
        rw [if_pos (Nat.lt_of_lt_of_le hlt (Nat.mul_le_mul_right _ hnm))]
        exact hp
      · cases hp
    obtain ⟨g1, g2⟩ := made_block hr ⟨e, 0, (List.replicate n (cellsOf (ofConst j.zero))).flatten⟩ (c.w.alloc (.cells (madeCells j.zero.cells (m * j.size)) e)) c.w.heap.size (madeCells j.zero.cells (m * j.size)) (Nat.le_refl _) (heap_alloc_new _ _)
      (fun q hq => Below.heap_alloc _ _ _ hq) (by simp) rfl rfl rfl (by rw [size_madeCells]; show _ ≤ _; rw [hlen]; exact Nat.mul_le_mul_right _ hnm) (fun q p u hp hu => z2 q p u (hpre q p hp) hu)
    refine ⟨_, _, hrun, by rw [app_new]; rfl, g1, g2, .sl _ _ _ _ _ _ (by simp [Cx.made]) (fun k _ => Nat.zero_le _) hnm (fun k hk _ => .inl ⟨c.w.heap.size, _, setσ_same _ _ _, .inl ⟨rfl, fun q hq => ?_⟩⟩)⟩
    have ek : k = ⟨e, 0, (List.replicate n (cellsOf (ofConst j.zero))).flatten⟩ := by
      have : (c.made (c.w.alloc (.cells (madeCells j.zero.cells (m * j.size)) e)) (some (c.w.heap.size, (madeCells j.zero.cells (m * j.size)).size)) ⟨e, 0, (List.replicate n (cellsOf (ofConst j.zero))).flatten⟩).H[c.H.length]? = some (some k) := hk
      simp [Cx.made] at this
      exact this.symm
    subst ek
    simp only at hq
    rw [hi] at hq
    injection hq with hq
    rw [← hq, hsz, size_madeCells, Nat.zero_add]
  · cases h

theorem buildSlice_sound {c : Cx} (hr : HR P c) (hb : c.base ≤ c.w.heap.size) {t e : TypeId} {j : TI} {len : Nat} {parts : List (Nat × PV)} {vals : Array (Nat × Value)} {cs : List PV} (ht : P.underlying t = some (.slice e)) (hj : ti P e = some j)
    (hbig : len * j.size ≤ 16777216) (hpos : 0 < j.size) (hzl : (cellsOf (ofConst j.zero)).length = j.size)
    (hlen : vals.toList.length = parts.length) (hv : ∀ (i : Nat) p v, parts[i]? = some p → vals.toList[i]? = some v → p.1 = v.1 ∧ RV P c p.2 v.2)
    (h : fillP (fun i => some (i * j.size, j.size)) (List.replicate len (cellsOf (ofConst j.zero))).flatten parts = some cs) :
    ∃ v c', (Instr.buildSlice t len vals).run P c.w = .ok v c'.w ∧ c'.H = c.H ∧ Le c c' ∧ HR P c' ∧ RV P c' (.rd cs len true true) v := by
  obtain ⟨hd, i, hi, hsz, hby, hz⟩ := ti_some hj
  obtain ⟨z1, z2⟩ := zeros_rv (P := P) (c := c) j.zero len j.size hzl hpos (if len * j.size = 0 then #[] else j.zero.cells) (fun hp => if_neg (by omega))
  obtain ⟨arr, ha, hs, hc⟩ := fill_sound (c := c) (fun i => some (i * j.size, j.size)) parts vals.toList _ cs _ hlen hv z1 z2 h
  obtain ⟨c', h1, h2, h3, h4, h5⟩ := fresh_rd hr hb e arr cs len true hs hc
  refine ⟨_, c', ?_, h2, h3, h4, h5⟩
  have hno : ¬ (len * j.size > 2 ^ 24) := by omega
  have hno' : ¬ (16777216 < len * j.size) := by omega
  rw [h1]
  by_cases h0 : len * j.size = 0
  · rw [if_pos h0] at ha
    simp [Instr.buildSlice, run_underlying ht, sizeOf, typeInfo, hi, hsz, h0, newRow] at ha ⊢
    simp [ha]
  · rw [if_neg h0] at ha
    simp [Instr.buildSlice, run_underlying ht, sizeOf, typeInfo, zeroValue, hz, hi, hsz, h0, newRow, hno'] at ha ⊢
    simp [ha]

end Go.Proofs.Ytjleanfcjipofaa.Eng
