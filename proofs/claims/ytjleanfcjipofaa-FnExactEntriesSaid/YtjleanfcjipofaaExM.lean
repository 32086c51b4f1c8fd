/- Marks of the laws: what is written, and whether it is there still. Conditions: no mark is above 2^62. -/
import Derived.Test.YtjleanfcjipofaaExA
import Derived.Test.YtjleanfcjipofaaEngY
set_option linter.all false
namespace Go.Proofs.Ytjleanfcjipofaa.Eng
open Go Go.RowKit Go.Proofs
def dig (k : Int) : ByteArray := ⟨[UInt8.ofNat (IntKind.u8.wrap (IntKind.i64.wrap (48 + k.tmod 10))).toNat].toArray⟩
def mtGo : Nat → Int → ByteArray → ByteArray
  | 0, _, out => out
  | f + 1, k, out => if 0 < k then mtGo f (k.tdiv 10) (dig k ++ out) else out
def mt (k : Int) : ByteArray := if k ≤ 0 then ⟨#[109, 48]⟩ else ⟨#[109]⟩ ++ mtGo (k.toNat + 1) k ⟨#[]⟩
def kAt (k : Int) (m i : Nat) : Int := k + (m * i : Nat)
@[simp] theorem kAt_zero (k : Int) (m : Nat) : kAt k m 0 = k := by simp [kAt]
theorem arith_fit (a b c d : Nat) (h : b ≤ d) : (a + b ≤ a + (c + d)) = True := by rw [eq_iff_iff, iff_true]; omega

theorem mtGo_fit : ∀ (f g : Nat) (k : Int) (out : ByteArray), k.toNat < f → k.toNat < g → mtGo f k out = mtGo g k out
  | 0, g, k, out, h, _ => by omega
  | f + 1, 0, k, out, _, h => by omega
  | f + 1, g + 1, k, out, h, h' => by
    simp only [mtGo]
    split
    · rename_i hk
      have e : k.tdiv 10 = k / 10 := Int.tdiv_eq_ediv_of_nonneg (by omega)
      exact mtGo_fit f g _ _ (by rw [e]; omega) (by rw [e]; omega)
    · rfl
set_option maxHeartbeats 4000000 in
theorem l_markText (d n : Nat) (q : Int) (hq : 0 < q) (hq2 : q ≤ 4611686018427387904) (k : Nat) (hk : q.toNat < k) (s : St)
    (hs : shrink (mk 33 4).1 0 s = ⟨[.lit (.int .i64 ((q, ⟨#[]⟩) : Int × ByteArray).1), .bot, .bot, .lit (.string ((q, ⟨#[]⟩) : Int × ByteArray).2), .bot, .bot, .bot, .bot, .bot, .bot, .bot, .bot, .bot, .bot, .bot, .bot, .bot, .bot, .bot, .bot], []⟩) :
    xloop (mk 33 4) 0 (xcode Try.prog (E d) (mk 33) (drawn Try.prog (E d) (qv md)) n (lp Try.f33 0)) k s = some ((fun x => ((.exit 0, ⟨[.bot, .bot, .bot, .lit (.string (mtGo (x.1.toNat + 1) x.1 x.2)), .bot, .bot, .bot, .bot, .bot, .bot, .bot, .bot, .bot, .bot, .bot, .bot, .bot, .bot, .bot, .bot], []⟩) : Ex × St)) ((q, ⟨#[]⟩) : Int × ByteArray)) := by
  refine loop_rule (σ := Int × ByteArray) (fun x => ⟨[.lit (.int .i64 x.1), .bot, .bot, .lit (.string x.2), .bot, .bot, .bot, .bot, .bot, .bot, .bot, .bot, .bot, .bot, .bot, .bot, .bot, .bot, .bot, .bot], []⟩)
    (fun x => ((.exit 0, ⟨[.bot, .bot, .bot, .lit (.string (mtGo (x.1.toNat + 1) x.1 x.2)), .bot, .bot, .bot, .bot, .bot, .bot, .bot, .bot, .bot, .bot, .bot, .bot, .bot, .bot, .bot, .bot], []⟩) : Ex × St)) (fun x => x.1.toNat) (fun x => 0 ≤ x.1 ∧ (x.2.size : Int) + x.1 ≤ 4611686018427387904) ?_ k ((q, ⟨#[]⟩) : Int × ByteArray) s (⟨by simp only; omega, by simp only; have : (⟨#[]⟩ : ByteArray).size = 0 := rfl; omega⟩) (by simpa using hk) (by simpa using hs)
  rintro ⟨a, out⟩ ⟨h0, h1⟩
  simp only at h0 h1
  have e : a.tdiv 10 = a / 10 := Int.tdiv_eq_ediv_of_nonneg h0
  have hw : IntKind.i64.wrap (a / 10) = a / 10 := wrap_id (by omega) (by omega)
  rcases Int.lt_or_le 0 a with h | h
  · left
    have hd : (dig a).size = 1 := rfl
    have hs : (dig a ++ out).size = 1 + out.size := by rw [ByteArray.size_append, hd]
    have hfit : (dig a).size + out.size ≤ 9223372036854775807 := by rw [hd]; omega
    have hg : mtGo (a.toNat + 1) a out = mtGo ((a / 10).toNat + 1) (a / 10) (dig a ++ out) := by
      rw [mtGo, if_pos h, e]
      exact mtGo_fit _ _ _ _ (by omega) (by omega)
    refine ⟨(a / 10, dig a ++ out), ?_, by simp only; omega, ⟨by simp only; omega, by simp only; rw [hs]; omega⟩, by simp only [hg]⟩
    have hx : strBin .add (dig a) out = some (.string (dig a ++ out)) := by simp only [strBin, hfit, if_true]
    unfold dig at hx ⊢
    simp [lp, loopsOf, Try.f33, mk, h, e, hw, hx, bytesOfCells, convP]
  · right
    have ha : a = 0 := by omega
    subst ha
    simp [lp, loopsOf, Try.f33, mk, mtGo]
theorem mtGo_size (q : Int) (h : 0 ≤ q) : ∀ (f : Nat) (out : ByteArray), q.toNat < f → ((mtGo f q out).size : Int) ≤ out.size + q := by
  intro f
  induction f generalizing q with
  | zero => intro out hf; omega
  | succ f ih =>
    intro out hf
    simp only [mtGo]
    split
    · rename_i hk
      have e : q.tdiv 10 = q / 10 := Int.tdiv_eq_ediv_of_nonneg (by omega)
      have hd : (dig q).size = 1 := rfl
      have := ih (q / 10) (by omega) (dig q ++ out) (by omega)
      rw [e]
      rw [ByteArray.size_append, hd] at this
      omega
    · omega
theorem v_markText (d : Nat) (H : Hp) (q : Int) (hq : q ≤ 4611686018427387904) : runK Try.prog md mk d 33 Try.f33 H [.lit (.int .i64 q)] = some (.lit (.string (mt q)), H) := by
  rw [runK_s]
  by_cases h : q ≤ 0
  · simp [Try.f33, mk, mt, h]
  · have hl := fun (s : St) => l_markText d fuel q (by omega) hq fuel (by unfold fuel; omega) s
    simp [lp, loopsOf, Try.f33, mk] at hl
    have hs := mtGo_size q (by omega) (q.toNat + 1) ⟨#[]⟩ (by omega)
    have h0 : (⟨#[]⟩ : ByteArray).size = 0 := rfl
    have hfit : (⟨#[109]⟩ : ByteArray).size + (mtGo (q.toNat + 1) q ⟨#[]⟩).size ≤ 9223372036854775807 := by
      have : (⟨#[109]⟩ : ByteArray).size = 1 := rfl
      omega
    have hx : strBin .add ⟨#[109]⟩ (mtGo (q.toNat + 1) q ⟨#[]⟩) = some (.string (⟨#[109]⟩ ++ mtGo (q.toNat + 1) q ⟨#[]⟩)) := by simp only [strBin, hfit, if_true]
    simp [Try.f33, mk, mt, h, hl, hx]

def mk_EntryS (q : Int) : TEntry := ⟨q, (q + 1), mt (q + 2)⟩
def mkL_EntryS (k : Int) : Nat → List TEntry
  | 0 => []
  | n + 1 => mkL_EntryS k n ++ [mk_EntryS (kAt k 3 n)]
@[simp] theorem mkL_EntryS_len (k : Int) : ∀ n, (mkL_EntryS k n).length = n
  | 0 => rfl
  | n + 1 => by simp [mkL_EntryS, mkL_EntryS_len k n]
theorem mkL_EntryS_get (k : Int) : ∀ (n i : Nat) (h : i < (mkL_EntryS k n).length), (mkL_EntryS k n)[i] = mk_EntryS (kAt k 3 i)
  | 0, i, h => by simp at h
  | n + 1, i, h => by
    simp only [mkL_EntryS_len] at h
    simp only [mkL_EntryS]
    rcases Nat.lt_or_ge i n with h1 | h1
    · rw [List.getElem_append_left (by simpa using h1)]; exact mkL_EntryS_get k n i _
    · have e : i = n := by omega
      subst e
      rw [List.getElem_append_right (by simp)]; simp
set_option maxHeartbeats 2000000 in
theorem l_markEntryS (d n0 : Nat) (H : Hp) (b v n : Nat) (l : List TEntry) (hn : l.length = n) (hlt : b < H.length) (k : Int) (hk : 0 ≤ k) (hk2 : kAt k 3 n ≤ 4611686018427387904) (D : Drawn) (kk : Nat) (hkk : n < kk) (s : St)
    (hs : shrink (mk 18 2).1 H.length s = ⟨[.sl b v 0 n, .lit (.int .i64 (kAt k 3 0)), .bot, .bot, .bot, .lit (.int .i64 0), .bot, .bot, .bot, .bot, .bot, .bot, .bot, .bot, .bot, .bot, .bot, .bot, .bot, .bot, .bot, .bot, .bot, .bot, .bot, .bot, .bot, .bot, .bot, .bot, .bot, .bot, .bot, .bot, .bot], H.set b (some ⟨62, v, rows true (mkL_EntryS k 0 ++ l.drop 0)⟩)⟩) :
    xloop (mk 18 2) H.length (xcode Try.prog (E (d + 1)) (mk 18) D n0 (lp Try.f18 0)) kk s = some (.exit 0, ⟨[.bot, .lit (.int .i64 (kAt k 3 n)), .bot, .bot, .bot, .bot, .bot, .bot, .bot, .bot, .bot, .bot, .bot, .bot, .bot, .bot, .bot, .bot, .bot, .bot, .bot, .bot, .bot, .bot, .bot, .bot, .bot, .bot, .bot, .bot, .bot, .bot, .bot, .bot, .bot], H.set b (some ⟨62, v, rows true (mkL_EntryS k n)⟩)⟩) := by
  subst hn
  refine loop_rule (σ := Nat) (fun i => ⟨[.sl b v 0 l.length, .lit (.int .i64 (kAt k 3 i)), .bot, .bot, .bot, .lit (.int .i64 i), .bot, .bot, .bot, .bot, .bot, .bot, .bot, .bot, .bot, .bot, .bot, .bot, .bot, .bot, .bot, .bot, .bot, .bot, .bot, .bot, .bot, .bot, .bot, .bot, .bot, .bot, .bot, .bot, .bot], H.set b (some ⟨62, v, rows true (mkL_EntryS k i ++ l.drop i)⟩)⟩) (fun _ => _) (fun i => l.length - i) (fun i => i ≤ l.length) ?_ kk 0 s (by simp) (by simpa using hkk) (by simpa using hs)
  intro i hi
  rcases Nat.lt_or_ge i l.length with h | h
  · left
    have hw := wrap_succ h (by unfold kAt at hk2; omega)
    have w0 : IntKind.i64.wrap (kAt k 3 i + 1) = kAt k 3 i + 1 := (wrap_id (by unfold kAt at *; omega) (by unfold kAt at *; omega)).trans (by unfold kAt; omega)
    have w1 : IntKind.i64.wrap (kAt k 3 i + 1 + 1) = kAt k 3 i + 2 := (wrap_id (by unfold kAt at *; omega) (by unfold kAt at *; omega)).trans (by unfold kAt; omega)
    have w2 : IntKind.i64.wrap (kAt k 3 i + 2 + 1) = kAt k 3 (i + 1) := (wrap_id (by unfold kAt at *; omega) (by unfold kAt at *; omega)).trans (by unfold kAt; omega)
    have t2 : kAt k 3 i + 2 ≤ 4611686018427387904 := by unfold kAt at *; omega
    have hcs : rows true (mkL_EntryS k i ++ l.drop i) = rows true (mkL_EntryS k i) ++ (Enc.cells true (l[i]'(by omega)) ++ rows true (l.drop (i + 1))) := by
      rw [rows_append, List.drop_eq_getElem_cons (by omega : i < l.length), rows_cons]
    have h0 : 0 ≤ kAt k 3 i := by unfold kAt; omega
    have h1 : kAt k 3 i + 3 ≤ 4611686018427387904 := by unfold kAt at *; omega
    refine ⟨i + 1, ?_, by omega, by omega, rfl⟩
    simp only [hcs]
    simp [-shrink_s, shrink_id, lp, loopsOf, Try.f18, mk, h, hw, hlt, w0, w1, w2, over_skip, over_skip0, mkL_EntryS, mk_EntryS, rows_append, rows_cons, Nat.add_assoc, v_markText, t2]
  · right
    have e : i = l.length := by omega
    subst e
    simp [-shrink_s, shrink_id, lp, loopsOf, Try.f18, mk]
@[simp] theorem v_markEntryS (d : Nat) (H : Hp) (b v n : Nat) (k : Int) (hk : 0 ≤ k) (hk2 : kAt k 3 n ≤ 4611686018427387904) (hr : IsRowB TEntry H[b]? 62 v n) :
    E (d + 2) 18 [.sl b v 0 n, .lit (.int .i64 k)] H = some (.lit (.int .i64 (kAt k 3 n)), H.set b (some ⟨62, v, rows true (mkL_EntryS k n)⟩)) := by
  have hlt := isRow_lt hr
  obtain ⟨l, hn, hb⟩ := hr
  have hset : H.set b (some ⟨62, v, rows true l⟩) = H := by
    refine List.ext_getElem? (fun i => ?_)
    by_cases e : b = i
    · subst e; rw [List.getElem?_set_self hlt, hb]
    · rw [List.getElem?_set_ne e]
  have h := fun (D : Drawn) (s : St) => l_markEntryS d fuel H b v n l hn hlt k hk hk2 D fuel (by unfold fuel; unfold kAt at hk2; omega) s
  rw [c18]
  simp [-shrink_s, shrink_id, lp, loopsOf, Try.f18, mk, mkL_EntryS, hset, kAt_zero] at h
  simp [-shrink_s, shrink_id, Try.f18, mk, h]
set_option maxHeartbeats 2000000 in
theorem l_heldEntryS (d n0 : Nat) (n : Nat) (k : Int) (hk : 0 ≤ k) (hk2 : kAt k 3 n ≤ 4611686018427387904) (D : Drawn) (kk : Nat) (hkk : n < kk) (s : St)
    (hs : shrink (mk 19 2).1 0 s = ⟨[.rd (rows true (mkL_EntryS k n)) n false false, .lit (.int .i64 (kAt k 3 0)), .bot, .bot, .bot, .lit (.int .i64 0), .bot, .bot, .bot, .bot, .bot, .bot, .bot, .bot, .bot, .bot, .bot, .bot, .bot, .bot, .bot, .bot, .bot, .bot, .bot, .bot, .bot, .bot, .bot, .bot, .bot, .bot, .bot, .bot, .bot, .bot, .bot, .bot, .bot, .bot, .bot], []⟩) :
    xloop (mk 19 2) 0 (xcode Try.prog (E (d + 1)) (mk 19) D n0 (lp (undF [] Try.f19) 0)) kk s = some (.exit 0, ⟨[.bot, .lit (.int .i64 (kAt k 3 n)), .bot, .bot, .bot, .bot, .bot, .bot, .bot, .bot, .bot, .bot, .bot, .bot, .bot, .bot, .bot, .bot, .bot, .bot, .bot, .bot, .bot, .bot, .bot, .bot, .bot, .bot, .bot, .bot, .bot, .bot, .bot, .bot, .bot, .bot, .bot, .bot, .bot, .bot, .bot], []⟩) := by
  refine loop_rule (σ := Nat) (fun i => ⟨[.rd (rows true (mkL_EntryS k n)) n false false, .lit (.int .i64 (kAt k 3 i)), .bot, .bot, .bot, .lit (.int .i64 i), .bot, .bot, .bot, .bot, .bot, .bot, .bot, .bot, .bot, .bot, .bot, .bot, .bot, .bot, .bot, .bot, .bot, .bot, .bot, .bot, .bot, .bot, .bot, .bot, .bot, .bot, .bot, .bot, .bot, .bot, .bot, .bot, .bot, .bot, .bot], []⟩) (fun _ => _) (fun i => n - i) (fun i => i ≤ n) ?_ kk 0 s (by simp) (by simpa using hkk) (by simpa using hs)
  intro i hi
  rcases Nat.lt_or_ge i n with h | h
  · left
    have hw := wrap_succ h (by unfold kAt at hk2; omega)
    have w0 : IntKind.i64.wrap (kAt k 3 i + 1) = kAt k 3 i + 1 := (wrap_id (by unfold kAt at *; omega) (by unfold kAt at *; omega)).trans (by unfold kAt; omega)
    have w1 : IntKind.i64.wrap (kAt k 3 i + 1 + 1) = kAt k 3 i + 2 := (wrap_id (by unfold kAt at *; omega) (by unfold kAt at *; omega)).trans (by unfold kAt; omega)
    have w2 : IntKind.i64.wrap (kAt k 3 i + 2 + 1) = kAt k 3 (i + 1) := (wrap_id (by unfold kAt at *; omega) (by unfold kAt at *; omega)).trans (by unfold kAt; omega)
    have t2 : kAt k 3 i + 2 ≤ 4611686018427387904 := by unfold kAt at *; omega
    have h0 : 0 ≤ kAt k 3 i := by unfold kAt; omega
    have h1 : kAt k 3 i + 3 ≤ 4611686018427387904 := by unfold kAt at *; omega
    have hl : i < (mkL_EntryS k n).length := by simpa using h
    have hne := ne_nil_of_lt hl
    have hra := fun fr => rowAt_lt fr (mkL_EntryS k n) i hl
    refine ⟨i + 1, ?_, by omega, by omega, rfl⟩
    simp [lp, loopsOf, Try.f19, mk, undF, undraw, h, hw, hne, hra, mkL_EntryS_get, mk_EntryS, w0, w1, w2, v_markText, t2]
  · right
    have e : i = n := by omega
    subst e
    simp [lp, loopsOf, Try.f19, mk, undF, undraw]
@[simp] theorem v_heldEntryS (d : Nat) (H : Hp) (n n1 n2 : Nat) (h1 : n1 = n) (h2 : n2 = n) (k : Int) (hk : 0 ≤ k) (hk2 : kAt k 3 n ≤ 4611686018427387904) :
    runK Try.prog md mk (d + 1) 19 Try.f19 H [.rd (rows true (mkL_EntryS k n1)) n2 false false, .lit (.int .i64 k)] = some (.lit (.int .i64 (kAt k 3 n)), H) := by
  subst h1 h2
  have h := fun (D : Drawn) (s : St) => l_heldEntryS d fuel n2 k hk hk2 D fuel (by unfold fuel; unfold kAt at hk2; omega) s
  rw [runK_s]
  rw [und_ok [] (by kernel_rfl)]
  simp [lp, loopsOf, Try.f19, mk, undF, undraw, kAt_zero] at h
  simp [Try.f19, mk, undF, undraw, h]
def mk_AppliedS (q : Int) : TApplied := ⟨q, (q + 1), (q + 2), ⟨(q + 3), (q + 4), mt (q + 5)⟩⟩
def mkL_AppliedS (k : Int) : Nat → List TApplied
  | 0 => []
  | n + 1 => mkL_AppliedS k n ++ [mk_AppliedS (kAt k 6 n)]
@[simp] theorem mkL_AppliedS_len (k : Int) : ∀ n, (mkL_AppliedS k n).length = n
  | 0 => rfl
  | n + 1 => by simp [mkL_AppliedS, mkL_AppliedS_len k n]
theorem mkL_AppliedS_get (k : Int) : ∀ (n i : Nat) (h : i < (mkL_AppliedS k n).length), (mkL_AppliedS k n)[i] = mk_AppliedS (kAt k 6 i)
  | 0, i, h => by simp at h
  | n + 1, i, h => by
    simp only [mkL_AppliedS_len] at h
    simp only [mkL_AppliedS]
    rcases Nat.lt_or_ge i n with h1 | h1
    · rw [List.getElem_append_left (by simpa using h1)]; exact mkL_AppliedS_get k n i _
    · have e : i = n := by omega
      subst e
      rw [List.getElem_append_right (by simp)]; simp
set_option maxHeartbeats 2000000 in
theorem l_markAppliedS (d n0 : Nat) (H : Hp) (b v n : Nat) (l : List TApplied) (hn : l.length = n) (hlt : b < H.length) (k : Int) (hk : 0 ≤ k) (hk2 : kAt k 6 n ≤ 4611686018427387904) (D : Drawn) (kk : Nat) (hkk : n < kk) (s : St)
    (hs : shrink (mk 17 2).1 H.length s = ⟨[.sl b v 0 n, .lit (.int .i64 (kAt k 6 0)), .bot, .bot, .bot, .lit (.int .i64 0), .bot, .bot, .bot, .bot, .bot, .bot, .bot, .bot, .bot, .bot, .bot, .bot, .bot, .bot, .bot, .bot, .bot, .bot, .bot, .bot, .bot, .bot, .bot, .bot, .bot, .bot, .bot, .bot, .bot, .bot, .bot, .bot, .bot, .bot, .bot, .bot, .bot, .bot, .bot, .bot, .bot, .bot, .bot, .bot, .bot, .bot, .bot, .bot, .bot, .bot, .bot, .bot, .bot], H.set b (some ⟨64, v, rows true (mkL_AppliedS k 0 ++ l.drop 0)⟩)⟩) :
    xloop (mk 17 2) H.length (xcode Try.prog (E (d + 1)) (mk 17) D n0 (lp Try.f17 0)) kk s = some (.exit 0, ⟨[.bot, .lit (.int .i64 (kAt k 6 n)), .bot, .bot, .bot, .bot, .bot, .bot, .bot, .bot, .bot, .bot, .bot, .bot, .bot, .bot, .bot, .bot, .bot, .bot, .bot, .bot, .bot, .bot, .bot, .bot, .bot, .bot, .bot, .bot, .bot, .bot, .bot, .bot, .bot, .bot, .bot, .bot, .bot, .bot, .bot, .bot, .bot, .bot, .bot, .bot, .bot, .bot, .bot, .bot, .bot, .bot, .bot, .bot, .bot, .bot, .bot, .bot, .bot], H.set b (some ⟨64, v, rows true (mkL_AppliedS k n)⟩)⟩) := by
  subst hn
  refine loop_rule (σ := Nat) (fun i => ⟨[.sl b v 0 l.length, .lit (.int .i64 (kAt k 6 i)), .bot, .bot, .bot, .lit (.int .i64 i), .bot, .bot, .bot, .bot, .bot, .bot, .bot, .bot, .bot, .bot, .bot, .bot, .bot, .bot, .bot, .bot, .bot, .bot, .bot, .bot, .bot, .bot, .bot, .bot, .bot, .bot, .bot, .bot, .bot, .bot, .bot, .bot, .bot, .bot, .bot, .bot, .bot, .bot, .bot, .bot, .bot, .bot, .bot, .bot, .bot, .bot, .bot, .bot, .bot, .bot, .bot, .bot, .bot], H.set b (some ⟨64, v, rows true (mkL_AppliedS k i ++ l.drop i)⟩)⟩) (fun _ => _) (fun i => l.length - i) (fun i => i ≤ l.length) ?_ kk 0 s (by simp) (by simpa using hkk) (by simpa using hs)
  intro i hi
  rcases Nat.lt_or_ge i l.length with h | h
  · left
    have hw := wrap_succ h (by unfold kAt at hk2; omega)
    have w0 : IntKind.i64.wrap (kAt k 6 i + 1) = kAt k 6 i + 1 := (wrap_id (by unfold kAt at *; omega) (by unfold kAt at *; omega)).trans (by unfold kAt; omega)
    have w1 : IntKind.i64.wrap (kAt k 6 i + 1 + 1) = kAt k 6 i + 2 := (wrap_id (by unfold kAt at *; omega) (by unfold kAt at *; omega)).trans (by unfold kAt; omega)
    have w2 : IntKind.i64.wrap (kAt k 6 i + 2 + 1) = kAt k 6 i + 3 := (wrap_id (by unfold kAt at *; omega) (by unfold kAt at *; omega)).trans (by unfold kAt; omega)
    have w3 : IntKind.i64.wrap (kAt k 6 i + 3 + 1) = kAt k 6 i + 4 := (wrap_id (by unfold kAt at *; omega) (by unfold kAt at *; omega)).trans (by unfold kAt; omega)
    have w4 : IntKind.i64.wrap (kAt k 6 i + 4 + 1) = kAt k 6 i + 5 := (wrap_id (by unfold kAt at *; omega) (by unfold kAt at *; omega)).trans (by unfold kAt; omega)
    have w5 : IntKind.i64.wrap (kAt k 6 i + 5 + 1) = kAt k 6 (i + 1) := (wrap_id (by unfold kAt at *; omega) (by unfold kAt at *; omega)).trans (by unfold kAt; omega)
    have t5 : kAt k 6 i + 5 ≤ 4611686018427387904 := by unfold kAt at *; omega
    have hcs : rows true (mkL_AppliedS k i ++ l.drop i) = rows true (mkL_AppliedS k i) ++ (Enc.cells true (l[i]'(by omega)) ++ rows true (l.drop (i + 1))) := by
      rw [rows_append, List.drop_eq_getElem_cons (by omega : i < l.length), rows_cons]
    have h0 : 0 ≤ kAt k 6 i := by unfold kAt; omega
    have h1 : kAt k 6 i + 6 ≤ 4611686018427387904 := by unfold kAt at *; omega
    refine ⟨i + 1, ?_, by omega, by omega, rfl⟩
    simp only [hcs]
    simp [-shrink_s, shrink_id, lp, loopsOf, Try.f17, mk, h, hw, hlt, w0, w1, w2, w3, w4, w5, over_skip, over_skip0, mkL_AppliedS, mk_AppliedS, rows_append, rows_cons, Nat.add_assoc, v_markText, t5]
  · right
    have e : i = l.length := by omega
    subst e
    simp [-shrink_s, shrink_id, lp, loopsOf, Try.f17, mk]
@[simp] theorem v_markAppliedS (d : Nat) (H : Hp) (b v n : Nat) (k : Int) (hk : 0 ≤ k) (hk2 : kAt k 6 n ≤ 4611686018427387904) (hr : IsRowB TApplied H[b]? 64 v n) :
    E (d + 2) 17 [.sl b v 0 n, .lit (.int .i64 k)] H = some (.lit (.int .i64 (kAt k 6 n)), H.set b (some ⟨64, v, rows true (mkL_AppliedS k n)⟩)) := by
  have hlt := isRow_lt hr
  obtain ⟨l, hn, hb⟩ := hr
  have hset : H.set b (some ⟨64, v, rows true l⟩) = H := by
    refine List.ext_getElem? (fun i => ?_)
    by_cases e : b = i
    · subst e; rw [List.getElem?_set_self hlt, hb]
    · rw [List.getElem?_set_ne e]
  have h := fun (D : Drawn) (s : St) => l_markAppliedS d fuel H b v n l hn hlt k hk hk2 D fuel (by unfold fuel; unfold kAt at hk2; omega) s
  rw [c17]
  simp [-shrink_s, shrink_id, lp, loopsOf, Try.f17, mk, mkL_AppliedS, hset, kAt_zero] at h
  simp [-shrink_s, shrink_id, Try.f17, mk, h]
end Go.Proofs.Ytjleanfcjipofaa.Eng
