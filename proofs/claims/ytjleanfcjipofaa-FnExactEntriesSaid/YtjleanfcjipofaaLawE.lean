/- The law of Entries, run. Condition: its argument is data of the program. -/
import Derived.Test.YtjleanfcjipofaaFnB
import Derived.Test.YtjleanfcjipofaaExM
set_option linter.all false
namespace Go.Proofs.Ytjleanfcjipofaa.Eng
open Go Go.RowKit Go.Proofs
set_option maxHeartbeats 2000000 in
@[simp] theorem v_laws_FnExactEntries (d : Nat) (H : Hp) (aList : List TApplied) (n_aList : Nat) (hn_aList : n_aList = aList.length) (hw : Enc.wf aList) :
    runK Try.prog md mk (d + 3) 4 Try.f4 H [.rd (rows true aList) n_aList false false] = some (.lit (.bool true), H) := by
  subst hn_aList
  rw [runK_s]
  have hp : Pre 1048576 := ⟨by decide, by decide⟩
  by_cases h : szV (aList.length + (aList.map fun y => msr_TApplied y).sum) 1048576 < 0
  · simp [Try.f4, mk, v_szAppliedS, hw, hp, h]
  · have hm := szV_le h
    have hl : aList.length ≤ 1048576 := by omega
    have hl2 : aList.length ≤ 9223372036854775807 := by omega
    have hE := entL_len aList
    have hE2 : (entL aList).length ≤ 9223372036854775807 := by omega
    have a1 : kAt 1 6 aList.length ≤ 4611686018427387904 := by unfold kAt; omega
    have a2 : ¬ (kAt 1 6 aList.length < 0) := by unfold kAt; omega
    have b1 : kAt 1 3 (entL aList).length ≤ 4611686018427387904 := by unfold kAt; omega
    have b2 : ¬ (kAt 1 3 (entL aList).length < 0) := by unfold kAt; omega
    simp [Try.f4, mk, v_szAppliedS, hw, hp, h, hl, hl2, hE2, a1, a2, b1, b2]

end Go.Proofs.Ytjleanfcjipofaa.Eng
