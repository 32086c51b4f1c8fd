/- FnExactEntries: whatever the arguments, the law returns true and leaves them as they were. No condition. -/
import Derived.Test.YtjleanfcjipofaaRows
import Derived.Test.YtjleanfcjipofaaLawE
import Derived.WalkKit
import Derived.ProofKit
import Derived.OpenShut
import Derived.ShutString
import Derived.ChangeOld
import Derived.Below
import Derived.SizedLaws
set_option linter.all false
namespace Go.Proofs.Ytjleanfcjipofaa.Eng
open Go Go.Proofs
open Go.ChangeShapes Go.WideShapes Go.ChangeAt Go.RowKit
theorem op3 : Opens Try.prog Int 3 := opens_int Try.underlying3 (by kernel_rfl)
theorem op9 : Opens Try.prog ByteArray 9 := opens_string Try.underlying9 (by kernel_rfl)
theorem op58 : Opens Try.prog TEntry 58 := by
  refine opens_as TEntry.of rfl of_TEntry wfof_TEntry ?_
  refine opens_struct Try.underlying58 (by kernel_rfl) ?_
  refine opens_field op3 rfl ?_
  refine opens_field op3 rfl ?_
  refine opens_field op9 rfl ?_
  exact opens_none
theorem op60 : Opens Try.prog TApplied 60 := by
  refine opens_as TApplied.of rfl of_TApplied wfof_TApplied ?_
  refine opens_struct Try.underlying60 (by kernel_rfl) ?_
  refine opens_field op3 rfl ?_
  refine opens_field op3 rfl ?_
  refine opens_field op3 rfl ?_
  refine opens_field op58 rfl ?_
  exact opens_none
theorem op29 : Opens Try.prog (List TApplied) 29 := opens_slice Try.underlying29 op60 (by kernel_rfl)
theorem mixed : Try.prog.follows .mixedOrders = true := by kernel_rfl
theorem ownKn : ownKnob Try.prog.godebug = none := by kernel_rfl
theorem laidOut : laidOutB Try.prog = true := by kernel_rfl
set_option maxRecDepth 100000 in
set_option maxHeartbeats 2000000 in
theorem lifted (os : Os) (started : os.Started) (H : Type) (enc : TypeId × Value → H) :
    ReturnsInHanded {} Try.checked os 4 .any (Rows.fnExactEntriesSpec.pre6 enc Try.prog Try.f4 Rows.fnExactEntriesRow.domain false) (Rows.fnExactEntriesSpec.post enc Try.prog Try.f4 false true false false) := by
  refine returnsInHanded_of_change_sized (C := Try.checked) ownKn started (by kernel_rfl) Try.func4
    (ChangeSpec.witness6 (enc := enc) (C := Try.checked) false ⟨#[], #[(.slice none 0 0)], []⟩ 8 (by kernel_rfl) (by kernel_rfl) (by kernel_rfl) (by kernel_rfl)) ?_
  intro W base args ds gs before hval0 hW hcnd hsz0 _
  have hval : ∀ (j : Nat) t v, Try.f4.params[j]? = some t → args[j]? = some v → Value.okWide Try.prog W .any base t v := hval0
  have hW' := hW
  obtain ⟨p, q, hA0, hV, rfl, hfz, hnd⟩ := hW
  have hA : DataW.TrodAll enc Try.prog W 0 (fun _ => true) true Try.f4.params.toList args.toList ds p := hA0
  rw [Try.params4] at hA hval
  obtain ⟨v0, vs0, d0, ds0, p0, q0, hargs0, rfl, rfl, h0, r0⟩ := trodAll_cons hA
  obtain ⟨rfl, rfl, rfl⟩ := trodAll_nil r0
  obtain rfl : args = #[v0] := by cases args; simp_all
  obtain ⟨rfl, rfl⟩ := trodVars_none hV
  have k0 := h0
  have lt0 : ∀ x ∈ p0, x.block < W.heap.size := by obtain ⟨m, hm⟩ := k0; exact DataW.trod_lt m _ _ _ hm
  obtain ⟨a0, len0, cap0, rfl⟩ := okWide_slice Try.underlying29 (hval 0 29 v0 rfl rfl)
  obtain ⟨fu0, hf0⟩ := h0
  obtain ⟨x0, hx0, hr0⟩ := op29.2 ⟨fun _ => none, [], W, W.heap.size⟩ rfl rfl hf0
  have he : ∀ d, E (d + 3 + 1) 4 [.rd (rows true x0) x0.length false false] [] = some (.lit (.bool true), []) := by
    intro d
    rw [c4]
    simp [v_laws_FnExactEntries, hx0]
  have hcalls := ((ev_ok mixed md mk (0 + 3 + 1)).1 4 [.rd (rows true x0) x0.length false false] [] _ (he 0)).2
  clear hA0 hval0 hsz0
  refine (law_calls hcalls W #[.slice a0 len0 cap0] rfl (fun i p u hp hu => ?_)).mono fun e W' ⟨he, bel⟩ => ?_
  · match i, hp, hu with
    | 0, hp, hu => simp at hp hu; subst hp hu; exact hr0.2 0 _ _ (by simp [cells_Row]) (by simp [Value.cells])
    | i + 1, hp, hu => simp at hp
  · subst he
    exact ⟨_, rfl, _, _, _, [], _, [], hW', trodAll_mk1 (shut_bool Try.underlying4 _), (trodAll_cons_mk (Below.trod laidOut (by kernel_rfl) (of_decide_eq_true (by kernel_rfl)) k0 bel lt0) trodAll_mk0), rfl, bel.frame _, fun h => by cases h⟩
theorem rowOver : Rows.fnExactEntriesRow.holds Try.pinned (OpenSpec.ofChange Rows.fnExactEntriesSpec) :=
  OpenClaim.holds_of_wide 4 Try.f4 rfl rfl rfl rfl rfl rfl rfl ⟨rfl, rfl, rfl, rfl, rfl⟩ rfl rfl rfl rfl rfl (by kernel_rfl) Try.func4 (by kernel_rfl)
    (of_decide_eq_true (by kernel_rfl)) (by unfold Func.isWrapper; first | (rw [if_pos (by decide +kernel)]; kernel_rfl) | (rw [if_neg (by decide +kernel)]; exact ⟨rfl, rfl⟩))
    (fun os started H enc _ => lifted os started H enc)
end Go.Proofs.Ytjleanfcjipofaa.Eng
namespace Go.Proofs.Ytjleanfcjipofaa
/-- The row, under a short name, for the claim. -/
theorem entries_holds : Rows.FnExactEntriesSaid := Eng.rowOver
#print axioms entries_holds
end Go.Proofs.Ytjleanfcjipofaa
