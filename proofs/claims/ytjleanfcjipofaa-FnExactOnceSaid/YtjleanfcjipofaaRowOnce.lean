/- FnExactOnce: whatever the arguments, the law returns true and leaves them as they were. No condition. -/
import Derived.Test.YtjleanfcjipofaaRows
import Derived.Test.YtjleanfcjipofaaFnA
import Derived.WalkKit
import Derived.ProofKit
import Derived.OpenShut
import Derived.ShutString
import Derived.ChangeOld
import Derived.Below
import Derived.SizedLaws
namespace Go.Proofs.Ytjleanfcjipofaa.Eng
open Go Go.Proofs
open Go.ChangeShapes Go.WideShapes Go.ChangeAt Go.RowKit
theorem op3 : Opens Try.prog Int 3 := opens_int Try.underlying3 (by kernel_rfl)
theorem op42 : Opens Try.prog (List Int) 42 := opens_slice Try.underlying42 op3 (by kernel_rfl)
theorem op9 : Opens Try.prog ByteArray 9 := opens_string Try.underlying9 (by kernel_rfl)
theorem op44 : Opens Try.prog TEvent 44 := by
  refine opens_as TEvent.of rfl of_TEvent wfof_TEvent ?_
  refine opens_struct Try.underlying44 (by kernel_rfl) ?_
  refine opens_field op3 rfl ?_
  refine opens_field op3 rfl ?_
  refine opens_field op3 rfl ?_
  refine opens_field op3 rfl ?_
  refine opens_field op3 rfl ?_
  refine opens_field op42 rfl ?_
  refine opens_field op9 rfl ?_
  refine opens_field op42 rfl ?_
  refine opens_field op3 rfl ?_
  exact opens_none
theorem op46 : Opens Try.prog TCommand 46 := by
  refine opens_as TCommand.of rfl of_TCommand wfof_TCommand ?_
  refine opens_struct Try.underlying46 (by kernel_rfl) ?_
  refine opens_field op3 rfl ?_
  refine opens_field op3 rfl ?_
  refine opens_field op3 rfl ?_
  refine opens_field op44 rfl ?_
  refine opens_field op3 rfl ?_
  refine opens_field op3 rfl ?_
  exact opens_none
theorem op48 : Opens Try.prog TReply 48 := by
  refine opens_as TReply.of rfl of_TReply wfof_TReply ?_
  refine opens_struct Try.underlying48 (by kernel_rfl) ?_
  refine opens_field op3 rfl ?_
  refine opens_field op3 rfl ?_
  refine opens_field op3 rfl ?_
  refine opens_field op46 rfl ?_
  refine opens_field op9 rfl ?_
  exact opens_none
theorem op22 : Opens Try.prog (List TReply) 22 := opens_slice Try.underlying22 op48 (by kernel_rfl)
theorem mixed : Try.prog.follows .mixedOrders = true := by kernel_rfl
theorem ownKn : ownKnob Try.prog.godebug = none := by kernel_rfl
theorem laidOut : laidOutB Try.prog = true := by kernel_rfl
set_option maxRecDepth 100000 in
set_option maxHeartbeats 2000000 in
theorem lifted (os : Os) (started : os.Started) (H : Type) (enc : TypeId × Value → H) :
    ReturnsInHanded {} Try.checked os 5 .any (Rows.fnExactOnceSpec.pre6 enc Try.prog Try.f5 Rows.fnExactOnceRow.domain false) (Rows.fnExactOnceSpec.post enc Try.prog Try.f5 false true false false) := by
  refine returnsInHanded_of_change_sized (C := Try.checked) ownKn started (by kernel_rfl) Try.func5
    (ChangeSpec.witness6 (enc := enc) (C := Try.checked) false ⟨#[], #[(.slice none 0 0)], []⟩ 8 (by kernel_rfl) (by kernel_rfl) (by kernel_rfl) (by kernel_rfl)) ?_
  intro W base args ds gs before hval0 hW hcnd hsz0 _
  have hval : ∀ (j : Nat) t v, Try.f5.params[j]? = some t → args[j]? = some v → Value.okWide Try.prog W .any base t v := hval0
  have hW' := hW
  obtain ⟨p, q, hA0, hV, rfl, hfz, hnd⟩ := hW
  have hA : DataW.TrodAll enc Try.prog W 0 (fun _ => true) true Try.f5.params.toList args.toList ds p := hA0
  rw [Try.params5] at hA hval
  obtain ⟨v0, vs0, d0, ds0, p0, q0, hargs0, rfl, rfl, h0, r0⟩ := trodAll_cons hA
  obtain ⟨rfl, rfl, rfl⟩ := trodAll_nil r0
  obtain rfl : args = #[v0] := by cases args; simp_all
  obtain ⟨rfl, rfl⟩ := trodVars_none hV
  have k0 := h0
  have lt0 : ∀ x ∈ p0, x.block < W.heap.size := by obtain ⟨m, hm⟩ := k0; exact DataW.trod_lt m _ _ _ hm
  obtain ⟨a0, len0, cap0, rfl⟩ := okWide_slice Try.underlying22 (hval 0 22 v0 rfl rfl)
  obtain ⟨fu0, hf0⟩ := h0
  obtain ⟨x0, hx0, hr0⟩ := op22.2 ⟨fun _ => none, [], W, W.heap.size⟩ rfl rfl hf0
  have he : ∀ d, E (d + 5 + 1) 5 [.rd (rows false x0) x0.length false false] [] = some (.lit (.bool true), []) := by
    intro d
    rw [c5]
    simp [v_laws_FnExactOnce, hx0]
  have hcalls := ((ev_ok mixed md mk (0 + 5 + 1)).1 5 [.rd (rows false x0) x0.length false false] [] _ (he 0)).2
  clear hA0 hval0 hsz0
  refine (law_calls hcalls W #[.slice a0 len0 cap0] rfl (fun i p u hp hu => ?_)).mono fun e W' ⟨he, bel⟩ => ?_
  · match i, hp, hu with
    | 0, hp, hu => simp at hp hu; subst hp hu; exact hr0.2 0 _ _ (by simp [cells_Row]) (by simp [Value.cells])
    | i + 1, hp, hu => simp at hp
  · subst he
    exact ⟨_, rfl, _, _, _, [], _, [], hW', trodAll_mk1 (shut_bool Try.underlying4 _), (trodAll_cons_mk (Below.trod laidOut (by kernel_rfl) (of_decide_eq_true (by kernel_rfl)) k0 bel lt0) trodAll_mk0), rfl, bel.frame _, fun h => by cases h⟩
theorem rowOver : Rows.fnExactOnceRow.holds Try.pinned (OpenSpec.ofChange Rows.fnExactOnceSpec) :=
  OpenClaim.holds_of_wide 5 Try.f5 rfl rfl rfl rfl rfl rfl rfl ⟨rfl, rfl, rfl, rfl, rfl⟩ rfl rfl rfl rfl rfl (by kernel_rfl) Try.func5 (by kernel_rfl)
    (of_decide_eq_true (by kernel_rfl)) (by unfold Func.isWrapper; first | (rw [if_pos (by decide +kernel)]; kernel_rfl) | (rw [if_neg (by decide +kernel)]; exact ⟨rfl, rfl⟩))
    (fun os started H enc _ => lifted os started H enc)
end Go.Proofs.Ytjleanfcjipofaa.Eng
namespace Go.Proofs.Ytjleanfcjipofaa
/-- The row, under a short name, for the claim. -/
theorem once_holds : Rows.FnExactOnceSaid := Eng.rowOver
#print axioms once_holds
end Go.Proofs.Ytjleanfcjipofaa
