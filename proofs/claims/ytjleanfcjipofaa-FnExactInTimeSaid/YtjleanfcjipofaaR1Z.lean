/- FnExactInTime: whatever the row of replies, the law returns true and leaves its argument as it was. No condition. -/
import Derived.Test.YtjleanfcjipofaaRows
import Derived.Test.YtjleanfcjipofaaR1G
import Derived.WalkKit
import Derived.ProofKit
import Derived.OpenShut
import Derived.ShutString
import Derived.ChangeOld
import Derived.Below
import Derived.SizedLaws
namespace Go.Proofs.Ytjleanfcjipofaa.Eng
open Go Go.Proofs
open Go.ChangeShapes Go.WideShapes Go.ChangeAt Go.RowKit

theorem opInt : Opens Try.prog Int 3 := opens_int Try.underlying3 (by kernel_rfl)
theorem opStr : Opens Try.prog ByteArray 9 := opens_string Try.underlying9 (by kernel_rfl)
theorem opInts : Opens Try.prog (List Int) 42 := opens_slice Try.underlying42 opInt (by kernel_rfl)
theorem opEvent : Opens Try.prog Event 44 := by
  refine opens_as Event.of rfl of_Event wfof_Event ?_
  refine opens_struct Try.underlying44 (by kernel_rfl) ?_
  refine opens_field opInt rfl ?_
  refine opens_field opInt rfl ?_
  refine opens_field opInt rfl ?_
  refine opens_field opInt rfl ?_
  refine opens_field opInt rfl ?_
  refine opens_field opInts rfl ?_
  refine opens_field opStr rfl ?_
  refine opens_field opInts rfl ?_
  refine opens_field opInt rfl ?_
  exact opens_none
theorem opCommand : Opens Try.prog Command 46 := by
  refine opens_as Command.of rfl of_Command wfof_Command ?_
  refine opens_struct Try.underlying46 (by kernel_rfl) ?_
  refine opens_field opInt rfl ?_
  refine opens_field opInt rfl ?_
  refine opens_field opInt rfl ?_
  refine opens_field opEvent rfl ?_
  refine opens_field opInt rfl ?_
  refine opens_field opInt rfl ?_
  exact opens_none
theorem opReply : Opens Try.prog Reply 48 := by
  refine opens_as Reply.of rfl of_Reply wfof_Reply ?_
  refine opens_struct Try.underlying48 (by kernel_rfl) ?_
  refine opens_field opInt rfl ?_
  refine opens_field opInt rfl ?_
  refine opens_field opInt rfl ?_
  refine opens_field opCommand rfl ?_
  refine opens_field opStr rfl ?_
  exact opens_none
theorem opReplies : Opens Try.prog (List Reply) 22 := opens_slice Try.underlying22 opReply (by kernel_rfl)
theorem wfR_of {x : Reply} (h : Enc.wf x) : WfR x := ⟨h.2.2.2.1.2.2.2.1.2.2.2.2.2.1.2, h.2.2.2.1.2.2.2.1.2.2.2.2.2.2.2.1.2, h.2.2.2.1.2.2.2.1.2.2.2.2.2.2.1, h.2.2.2.2.1⟩
theorem mixed : Try.prog.follows .mixedOrders = true := by kernel_rfl
theorem ownK : ownKnob Try.prog.godebug = none := by kernel_rfl
theorem laidOut : laidOutB Try.prog = true := by kernel_rfl

set_option maxRecDepth 100000 in
theorem lifted (os : Os) (started : os.Started) (H : Type) (enc : TypeId × Value → H) :
    ReturnsInHanded {} Try.checked os 3 .any (Rows.fnExactInTimeSpec.pre6 enc Try.prog Try.f3 Rows.fnExactInTimeRow.domain false) (Rows.fnExactInTimeSpec.post enc Try.prog Try.f3 false true false false) := by
  refine returnsInHanded_of_change_sized (C := Try.checked) ownK started (by kernel_rfl) Try.func3
    (ChangeSpec.witness6 (enc := enc) (C := Try.checked) false ⟨#[], #[.slice none 0 0], []⟩ 8 (by kernel_rfl) (by kernel_rfl) (by kernel_rfl) (by kernel_rfl)) ?_
  intro W base args ds gs before hval0 hW hcnd hsz0 _
  have hval : ∀ (j : Nat) t v, Try.f3.params[j]? = some t → args[j]? = some v → Value.okWide Try.prog W .any base t v := hval0
  have hW' := hW
  obtain ⟨p, q, hA0, hV, rfl, hfz, hnd⟩ := hW
  have hA : DataW.TrodAll enc Try.prog W 0 (fun _ => true) true Try.f3.params.toList args.toList ds p := hA0
  rw [Try.params3] at hA hval
  obtain ⟨v0, vs0, d0, ds0, p0, q0, hargs, rfl, rfl, h0, r0⟩ := trodAll_cons hA
  obtain ⟨rfl, rfl, rfl⟩ := trodAll_nil r0
  obtain rfl : args = #[v0] := by cases args; simp_all
  obtain ⟨rfl, rfl⟩ := trodVars_none hV
  obtain ⟨a0, len0, cap0, rfl⟩ := okWide_slice Try.underlying22 (hval 0 22 v0 rfl rfl)
  have k0 := h0
  have lt0 : ∀ x ∈ p0, x.block < W.heap.size := by obtain ⟨m, hm⟩ := k0; exact DataW.trod_lt m _ _ _ hm
  obtain ⟨fu, hf⟩ := h0
  obtain ⟨l, ⟨hwf, hl⟩, hrv⟩ := opReplies.2 ⟨fun _ => none, [], W, W.heap.size⟩ rfl rfl hf
  have hcalls := ((ev_ok mixed md mk 6).1 3 [.rd (rows false l) l.length false false] [] _ (e3 0 l false false false hl (fun x hx => wfR_of (hwf x hx)))).2
  clear hA0 hval0 hsz0
  refine (law_calls hcalls W #[.slice a0 len0 cap0] rfl (fun i p u hp hu => ?_)).mono fun e W' ⟨he, bel⟩ => ?_
  · exact hrv.2 i p u hp (by simpa [Value.cells] using hu)
  · subst he
    exact ⟨_, rfl, _, _, _, [], _, [], hW', trodAll_mk1 (shut_bool Try.underlying4 _), (trodAll_cons_mk (Below.trod laidOut (by kernel_rfl) (of_decide_eq_true (by kernel_rfl)) k0 bel lt0) trodAll_mk0), rfl, bel.frame _, fun h => by cases h⟩
theorem rowOver : Rows.fnExactInTimeRow.holds Try.pinned (OpenSpec.ofChange Rows.fnExactInTimeSpec) :=
  OpenClaim.holds_of_wide 3 Try.f3 rfl rfl rfl rfl rfl rfl rfl ⟨rfl, rfl, rfl, rfl, rfl⟩ rfl rfl rfl rfl rfl (by kernel_rfl) Try.func3 (by kernel_rfl)
    (of_decide_eq_true (by kernel_rfl)) (by unfold Func.isWrapper; first | (rw [if_pos (by decide +kernel)]; kernel_rfl) | (rw [if_neg (by decide +kernel)]; exact ⟨rfl, rfl⟩))
    (fun os started H enc _ => lifted os started H enc)
end Go.Proofs.Ytjleanfcjipofaa.Eng
namespace Go.Proofs.Ytjleanfcjipofaa
/-- The row, under a short name, for the claim. -/
theorem inTime_holds : Rows.FnExactInTimeSaid := Eng.rowOver
#print axioms inTime_holds
end Go.Proofs.Ytjleanfcjipofaa
