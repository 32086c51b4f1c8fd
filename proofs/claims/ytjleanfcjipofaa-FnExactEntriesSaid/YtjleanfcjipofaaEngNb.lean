/- The engine, part Nb: the whole program, run abstractly: a function works on trees by value and hands back a tree by value ('val'), or hands back own blocks ('own'), or works on the caller's abstract heap ('heap'). What such a run shows of the kit's 'Calls'. -/
import Derived.Test.YtjleanfcjipofaaEngNa
set_option linter.all false
namespace Go.Proofs.Ytjleanfcjipofaa.Eng
open Go Go.RowKit

inductive Mode where
  | val
  | own
  | heap

def Mode.isVal : Mode → Bool
  | .val => true
  | _ => false

def callable (fn : Func) : Bool := !(fn.name == "runtime.NumGoroutine") && !fn.body.isNone

def fuel : Nat := 9223372036854775808

def qv (md : FuncId → Mode) (f : FuncId) : Bool := (md f).isVal

/-- The whole program, run abstractly, to a depth of calls. md: how a function works. mk: what its loops keep. -/
noncomputable def ev (P : Program) (md : FuncId → Mode) (mk : FuncId → Nat → Mask) : Nat → Orc
  | 0 => fun _ _ _ => none
  | d + 1 => fun f args H => (P.funcs[f]?).bind fun fn => if callable fn = true then
      match md f with
      | .val => (travs (own P H false 8) false args).bind fun a0 => (xfun P (ev P md mk d) (mk f) (drawn P (ev P md mk d) (qv md)) fuel fn a0 []).bind fun r =>
          (trav (own P r.2 true 8) true r.1).bind fun p => if fresh p = true then some (p, H) else if noLive H = true then (trav (own P r.2 false 8) false r.1).map fun p => (p, H) else none
      | .own => (travs (own P H false 8) false args).bind fun a0 => (xfun P (ev P md mk d) (mk f) (drawn P (ev P md mk d) (qv md)) fuel fn a0 []).bind fun r => ownR P r.2 H fn.resultTypes.toList r.1
      | .heap => xfun P (ev P md mk d) (mk f) (drawn P (ev P md mk d) (qv md)) fuel fn args H
    else none

section
variable {P : Program}

theorem callable_enters {f : FuncId} {fn : Func} (hf : P.funcs[f]? = some fn) (hc : callable fn = true) : Enters P f := by
  simp only [callable, Bool.and_eq_true, Bool.not_eq_true'] at hc
  exact ⟨fn, hf, hc.1, hc.2⟩

theorem ev_ok (hm : P.follows .mixedOrders = true) (md : FuncId → Mode) (mk : FuncId → Nat → Mask) : ∀ d, OrcOk P (ev P md mk d) ∧ Quiet (ev P md mk d) (qv md)
  | 0 => ⟨fun f args H r h => by simp [ev] at h, fun f args H r _ h => by simp [ev] at h⟩
  | d + 1 => by
    obtain ⟨ih1, ih2⟩ := ev_ok hm md mk d
    have hD := drawn_ok hm ih1 ih2
    constructor
    · intro f args H r h
      simp only [ev] at h
      rw [Option.bind_eq_some_iff] at h; obtain ⟨fn, hfn, h⟩ := h
      split at h
      · rename_i hcal
        refine ⟨callable_enters hfn hcal, ?_⟩
        split at h
        · rw [Option.bind_eq_some_iff] at h; obtain ⟨a0, ha, h⟩ := h
          rw [Option.bind_eq_some_iff] at h; obtain ⟨⟨q, G⟩, hx, h⟩ := h
          rw [Option.bind_eq_some_iff] at h; obtain ⟨p, hp, h⟩ := h
          split at h
          · rename_i hfr
            injection h with h
            subst h
            exact by_value ha (xfun_sound ih1 hD hfn hx) hp (.inl hfr)
          · split at h
            · rename_i hno
              obtain ⟨p', hp', rfl⟩ := Option.map_eq_some_iff.1 h
              exact by_value ha (xfun_sound ih1 hD hfn hx) hp' (.inr hno)
            · cases h
        · rw [Option.bind_eq_some_iff] at h; obtain ⟨a0, ha, h⟩ := h
          rw [Option.bind_eq_some_iff] at h; obtain ⟨⟨q, G⟩, hx, h⟩ := h
          exact by_own ha (xfun_sound ih1 hD hfn hx) h
        · exact xfun_sound ih1 hD hfn h
      · cases h
    · intro f args H r hmd h
      simp only [ev] at h
      rw [Option.bind_eq_some_iff] at h; obtain ⟨fn, hfn, h⟩ := h
      split at h
      · split at h
        · rw [Option.bind_eq_some_iff] at h; obtain ⟨a0, ha, h⟩ := h
          rw [Option.bind_eq_some_iff] at h; obtain ⟨⟨q, G⟩, hx, h⟩ := h
          rw [Option.bind_eq_some_iff] at h; obtain ⟨p, hp, h⟩ := h
          split at h
          · injection h with h
            subst h
            rfl
          · split at h
            · obtain ⟨p', hp', rfl⟩ := Option.map_eq_some_iff.1 h
              rfl
            · cases h
        · rename_i hm'; simp [qv, hm', Mode.isVal] at hmd
        · rename_i hm'; simp [qv, hm', Mode.isVal] at hmd
      · cases h
end

end Go.Proofs.Ytjleanfcjipofaa.Eng
