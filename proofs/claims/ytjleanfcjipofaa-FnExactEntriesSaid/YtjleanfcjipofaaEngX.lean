/- How each function of the program is called. No condition. -/
import Derived.Test.YtjleanfcjipofaaEngT
import Derived.Test.YtjleanfcjipofaaEngQ
set_option linter.all false
namespace Go.Proofs.Ytjleanfcjipofaa.Eng
open Go Go.RowKit Go.Proofs
def md : FuncId → Mode
  | 13 => .own
  | 14 => .own
  | 17 => .heap
  | 18 => .heap
  | _ => .val
noncomputable abbrev E : Nat → Orc := ev Try.prog md mk
@[simp] theorem c3 (d : Nat) (args : List PV) (H : Hp) : E (d + 1) 3 args H = (travs (own Try.prog H false 8) false args).obind (runK Try.prog md mk d 3 Try.f3 H) := ev_s Try.func3 rfl rfl
@[simp] theorem c4 (d : Nat) (args : List PV) (H : Hp) : E (d + 1) 4 args H = (travs (own Try.prog H false 8) false args).obind (runK Try.prog md mk d 4 Try.f4 H) := ev_s Try.func4 rfl rfl
@[simp] theorem c5 (d : Nat) (args : List PV) (H : Hp) : E (d + 1) 5 args H = (travs (own Try.prog H false 8) false args).obind (runK Try.prog md mk d 5 Try.f5 H) := ev_s Try.func5 rfl rfl
@[simp] theorem c6 (d : Nat) (args : List PV) (H : Hp) : E (d + 1) 6 args H = (travs (own Try.prog H false 8) false args).obind (runK Try.prog md mk d 6 Try.f6 H) := ev_s Try.func6 rfl rfl
@[simp] theorem c7 (d : Nat) (args : List PV) (H : Hp) : E (d + 1) 7 args H = (travs (own Try.prog H false 8) false args).obind (runK Try.prog md mk d 7 Try.f7 H) := ev_s Try.func7 rfl rfl
@[simp] theorem c8 (d : Nat) (args : List PV) (H : Hp) : E (d + 1) 8 args H = (travs (own Try.prog H false 8) false args).obind (runK Try.prog md mk d 8 Try.f8 H) := ev_s Try.func8 rfl rfl
@[simp] theorem c9 (d : Nat) (args : List PV) (H : Hp) : E (d + 1) 9 args H = (travs (own Try.prog H false 8) false args).obind (runK Try.prog md mk d 9 Try.f9 H) := ev_s Try.func9 rfl rfl
@[simp] theorem c10 (d : Nat) (args : List PV) (H : Hp) : E (d + 1) 10 args H = (travs (own Try.prog H false 8) false args).obind (runK Try.prog md mk d 10 Try.f10 H) := ev_s Try.func10 rfl rfl
@[simp] theorem c11 (d : Nat) (args : List PV) (H : Hp) : E (d + 1) 11 args H = (travs (own Try.prog H false 8) false args).obind (runK Try.prog md mk d 11 Try.f11 H) := ev_s Try.func11 rfl rfl
@[simp] theorem c12 (d : Nat) (args : List PV) (H : Hp) : E (d + 1) 12 args H = (travs (own Try.prog H false 8) false args).obind (runK Try.prog md mk d 12 Try.f12 H) := ev_s Try.func12 rfl rfl
@[simp] theorem c13 (d : Nat) (args : List PV) (H : Hp) : E (d + 1) 13 args H = (travs (own Try.prog H false 8) false args).obind (runO Try.prog md mk d 13 Try.f13 H) := ev_o Try.func13 rfl rfl
@[simp] theorem c14 (d : Nat) (args : List PV) (H : Hp) : E (d + 1) 14 args H = (travs (own Try.prog H false 8) false args).obind (runO Try.prog md mk d 14 Try.f14 H) := ev_o Try.func14 rfl rfl
@[simp] theorem c15 (d : Nat) (args : List PV) (H : Hp) : E (d + 1) 15 args H = (travs (own Try.prog H false 8) false args).obind (runK Try.prog md mk d 15 Try.f15 H) := ev_s Try.func15 rfl rfl
@[simp] theorem c16 (d : Nat) (args : List PV) (H : Hp) : E (d + 1) 16 args H = (travs (own Try.prog H false 8) false args).obind (runK Try.prog md mk d 16 Try.f16 H) := ev_s Try.func16 rfl rfl
theorem c17 (d : Nat) (args : List PV) (H : Hp) : E (d + 1) 17 args H = xfun Try.prog (E d) (mk 17) (drawn Try.prog (E d) (qv md)) fuel Try.f17 args H := ev_d Try.func17 rfl rfl
theorem c18 (d : Nat) (args : List PV) (H : Hp) : E (d + 1) 18 args H = xfun Try.prog (E d) (mk 18) (drawn Try.prog (E d) (qv md)) fuel Try.f18 args H := ev_d Try.func18 rfl rfl
@[simp] theorem c19 (d : Nat) (args : List PV) (H : Hp) : E (d + 1) 19 args H = (travs (own Try.prog H false 8) false args).obind (runK Try.prog md mk d 19 Try.f19 H) := ev_s Try.func19 rfl rfl
@[simp] theorem c20 (d : Nat) (args : List PV) (H : Hp) : E (d + 1) 20 args H = (travs (own Try.prog H false 8) false args).obind (runK Try.prog md mk d 20 Try.f20 H) := ev_s Try.func20 rfl rfl
@[simp] theorem c21 (d : Nat) (args : List PV) (H : Hp) : E (d + 1) 21 args H = (travs (own Try.prog H false 8) false args).obind (runK Try.prog md mk d 21 Try.f21 H) := ev_s Try.func21 rfl rfl
@[simp] theorem c22 (d : Nat) (args : List PV) (H : Hp) : E (d + 1) 22 args H = (travs (own Try.prog H false 8) false args).obind (runK Try.prog md mk d 22 Try.f22 H) := ev_s Try.func22 rfl rfl
@[simp] theorem c23 (d : Nat) (args : List PV) (H : Hp) : E (d + 1) 23 args H = (travs (own Try.prog H false 8) false args).obind (runK Try.prog md mk d 23 Try.f23 H) := ev_s Try.func23 rfl rfl
@[simp] theorem c24 (d : Nat) (args : List PV) (H : Hp) : E (d + 1) 24 args H = (travs (own Try.prog H false 8) false args).obind (runK Try.prog md mk d 24 Try.f24 H) := ev_s Try.func24 rfl rfl
@[simp] theorem c25 (d : Nat) (args : List PV) (H : Hp) : E (d + 1) 25 args H = (travs (own Try.prog H false 8) false args).obind (runK Try.prog md mk d 25 Try.f25 H) := ev_s Try.func25 rfl rfl
@[simp] theorem c26 (d : Nat) (args : List PV) (H : Hp) : E (d + 1) 26 args H = (travs (own Try.prog H false 8) false args).obind (runK Try.prog md mk d 26 Try.f26 H) := ev_s Try.func26 rfl rfl
@[simp] theorem c27 (d : Nat) (args : List PV) (H : Hp) : E (d + 1) 27 args H = (travs (own Try.prog H false 8) false args).obind (runK Try.prog md mk d 27 Try.f27 H) := ev_s Try.func27 rfl rfl
@[simp] theorem c28 (d : Nat) (args : List PV) (H : Hp) : E (d + 1) 28 args H = (travs (own Try.prog H false 8) false args).obind (runK Try.prog md mk d 28 Try.f28 H) := ev_s Try.func28 rfl rfl
@[simp] theorem c29 (d : Nat) (args : List PV) (H : Hp) : E (d + 1) 29 args H = (travs (own Try.prog H false 8) false args).obind (runK Try.prog md mk d 29 Try.f29 H) := ev_s Try.func29 rfl rfl
@[simp] theorem c30 (d : Nat) (args : List PV) (H : Hp) : E (d + 1) 30 args H = (travs (own Try.prog H false 8) false args).obind (runK Try.prog md mk d 30 Try.f30 H) := ev_s Try.func30 rfl rfl
@[simp] theorem c31 (d : Nat) (args : List PV) (H : Hp) : E (d + 1) 31 args H = (travs (own Try.prog H false 8) false args).obind (runK Try.prog md mk d 31 Try.f31 H) := ev_s Try.func31 rfl rfl
@[simp] theorem c32 (d : Nat) (args : List PV) (H : Hp) : E (d + 1) 32 args H = (travs (own Try.prog H false 8) false args).obind (runK Try.prog md mk d 32 Try.f32 H) := ev_s Try.func32 rfl rfl
@[simp] theorem c33 (d : Nat) (args : List PV) (H : Hp) : E (d + 1) 33 args H = (travs (own Try.prog H false 8) false args).obind (runK Try.prog md mk d 33 Try.f33 H) := ev_s Try.func33 rfl rfl
@[simp] theorem c34 (d : Nat) (args : List PV) (H : Hp) : E (d + 1) 34 args H = (travs (own Try.prog H false 8) false args).obind (runK Try.prog md mk d 34 Try.f34 H) := ev_s Try.func34 rfl rfl
@[simp] theorem c35 (d : Nat) (args : List PV) (H : Hp) : E (d + 1) 35 args H = (travs (own Try.prog H false 8) false args).obind (runK Try.prog md mk d 35 Try.f35 H) := ev_s Try.func35 rfl rfl
@[simp] theorem c36 (d : Nat) (args : List PV) (H : Hp) : E (d + 1) 36 args H = (travs (own Try.prog H false 8) false args).obind (runK Try.prog md mk d 36 Try.f36 H) := ev_s Try.func36 rfl rfl
@[simp] theorem c37 (d : Nat) (args : List PV) (H : Hp) : E (d + 1) 37 args H = (travs (own Try.prog H false 8) false args).obind (runK Try.prog md mk d 37 Try.f37 H) := ev_s Try.func37 rfl rfl
@[simp] theorem c38 (d : Nat) (args : List PV) (H : Hp) : E (d + 1) 38 args H = (travs (own Try.prog H false 8) false args).obind (runK Try.prog md mk d 38 Try.f38 H) := ev_s Try.func38 rfl rfl
@[simp] theorem c39 (d : Nat) (args : List PV) (H : Hp) : E (d + 1) 39 args H = (travs (own Try.prog H false 8) false args).obind (runK Try.prog md mk d 39 Try.f39 H) := ev_s Try.func39 rfl rfl
@[simp] theorem c40 (d : Nat) (args : List PV) (H : Hp) : E (d + 1) 40 args H = (travs (own Try.prog H false 8) false args).obind (runK Try.prog md mk d 40 Try.f40 H) := ev_s Try.func40 rfl rfl
@[simp] theorem c41 (d : Nat) (args : List PV) (H : Hp) : E (d + 1) 41 args H = (travs (own Try.prog H false 8) false args).obind (runK Try.prog md mk d 41 Try.f41 H) := ev_s Try.func41 rfl rfl
@[simp] theorem c42 (d : Nat) (args : List PV) (H : Hp) : E (d + 1) 42 args H = (travs (own Try.prog H false 8) false args).obind (runK Try.prog md mk d 42 Try.f42 H) := ev_s Try.func42 rfl rfl
@[simp] theorem c43 (d : Nat) (args : List PV) (H : Hp) : E (d + 1) 43 args H = (travs (own Try.prog H false 8) false args).obind (runK Try.prog md mk d 43 Try.f43 H) := ev_s Try.func43 rfl rfl
@[simp] theorem c44 (d : Nat) (args : List PV) (H : Hp) : E (d + 1) 44 args H = (travs (own Try.prog H false 8) false args).obind (runK Try.prog md mk d 44 Try.f44 H) := ev_s Try.func44 rfl rfl
@[simp] theorem c45 (d : Nat) (args : List PV) (H : Hp) : E (d + 1) 45 args H = (travs (own Try.prog H false 8) false args).obind (runK Try.prog md mk d 45 Try.f45 H) := ev_s Try.func45 rfl rfl
@[simp] theorem c46 (d : Nat) (args : List PV) (H : Hp) : E (d + 1) 46 args H = (travs (own Try.prog H false 8) false args).obind (runK Try.prog md mk d 46 Try.f46 H) := ev_s Try.func46 rfl rfl
end Go.Proofs.Ytjleanfcjipofaa.Eng
