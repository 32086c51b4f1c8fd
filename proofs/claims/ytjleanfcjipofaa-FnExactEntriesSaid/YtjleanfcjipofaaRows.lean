/-
  No cell of these rows narrows 'for every input' (looked for: loops, veiled, ifaces, maps, wideKeys, modest, calm, conditions, laid).
  DERIVED. THE GIVEN ROWS OF THIS SEAT. 3 by the template 'for every input the law returns true; each argument reads behind the call as it read before'; 0 by the template 'total and deterministic' (their statements: YtjleanfcjipofaaTotals.lean).
  GIVEN WITH THE SEED: the statements are not yours to turn. If you find one false, say at which input.
  Laid BY PROGRAM, IN A SANDBOX (cutbox-rows.mjs): the forced cells as the released guide's own fill.sh prints them over the translation 145b3809764b3362… (all of the seat's roots in one cut). By AI agents, Wed Nov 11 2026. No macro, syntax, notation, axiom, sorry.
-/
import Derived.Test.YtjleanfcjipofaaChecked
import GoSem.Claim
import GoSem.ClaimJoined
import GoSem.ClaimMapViews
import Derived.JoinedTies
import Derived.KernelRfl
namespace Go.Proofs.Ytjleanfcjipofaa
/- THE CELL 'sum', in the pinned program and in every row, IS THE sha256 OF THE DUMP (.gsa) THAT YtjleanfcjipofaaProg.lean LOADS. Nothing in Lean hashes anything: it is a label: what it is worth is what the hold of that sum in a sandbox is worth. -/
noncomputable def Try.pinned : Pinned := { name := "ytjleanfcjipofaa", sum := "145b3809764b336242119cc9e0230a29d123801d1d084b78ad51521701db75bb", checked := Try.checked }
namespace Rows
def none {H : Type} : Left H := { results := [], args := [] }

/-- 'laws.FnExactInTime': WHATEVER THE INPUT: true; the input reads as it did. -/
def fnExactInTimeSpec : ChangeSpec := { name := "fnExactInTime", fn := fun _ => fun
  | [d] => { results := [.lit (.bool true)], args := [d] }
  | _ => none }
def fnExactInTimeRow : OpenClaim := { program := "ytjleanfcjipofaa", sum := "145b3809764b336242119cc9e0230a29d123801d1d084b78ad51521701db75bb", func := "loop.example/g00127/laws.FnExactInTime", spec := "fnExactInTime", apart := false }
def FnExactInTimeSaid : Prop := fnExactInTimeRow.holds Try.pinned (OpenSpec.ofChange fnExactInTimeSpec)

/-- ITS FALSE NEIGHBOUR: 'it returns false'. Refute it at one input. -/
def fnExactInTimeWrong : ChangeSpec := { name := "fnExactInTime", fn := fun _ => fun
  | [d] => { results := [.lit (.bool false)], args := [d] }
  | _ => none }
def FnExactInTimeWrongFalsely : Prop := fnExactInTimeRow.holds Try.pinned (OpenSpec.ofChange fnExactInTimeWrong)

/-- 'laws.FnExactEntries': WHATEVER THE INPUT: true; the input reads as it did. -/
def fnExactEntriesSpec : ChangeSpec := { name := "fnExactEntries", fn := fun _ => fun
  | [d] => { results := [.lit (.bool true)], args := [d] }
  | _ => none }
def fnExactEntriesRow : OpenClaim := { program := "ytjleanfcjipofaa", sum := "145b3809764b336242119cc9e0230a29d123801d1d084b78ad51521701db75bb", func := "loop.example/g00127/laws.FnExactEntries", spec := "fnExactEntries", unfollowed := true, recurses := true, apart := false }
def FnExactEntriesSaid : Prop := fnExactEntriesRow.holds Try.pinned (OpenSpec.ofChange fnExactEntriesSpec)

/-- ITS FALSE NEIGHBOUR: 'it returns false'. Refute it at one input. -/
def fnExactEntriesWrong : ChangeSpec := { name := "fnExactEntries", fn := fun _ => fun
  | [d] => { results := [.lit (.bool false)], args := [d] }
  | _ => none }
def FnExactEntriesWrongFalsely : Prop := fnExactEntriesRow.holds Try.pinned (OpenSpec.ofChange fnExactEntriesWrong)

/-- 'laws.FnExactOnce': WHATEVER THE INPUT: true; the input reads as it did. -/
def fnExactOnceSpec : ChangeSpec := { name := "fnExactOnce", fn := fun _ => fun
  | [d] => { results := [.lit (.bool true)], args := [d] }
  | _ => none }
def fnExactOnceRow : OpenClaim := { program := "ytjleanfcjipofaa", sum := "145b3809764b336242119cc9e0230a29d123801d1d084b78ad51521701db75bb", func := "loop.example/g00127/laws.FnExactOnce", spec := "fnExactOnce", unfollowed := true, recurses := true, apart := false }
def FnExactOnceSaid : Prop := fnExactOnceRow.holds Try.pinned (OpenSpec.ofChange fnExactOnceSpec)

/-- ITS FALSE NEIGHBOUR: 'it returns false'. Refute it at one input. -/
def fnExactOnceWrong : ChangeSpec := { name := "fnExactOnce", fn := fun _ => fun
  | [d] => { results := [.lit (.bool false)], args := [d] }
  | _ => none }
def FnExactOnceWrongFalsely : Prop := fnExactOnceRow.holds Try.pinned (OpenSpec.ofChange fnExactOnceWrong)

/- THE SECOND FORM. 'bulk': how many values and letters a reading holds, each counted each time it is reached (what is shared counts as often as it is met; a slice's spare places count too). A statement '..UptoSaid' is the law's where the arguments, and the package variables that the reading takes, are together of bulk at most 1048576: NARROWER than '..Said'. Prove '..Said' where nothing that the law and all that it calls make is longer than what came in: it says more and counts as full. Else prove '..UptoSaid'. A law counts once. -/
mutual
def uptoBulk {H : Type} : DataW H → Nat
  | .lit (.string bytes) => bytes.length + 1
  | .lit _ => 1
  | .nil => 1
  | .ptr d => uptoBulk d + 1
  | .slice elems spare => uptoBulkAll elems + uptoBulkAll spare + 1
  | .agg parts => uptoBulkAll parts + 1
  | .iface _ d => uptoBulk d + 1
  | .map entries => uptoBulkEntries entries + 1
  | .held _ => 1
def uptoBulkAll {H : Type} : List (DataW H) → Nat
  | [] => 0
  | d :: r => uptoBulk d + uptoBulkAll r
def uptoBulkEntries {H : Type} : List (Lit × DataW H) → Nat
  | [] => 0
  | x :: r => uptoBulkEntry x + uptoBulkEntries r
def uptoBulkEntry {H : Type} : Lit × DataW H → Nat
  | (.string bytes, d) => bytes.length + uptoBulk d + 1
  | (_, d) => uptoBulk d + 1
 end
def uptoSmall : (H : Type) → List (DataW H) → Bool := fun _ ds => decide (uptoBulkAll ds ≤ 1048576)
def OpenSpec.upto (s : _root_.Go.ChangeSpec) : _root_.Go.OpenSpec := { _root_.Go.OpenSpec.ofChange s with cond := some uptoSmall }

/-- 'laws.FnExactInTime', WHERE WHAT IT READS IS OF BULK AT MOST 1048576: true; the input reads as it did. -/
def fnExactInTimeUptoRow : OpenClaim := { program := "ytjleanfcjipofaa", sum := "145b3809764b336242119cc9e0230a29d123801d1d084b78ad51521701db75bb", func := "loop.example/g00127/laws.FnExactInTime", spec := "fnExactInTime", apart := false, narrowed := true }
def FnExactInTimeUptoSaid : Prop := fnExactInTimeUptoRow.holds Try.pinned (OpenSpec.upto fnExactInTimeSpec)

/-- 'laws.FnExactEntries', WHERE WHAT IT READS IS OF BULK AT MOST 1048576: true; the input reads as it did. -/
def fnExactEntriesUptoRow : OpenClaim := { program := "ytjleanfcjipofaa", sum := "145b3809764b336242119cc9e0230a29d123801d1d084b78ad51521701db75bb", func := "loop.example/g00127/laws.FnExactEntries", spec := "fnExactEntries", unfollowed := true, recurses := true, apart := false, narrowed := true }
def FnExactEntriesUptoSaid : Prop := fnExactEntriesUptoRow.holds Try.pinned (OpenSpec.upto fnExactEntriesSpec)

/-- 'laws.FnExactOnce', WHERE WHAT IT READS IS OF BULK AT MOST 1048576: true; the input reads as it did. -/
def fnExactOnceUptoRow : OpenClaim := { program := "ytjleanfcjipofaa", sum := "145b3809764b336242119cc9e0230a29d123801d1d084b78ad51521701db75bb", func := "loop.example/g00127/laws.FnExactOnce", spec := "fnExactOnce", unfollowed := true, recurses := true, apart := false, narrowed := true }
def FnExactOnceUptoSaid : Prop := fnExactOnceUptoRow.holds Try.pinned (OpenSpec.upto fnExactOnceSpec)

end Rows
end Go.Proofs.Ytjleanfcjipofaa
