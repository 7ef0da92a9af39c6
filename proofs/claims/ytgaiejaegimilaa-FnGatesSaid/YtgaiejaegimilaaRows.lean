/-
  No cell of these rows narrows 'for every input' (looked for: loops, veiled, ifaces, maps, wideKeys, modest, calm, conditions, laid).
  DERIVED. THE GIVEN ROWS OF THIS SEAT. 7 by the template 'for every input the law returns true; each argument reads behind the call as it read before'; 0 by the template 'total and deterministic' (their statements: YtgaiejaegimilaaTotals.lean).
  GIVEN WITH THE SEED: the statements are not yours to turn. If you find one false, say at which input.
  Laid BY PROGRAM, IN A SANDBOX (cutbox-rows.mjs): the forced cells as the released guide's own fill.sh prints them over the translation 5acea5eb6b18c2b7… (all of the seat's roots in one cut). By AI agents, Wed Nov 11 2026. No macro, syntax, notation, axiom, sorry.
-/
import Derived.Test.YtgaiejaegimilaaChecked
import GoSem.Claim
import GoSem.ClaimJoined
import GoSem.ClaimMapViews
import Derived.JoinedTies
import Derived.KernelRfl
namespace Go.Proofs.Ytgaiejaegimilaa
/- THE CELL 'sum', in the pinned program and in every row, IS THE sha256 OF THE DUMP (.gsa) THAT YtgaiejaegimilaaProg.lean LOADS. Nothing in Lean hashes anything: it is a label: what it is worth is what the hold of that sum in a sandbox is worth. -/
noncomputable def Try.pinned : Pinned := { name := "ytgaiejaegimilaa", sum := "5acea5eb6b18c2b766ef585777922d3b86f0f19adc6867c1b7122f415f74380c", checked := Try.checked }
namespace Rows
def none {H : Type} : Left H := { results := [], args := [] }

/-- 'laws.FnExactDivisionOf': WHATEVER THE INPUT: true; the input reads as it did. -/
def fnExactDivisionOfSpec : ChangeSpec := { name := "fnExactDivisionOf", fn := fun _ => fun
  | [d] => { results := [.lit (.bool true)], args := [d] }
  | _ => none }
def fnExactDivisionOfRow : OpenClaim := { program := "ytgaiejaegimilaa", sum := "5acea5eb6b18c2b766ef585777922d3b86f0f19adc6867c1b7122f415f74380c", func := "loop.example/g00903/laws.FnExactDivisionOf", spec := "fnExactDivisionOf", plainKeys := false, apart := false }
def FnExactDivisionOfSaid : Prop := fnExactDivisionOfRow.holds Try.pinned (OpenSpec.ofChange fnExactDivisionOfSpec)

/-- ITS FALSE NEIGHBOUR: 'it returns false'. Refute it at one input. -/
def fnExactDivisionOfWrong : ChangeSpec := { name := "fnExactDivisionOf", fn := fun _ => fun
  | [d] => { results := [.lit (.bool false)], args := [d] }
  | _ => none }
def FnExactDivisionOfWrongFalsely : Prop := fnExactDivisionOfRow.holds Try.pinned (OpenSpec.ofChange fnExactDivisionOfWrong)

/-- 'laws.FnExactGatesOfScore': WHATEVER THE INPUT: true; the input reads as it did. -/
def fnExactGatesOfScoreSpec : ChangeSpec := { name := "fnExactGatesOfScore", fn := fun _ => fun
  | [d1, d2] => { results := [.lit (.bool true)], args := [d1, d2] }
  | _ => none }
def fnExactGatesOfScoreRow : OpenClaim := { program := "ytgaiejaegimilaa", sum := "5acea5eb6b18c2b766ef585777922d3b86f0f19adc6867c1b7122f415f74380c", func := "loop.example/g00903/laws.FnExactGatesOfScore", spec := "fnExactGatesOfScore", plainKeys := false, apart := false }
def FnExactGatesOfScoreSaid : Prop := fnExactGatesOfScoreRow.holds Try.pinned (OpenSpec.ofChange fnExactGatesOfScoreSpec)

/-- ITS FALSE NEIGHBOUR: 'it returns false'. Refute it at one input. -/
def fnExactGatesOfScoreWrong : ChangeSpec := { name := "fnExactGatesOfScore", fn := fun _ => fun
  | [d1, d2] => { results := [.lit (.bool false)], args := [d1, d2] }
  | _ => none }
def FnExactGatesOfScoreWrongFalsely : Prop := fnExactGatesOfScoreRow.holds Try.pinned (OpenSpec.ofChange fnExactGatesOfScoreWrong)

/-- 'laws.FnExactPerformLength': WHATEVER THE INPUT: true; the input reads as it did. -/
def fnExactPerformLengthSpec : ChangeSpec := { name := "fnExactPerformLength", fn := fun _ => fun
  | [d1, d2] => { results := [.lit (.bool true)], args := [d1, d2] }
  | _ => none }
def fnExactPerformLengthRow : OpenClaim := { program := "ytgaiejaegimilaa", sum := "5acea5eb6b18c2b766ef585777922d3b86f0f19adc6867c1b7122f415f74380c", func := "loop.example/g00903/laws.FnExactPerformLength", spec := "fnExactPerformLength", plainKeys := false, apart := false }
def FnExactPerformLengthSaid : Prop := fnExactPerformLengthRow.holds Try.pinned (OpenSpec.ofChange fnExactPerformLengthSpec)

/-- ITS FALSE NEIGHBOUR: 'it returns false'. Refute it at one input. -/
def fnExactPerformLengthWrong : ChangeSpec := { name := "fnExactPerformLength", fn := fun _ => fun
  | [d1, d2] => { results := [.lit (.bool false)], args := [d1, d2] }
  | _ => none }
def FnExactPerformLengthWrongFalsely : Prop := fnExactPerformLengthRow.holds Try.pinned (OpenSpec.ofChange fnExactPerformLengthWrong)

/-- 'laws.FnGates': WHATEVER THE INPUT: true; the input reads as it did. -/
def fnGatesSpec : ChangeSpec := { name := "fnGates", fn := fun _ => fun
  | [d1, d2] => { results := [.lit (.bool true)], args := [d1, d2] }
  | _ => none }
def fnGatesRow : OpenClaim := { program := "ytgaiejaegimilaa", sum := "5acea5eb6b18c2b766ef585777922d3b86f0f19adc6867c1b7122f415f74380c", func := "loop.example/g00903/laws.FnGates", spec := "fnGates", plainKeys := false, apart := false }
def FnGatesSaid : Prop := fnGatesRow.holds Try.pinned (OpenSpec.ofChange fnGatesSpec)

/-- ITS FALSE NEIGHBOUR: 'it returns false'. Refute it at one input. -/
def fnGatesWrong : ChangeSpec := { name := "fnGates", fn := fun _ => fun
  | [d1, d2] => { results := [.lit (.bool false)], args := [d1, d2] }
  | _ => none }
def FnGatesWrongFalsely : Prop := fnGatesRow.holds Try.pinned (OpenSpec.ofChange fnGatesWrong)

/-- 'laws.FnExactScoreOfStream': WHATEVER THE INPUT: true; the input reads as it did. -/
def fnExactScoreOfStreamSpec : ChangeSpec := { name := "fnExactScoreOfStream", fn := fun _ => fun
  | [d1, d2] => { results := [.lit (.bool true)], args := [d1, d2] }
  | _ => none }
def fnExactScoreOfStreamRow : OpenClaim := { program := "ytgaiejaegimilaa", sum := "5acea5eb6b18c2b766ef585777922d3b86f0f19adc6867c1b7122f415f74380c", func := "loop.example/g00903/laws.FnExactScoreOfStream", spec := "fnExactScoreOfStream", unfollowed := true, recurses := true, plainKeys := false, apart := false }
def FnExactScoreOfStreamSaid : Prop := fnExactScoreOfStreamRow.holds Try.pinned (OpenSpec.ofChange fnExactScoreOfStreamSpec)

/-- ITS FALSE NEIGHBOUR: 'it returns false'. Refute it at one input. -/
def fnExactScoreOfStreamWrong : ChangeSpec := { name := "fnExactScoreOfStream", fn := fun _ => fun
  | [d1, d2] => { results := [.lit (.bool false)], args := [d1, d2] }
  | _ => none }
def FnExactScoreOfStreamWrongFalsely : Prop := fnExactScoreOfStreamRow.holds Try.pinned (OpenSpec.ofChange fnExactScoreOfStreamWrong)

/-- 'laws.FnExactStreamOfScore': WHATEVER THE INPUT: true; the input reads as it did. -/
def fnExactStreamOfScoreSpec : ChangeSpec := { name := "fnExactStreamOfScore", fn := fun _ => fun
  | [d1, d2] => { results := [.lit (.bool true)], args := [d1, d2] }
  | _ => none }
def fnExactStreamOfScoreRow : OpenClaim := { program := "ytgaiejaegimilaa", sum := "5acea5eb6b18c2b766ef585777922d3b86f0f19adc6867c1b7122f415f74380c", func := "loop.example/g00903/laws.FnExactStreamOfScore", spec := "fnExactStreamOfScore", unfollowed := true, recurses := true, plainKeys := false, apart := false }
def FnExactStreamOfScoreSaid : Prop := fnExactStreamOfScoreRow.holds Try.pinned (OpenSpec.ofChange fnExactStreamOfScoreSpec)

/-- ITS FALSE NEIGHBOUR: 'it returns false'. Refute it at one input. -/
def fnExactStreamOfScoreWrong : ChangeSpec := { name := "fnExactStreamOfScore", fn := fun _ => fun
  | [d1, d2] => { results := [.lit (.bool false)], args := [d1, d2] }
  | _ => none }
def FnExactStreamOfScoreWrongFalsely : Prop := fnExactStreamOfScoreRow.holds Try.pinned (OpenSpec.ofChange fnExactStreamOfScoreWrong)

/-- 'laws.FnScoreStream': WHATEVER THE INPUT: true; the input reads as it did. -/
def fnScoreStreamSpec : ChangeSpec := { name := "fnScoreStream", fn := fun _ => fun
  | [d1, d2] => { results := [.lit (.bool true)], args := [d1, d2] }
  | _ => none }
def fnScoreStreamRow : OpenClaim := { program := "ytgaiejaegimilaa", sum := "5acea5eb6b18c2b766ef585777922d3b86f0f19adc6867c1b7122f415f74380c", func := "loop.example/g00903/laws.FnScoreStream", spec := "fnScoreStream", unfollowed := true, recurses := true, plainKeys := false, apart := false }
def FnScoreStreamSaid : Prop := fnScoreStreamRow.holds Try.pinned (OpenSpec.ofChange fnScoreStreamSpec)

/-- ITS FALSE NEIGHBOUR: 'it returns false'. Refute it at one input. -/
def fnScoreStreamWrong : ChangeSpec := { name := "fnScoreStream", fn := fun _ => fun
  | [d1, d2] => { results := [.lit (.bool false)], args := [d1, d2] }
  | _ => none }
def FnScoreStreamWrongFalsely : Prop := fnScoreStreamRow.holds Try.pinned (OpenSpec.ofChange fnScoreStreamWrong)

/- THE SECOND FORM. 'bulk': how many values and letters a reading holds, each counted each time it is reached (what is shared counts as often as it is met; a slice's spare places count too). A statement '..UptoSaid' is the law's where the arguments, and the package variables that the reading takes, are together of bulk at most 1048576: NARROWER than '..Said'. Prove '..Said' where nothing that the law and all that it calls make is longer than what came in: it says more and counts as full. Else prove '..UptoSaid'. A law counts once. -/
mutual
def uptoBulk {H : Type} : DataW H → Nat
  | .lit (.string bytes) => bytes.length + 1
  | .lit _ => 1
  | .nil => 1
  | .ptr d => uptoBulk d + 1
  | .slice elems spare => uptoBulkAll elems + uptoBulkAll spare + 1
  | .agg parts => uptoBulkAll parts + 1
  | .iface _ d => uptoBulk d + 1
  | .map entries => uptoBulkEntries entries + 1
  | .held _ => 1
def uptoBulkAll {H : Type} : List (DataW H) → Nat
  | [] => 0
  | d :: r => uptoBulk d + uptoBulkAll r
def uptoBulkEntries {H : Type} : List (Lit × DataW H) → Nat
  | [] => 0
  | x :: r => uptoBulkEntry x + uptoBulkEntries r
def uptoBulkEntry {H : Type} : Lit × DataW H → Nat
  | (.string bytes, d) => bytes.length + uptoBulk d + 1
  | (_, d) => uptoBulk d + 1
 end
def uptoSmall : (H : Type) → List (DataW H) → Bool := fun _ ds => decide (uptoBulkAll ds ≤ 1048576)
def OpenSpec.upto (s : _root_.Go.ChangeSpec) : _root_.Go.OpenSpec := { _root_.Go.OpenSpec.ofChange s with cond := some uptoSmall }

/-- 'laws.FnExactDivisionOf', WHERE WHAT IT READS IS OF BULK AT MOST 1048576: true; the input reads as it did. -/
def fnExactDivisionOfUptoRow : OpenClaim := { program := "ytgaiejaegimilaa", sum := "5acea5eb6b18c2b766ef585777922d3b86f0f19adc6867c1b7122f415f74380c", func := "loop.example/g00903/laws.FnExactDivisionOf", spec := "fnExactDivisionOf", plainKeys := false, apart := false, narrowed := true }
def FnExactDivisionOfUptoSaid : Prop := fnExactDivisionOfUptoRow.holds Try.pinned (OpenSpec.upto fnExactDivisionOfSpec)

/-- 'laws.FnExactGatesOfScore', WHERE WHAT IT READS IS OF BULK AT MOST 1048576: true; the input reads as it did. -/
def fnExactGatesOfScoreUptoRow : OpenClaim := { program := "ytgaiejaegimilaa", sum := "5acea5eb6b18c2b766ef585777922d3b86f0f19adc6867c1b7122f415f74380c", func := "loop.example/g00903/laws.FnExactGatesOfScore", spec := "fnExactGatesOfScore", plainKeys := false, apart := false, narrowed := true }
def FnExactGatesOfScoreUptoSaid : Prop := fnExactGatesOfScoreUptoRow.holds Try.pinned (OpenSpec.upto fnExactGatesOfScoreSpec)

/-- 'laws.FnExactPerformLength', WHERE WHAT IT READS IS OF BULK AT MOST 1048576: true; the input reads as it did. -/
def fnExactPerformLengthUptoRow : OpenClaim := { program := "ytgaiejaegimilaa", sum := "5acea5eb6b18c2b766ef585777922d3b86f0f19adc6867c1b7122f415f74380c", func := "loop.example/g00903/laws.FnExactPerformLength", spec := "fnExactPerformLength", plainKeys := false, apart := false, narrowed := true }
def FnExactPerformLengthUptoSaid : Prop := fnExactPerformLengthUptoRow.holds Try.pinned (OpenSpec.upto fnExactPerformLengthSpec)

/-- 'laws.FnGates', WHERE WHAT IT READS IS OF BULK AT MOST 1048576: true; the input reads as it did. -/
def fnGatesUptoRow : OpenClaim := { program := "ytgaiejaegimilaa", sum := "5acea5eb6b18c2b766ef585777922d3b86f0f19adc6867c1b7122f415f74380c", func := "loop.example/g00903/laws.FnGates", spec := "fnGates", plainKeys := false, apart := false, narrowed := true }
def FnGatesUptoSaid : Prop := fnGatesUptoRow.holds Try.pinned (OpenSpec.upto fnGatesSpec)

/-- 'laws.FnExactScoreOfStream', WHERE WHAT IT READS IS OF BULK AT MOST 1048576: true; the input reads as it did. -/
def fnExactScoreOfStreamUptoRow : OpenClaim := { program := "ytgaiejaegimilaa", sum := "5acea5eb6b18c2b766ef585777922d3b86f0f19adc6867c1b7122f415f74380c", func := "loop.example/g00903/laws.FnExactScoreOfStream", spec := "fnExactScoreOfStream", unfollowed := true, recurses := true, plainKeys := false, apart := false, narrowed := true }
def FnExactScoreOfStreamUptoSaid : Prop := fnExactScoreOfStreamUptoRow.holds Try.pinned (OpenSpec.upto fnExactScoreOfStreamSpec)

/-- 'laws.FnExactStreamOfScore', WHERE WHAT IT READS IS OF BULK AT MOST 1048576: true; the input reads as it did. -/
def fnExactStreamOfScoreUptoRow : OpenClaim := { program := "ytgaiejaegimilaa", sum := "5acea5eb6b18c2b766ef585777922d3b86f0f19adc6867c1b7122f415f74380c", func := "loop.example/g00903/laws.FnExactStreamOfScore", spec := "fnExactStreamOfScore", unfollowed := true, recurses := true, plainKeys := false, apart := false, narrowed := true }
def FnExactStreamOfScoreUptoSaid : Prop := fnExactStreamOfScoreUptoRow.holds Try.pinned (OpenSpec.upto fnExactStreamOfScoreSpec)

/-- 'laws.FnScoreStream', WHERE WHAT IT READS IS OF BULK AT MOST 1048576: true; the input reads as it did. -/
def fnScoreStreamUptoRow : OpenClaim := { program := "ytgaiejaegimilaa", sum := "5acea5eb6b18c2b766ef585777922d3b86f0f19adc6867c1b7122f415f74380c", func := "loop.example/g00903/laws.FnScoreStream", spec := "fnScoreStream", unfollowed := true, recurses := true, plainKeys := false, apart := false, narrowed := true }
def FnScoreStreamUptoSaid : Prop := fnScoreStreamUptoRow.holds Try.pinned (OpenSpec.upto fnScoreStreamSpec)

end Rows
end Go.Proofs.Ytgaiejaegimilaa
