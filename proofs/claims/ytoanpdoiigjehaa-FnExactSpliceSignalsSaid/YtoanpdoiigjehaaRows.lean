/-
  No cell of these rows narrows 'for every input' (looked for: loops, veiled, ifaces, maps, wideKeys, modest, calm, conditions, laid).
  DERIVED. THE GIVEN ROWS OF THIS SEAT. 9 by the template 'for every input the law returns true; each argument reads behind the call as it read before'; 0 by the template 'total and deterministic' (their statements: YtoanpdoiigjehaaTotals.lean).
  GIVEN WITH THE SEED: the statements are not yours to turn. If you find one false, say at which input.
  Laid BY PROGRAM, IN A SANDBOX (cutbox-rows.mjs): the forced cells as the released guide's own fill.sh prints them over the translation a4e3744c5703e82d… (all of the seat's roots in one cut). By AI agents, Wed Nov 11 2026. No macro, syntax, notation, axiom, sorry.
-/
import Derived.Test.YtoanpdoiigjehaaChecked
import GoSem.Claim
import GoSem.ClaimJoined
import GoSem.ClaimMapViews
import Derived.JoinedTies
import Derived.KernelRfl
namespace Go.Proofs.Ytoanpdoiigjehaa
/- THE CELL 'sum', in the pinned program and in every row, IS THE sha256 OF THE DUMP (.gsa) THAT YtoanpdoiigjehaaProg.lean LOADS. Nothing in Lean hashes anything: it is a label: what it is worth is what the hold of that sum in a sandbox is worth. -/
noncomputable def Try.pinned : Pinned := { name := "ytoanpdoiigjehaa", sum := "a4e3744c5703e82d68a2d7c2dfb60d06e227c7b1b1fa1fc5ec3db6d7f5f85ad0", checked := Try.checked }
namespace Rows
def none {H : Type} : Left H := { results := [], args := [] }

/-- 'laws.FnExactComplementWindow': WHATEVER THE INPUT: true; the input reads as it did. -/
def fnExactComplementWindowSpec : ChangeSpec := { name := "fnExactComplementWindow", fn := fun _ => fun
  | [d] => { results := [.lit (.bool true)], args := [d] }
  | _ => none }
def fnExactComplementWindowRow : OpenClaim := { program := "ytoanpdoiigjehaa", sum := "a4e3744c5703e82d68a2d7c2dfb60d06e227c7b1b1fa1fc5ec3db6d7f5f85ad0", func := "loop.example/g00903/laws.FnExactComplementWindow", spec := "fnExactComplementWindow", apart := false }
def FnExactComplementWindowSaid : Prop := fnExactComplementWindowRow.holds Try.pinned (OpenSpec.ofChange fnExactComplementWindowSpec)

/-- ITS FALSE NEIGHBOUR: 'it returns false'. Refute it at one input. -/
def fnExactComplementWindowWrong : ChangeSpec := { name := "fnExactComplementWindow", fn := fun _ => fun
  | [d] => { results := [.lit (.bool false)], args := [d] }
  | _ => none }
def FnExactComplementWindowWrongFalsely : Prop := fnExactComplementWindowRow.holds Try.pinned (OpenSpec.ofChange fnExactComplementWindowWrong)

/-- 'laws.FnExactReverseWindow': WHATEVER THE INPUT: true; the input reads as it did. -/
def fnExactReverseWindowSpec : ChangeSpec := { name := "fnExactReverseWindow", fn := fun _ => fun
  | [d] => { results := [.lit (.bool true)], args := [d] }
  | _ => none }
def fnExactReverseWindowRow : OpenClaim := { program := "ytoanpdoiigjehaa", sum := "a4e3744c5703e82d68a2d7c2dfb60d06e227c7b1b1fa1fc5ec3db6d7f5f85ad0", func := "loop.example/g00903/laws.FnExactReverseWindow", spec := "fnExactReverseWindow", apart := false }
def FnExactReverseWindowSaid : Prop := fnExactReverseWindowRow.holds Try.pinned (OpenSpec.ofChange fnExactReverseWindowSpec)

/-- ITS FALSE NEIGHBOUR: 'it returns false'. Refute it at one input. -/
def fnExactReverseWindowWrong : ChangeSpec := { name := "fnExactReverseWindow", fn := fun _ => fun
  | [d] => { results := [.lit (.bool false)], args := [d] }
  | _ => none }
def FnExactReverseWindowWrongFalsely : Prop := fnExactReverseWindowRow.holds Try.pinned (OpenSpec.ofChange fnExactReverseWindowWrong)

/-- 'laws.FnExactCrossfade': WHATEVER THE INPUT: true; the input reads as it did. -/
def fnExactCrossfadeSpec : ChangeSpec := { name := "fnExactCrossfade", fn := fun _ => fun
  | [d1, d2, d3] => { results := [.lit (.bool true)], args := [d1, d2, d3] }
  | _ => none }
def fnExactCrossfadeRow : OpenClaim := { program := "ytoanpdoiigjehaa", sum := "a4e3744c5703e82d68a2d7c2dfb60d06e227c7b1b1fa1fc5ec3db6d7f5f85ad0", func := "loop.example/g00903/laws.FnExactCrossfade", spec := "fnExactCrossfade", apart := false }
def FnExactCrossfadeSaid : Prop := fnExactCrossfadeRow.holds Try.pinned (OpenSpec.ofChange fnExactCrossfadeSpec)

/-- ITS FALSE NEIGHBOUR: 'it returns false'. Refute it at one input. -/
def fnExactCrossfadeWrong : ChangeSpec := { name := "fnExactCrossfade", fn := fun _ => fun
  | [d1, d2, d3] => { results := [.lit (.bool false)], args := [d1, d2, d3] }
  | _ => none }
def FnExactCrossfadeWrongFalsely : Prop := fnExactCrossfadeRow.holds Try.pinned (OpenSpec.ofChange fnExactCrossfadeWrong)

/-- 'laws.FnExactSpliceSignals': WHATEVER THE INPUT: true; the input reads as it did. -/
def fnExactSpliceSignalsSpec : ChangeSpec := { name := "fnExactSpliceSignals", fn := fun _ => fun
  | [d1, d2, d3] => { results := [.lit (.bool true)], args := [d1, d2, d3] }
  | _ => none }
def fnExactSpliceSignalsRow : OpenClaim := { program := "ytoanpdoiigjehaa", sum := "a4e3744c5703e82d68a2d7c2dfb60d06e227c7b1b1fa1fc5ec3db6d7f5f85ad0", func := "loop.example/g00903/laws.FnExactSpliceSignals", spec := "fnExactSpliceSignals", apart := false }
def FnExactSpliceSignalsSaid : Prop := fnExactSpliceSignalsRow.holds Try.pinned (OpenSpec.ofChange fnExactSpliceSignalsSpec)

/-- ITS FALSE NEIGHBOUR: 'it returns false'. Refute it at one input. -/
def fnExactSpliceSignalsWrong : ChangeSpec := { name := "fnExactSpliceSignals", fn := fun _ => fun
  | [d1, d2, d3] => { results := [.lit (.bool false)], args := [d1, d2, d3] }
  | _ => none }
def FnExactSpliceSignalsWrongFalsely : Prop := fnExactSpliceSignalsRow.holds Try.pinned (OpenSpec.ofChange fnExactSpliceSignalsWrong)

/-- 'laws.FnExactFadeSignal': WHATEVER THE INPUT: true; the input reads as it did. -/
def fnExactFadeSignalSpec : ChangeSpec := { name := "fnExactFadeSignal", fn := fun _ => fun
  | [d1, d2, d3] => { results := [.lit (.bool true)], args := [d1, d2, d3] }
  | _ => none }
def fnExactFadeSignalRow : OpenClaim := { program := "ytoanpdoiigjehaa", sum := "a4e3744c5703e82d68a2d7c2dfb60d06e227c7b1b1fa1fc5ec3db6d7f5f85ad0", func := "loop.example/g00903/laws.FnExactFadeSignal", spec := "fnExactFadeSignal", apart := false }
def FnExactFadeSignalSaid : Prop := fnExactFadeSignalRow.holds Try.pinned (OpenSpec.ofChange fnExactFadeSignalSpec)

/-- ITS FALSE NEIGHBOUR: 'it returns false'. Refute it at one input. -/
def fnExactFadeSignalWrong : ChangeSpec := { name := "fnExactFadeSignal", fn := fun _ => fun
  | [d1, d2, d3] => { results := [.lit (.bool false)], args := [d1, d2, d3] }
  | _ => none }
def FnExactFadeSignalWrongFalsely : Prop := fnExactFadeSignalRow.holds Try.pinned (OpenSpec.ofChange fnExactFadeSignalWrong)

/-- 'laws.FnExactFadeEdges': WHATEVER THE INPUT: true; the input reads as it did. -/
def fnExactFadeEdgesSpec : ChangeSpec := { name := "fnExactFadeEdges", fn := fun _ => fun
  | [d1, d2, d3] => { results := [.lit (.bool true)], args := [d1, d2, d3] }
  | _ => none }
def fnExactFadeEdgesRow : OpenClaim := { program := "ytoanpdoiigjehaa", sum := "a4e3744c5703e82d68a2d7c2dfb60d06e227c7b1b1fa1fc5ec3db6d7f5f85ad0", func := "loop.example/g00903/laws.FnExactFadeEdges", spec := "fnExactFadeEdges", apart := false }
def FnExactFadeEdgesSaid : Prop := fnExactFadeEdgesRow.holds Try.pinned (OpenSpec.ofChange fnExactFadeEdgesSpec)

/-- ITS FALSE NEIGHBOUR: 'it returns false'. Refute it at one input. -/
def fnExactFadeEdgesWrong : ChangeSpec := { name := "fnExactFadeEdges", fn := fun _ => fun
  | [d1, d2, d3] => { results := [.lit (.bool false)], args := [d1, d2, d3] }
  | _ => none }
def FnExactFadeEdgesWrongFalsely : Prop := fnExactFadeEdgesRow.holds Try.pinned (OpenSpec.ofChange fnExactFadeEdgesWrong)

/-- 'laws.FnExactFadeRest': WHATEVER THE INPUT: true; the input reads as it did. -/
def fnExactFadeRestSpec : ChangeSpec := { name := "fnExactFadeRest", fn := fun _ => fun
  | [d1, d2, d3] => { results := [.lit (.bool true)], args := [d1, d2, d3] }
  | _ => none }
def fnExactFadeRestRow : OpenClaim := { program := "ytoanpdoiigjehaa", sum := "a4e3744c5703e82d68a2d7c2dfb60d06e227c7b1b1fa1fc5ec3db6d7f5f85ad0", func := "loop.example/g00903/laws.FnExactFadeRest", spec := "fnExactFadeRest", apart := false }
def FnExactFadeRestSaid : Prop := fnExactFadeRestRow.holds Try.pinned (OpenSpec.ofChange fnExactFadeRestSpec)

/-- ITS FALSE NEIGHBOUR: 'it returns false'. Refute it at one input. -/
def fnExactFadeRestWrong : ChangeSpec := { name := "fnExactFadeRest", fn := fun _ => fun
  | [d1, d2, d3] => { results := [.lit (.bool false)], args := [d1, d2, d3] }
  | _ => none }
def FnExactFadeRestWrongFalsely : Prop := fnExactFadeRestRow.holds Try.pinned (OpenSpec.ofChange fnExactFadeRestWrong)

/-- 'laws.FnWindows': WHATEVER THE INPUT: true; the input reads as it did. -/
def fnWindowsSpec : ChangeSpec := { name := "fnWindows", fn := fun _ => fun
  | [d] => { results := [.lit (.bool true)], args := [d] }
  | _ => none }
def fnWindowsRow : OpenClaim := { program := "ytoanpdoiigjehaa", sum := "a4e3744c5703e82d68a2d7c2dfb60d06e227c7b1b1fa1fc5ec3db6d7f5f85ad0", func := "loop.example/g00903/laws.FnWindows", spec := "fnWindows", unfollowed := true, recurses := true, apart := false }
def FnWindowsSaid : Prop := fnWindowsRow.holds Try.pinned (OpenSpec.ofChange fnWindowsSpec)

/-- ITS FALSE NEIGHBOUR: 'it returns false'. Refute it at one input. -/
def fnWindowsWrong : ChangeSpec := { name := "fnWindows", fn := fun _ => fun
  | [d] => { results := [.lit (.bool false)], args := [d] }
  | _ => none }
def FnWindowsWrongFalsely : Prop := fnWindowsRow.holds Try.pinned (OpenSpec.ofChange fnWindowsWrong)

/-- 'laws.FnFades': WHATEVER THE INPUT: true; the input reads as it did. -/
def fnFadesSpec : ChangeSpec := { name := "fnFades", fn := fun _ => fun
  | [d1, d2] => { results := [.lit (.bool true)], args := [d1, d2] }
  | _ => none }
def fnFadesRow : OpenClaim := { program := "ytoanpdoiigjehaa", sum := "a4e3744c5703e82d68a2d7c2dfb60d06e227c7b1b1fa1fc5ec3db6d7f5f85ad0", func := "loop.example/g00903/laws.FnFades", spec := "fnFades", apart := false }
def FnFadesSaid : Prop := fnFadesRow.holds Try.pinned (OpenSpec.ofChange fnFadesSpec)

/-- ITS FALSE NEIGHBOUR: 'it returns false'. Refute it at one input. -/
def fnFadesWrong : ChangeSpec := { name := "fnFades", fn := fun _ => fun
  | [d1, d2] => { results := [.lit (.bool false)], args := [d1, d2] }
  | _ => none }
def FnFadesWrongFalsely : Prop := fnFadesRow.holds Try.pinned (OpenSpec.ofChange fnFadesWrong)

/- THE SECOND FORM. 'bulk': how many values and letters a reading holds, each counted each time it is reached (what is shared counts as often as it is met; a slice's spare places count too). A statement '..UptoSaid' is the law's where the arguments, and the package variables that the reading takes, are together of bulk at most 1048576: NARROWER than '..Said'. Prove '..Said' where nothing that the law and all that it calls make is longer than what came in: it says more and counts as full. Else prove '..UptoSaid'. A law counts once. -/
mutual
def uptoBulk {H : Type} : DataW H → Nat
  | .lit (.string bytes) => bytes.length + 1
  | .lit _ => 1
  | .nil => 1
  | .ptr d => uptoBulk d + 1
  | .slice elems spare => uptoBulkAll elems + uptoBulkAll spare + 1
  | .agg parts => uptoBulkAll parts + 1
  | .iface _ d => uptoBulk d + 1
  | .map entries => uptoBulkEntries entries + 1
  | .held _ => 1
def uptoBulkAll {H : Type} : List (DataW H) → Nat
  | [] => 0
  | d :: r => uptoBulk d + uptoBulkAll r
def uptoBulkEntries {H : Type} : List (Lit × DataW H) → Nat
  | [] => 0
  | x :: r => uptoBulkEntry x + uptoBulkEntries r
def uptoBulkEntry {H : Type} : Lit × DataW H → Nat
  | (.string bytes, d) => bytes.length + uptoBulk d + 1
  | (_, d) => uptoBulk d + 1
 end
def uptoSmall : (H : Type) → List (DataW H) → Bool := fun _ ds => decide (uptoBulkAll ds ≤ 1048576)
def OpenSpec.upto (s : _root_.Go.ChangeSpec) : _root_.Go.OpenSpec := { _root_.Go.OpenSpec.ofChange s with cond := some uptoSmall }

/-- 'laws.FnExactComplementWindow', WHERE WHAT IT READS IS OF BULK AT MOST 1048576: true; the input reads as it did. -/
def fnExactComplementWindowUptoRow : OpenClaim := { program := "ytoanpdoiigjehaa", sum := "a4e3744c5703e82d68a2d7c2dfb60d06e227c7b1b1fa1fc5ec3db6d7f5f85ad0", func := "loop.example/g00903/laws.FnExactComplementWindow", spec := "fnExactComplementWindow", apart := false, narrowed := true }
def FnExactComplementWindowUptoSaid : Prop := fnExactComplementWindowUptoRow.holds Try.pinned (OpenSpec.upto fnExactComplementWindowSpec)

/-- 'laws.FnExactReverseWindow', WHERE WHAT IT READS IS OF BULK AT MOST 1048576: true; the input reads as it did. -/
def fnExactReverseWindowUptoRow : OpenClaim := { program := "ytoanpdoiigjehaa", sum := "a4e3744c5703e82d68a2d7c2dfb60d06e227c7b1b1fa1fc5ec3db6d7f5f85ad0", func := "loop.example/g00903/laws.FnExactReverseWindow", spec := "fnExactReverseWindow", apart := false, narrowed := true }
def FnExactReverseWindowUptoSaid : Prop := fnExactReverseWindowUptoRow.holds Try.pinned (OpenSpec.upto fnExactReverseWindowSpec)

/-- 'laws.FnExactCrossfade', WHERE WHAT IT READS IS OF BULK AT MOST 1048576: true; the input reads as it did. -/
def fnExactCrossfadeUptoRow : OpenClaim := { program := "ytoanpdoiigjehaa", sum := "a4e3744c5703e82d68a2d7c2dfb60d06e227c7b1b1fa1fc5ec3db6d7f5f85ad0", func := "loop.example/g00903/laws.FnExactCrossfade", spec := "fnExactCrossfade", apart := false, narrowed := true }
def FnExactCrossfadeUptoSaid : Prop := fnExactCrossfadeUptoRow.holds Try.pinned (OpenSpec.upto fnExactCrossfadeSpec)

/-- 'laws.FnExactSpliceSignals', WHERE WHAT IT READS IS OF BULK AT MOST 1048576: true; the input reads as it did. -/
def fnExactSpliceSignalsUptoRow : OpenClaim := { program := "ytoanpdoiigjehaa", sum := "a4e3744c5703e82d68a2d7c2dfb60d06e227c7b1b1fa1fc5ec3db6d7f5f85ad0", func := "loop.example/g00903/laws.FnExactSpliceSignals", spec := "fnExactSpliceSignals", apart := false, narrowed := true }
def FnExactSpliceSignalsUptoSaid : Prop := fnExactSpliceSignalsUptoRow.holds Try.pinned (OpenSpec.upto fnExactSpliceSignalsSpec)

/-- 'laws.FnExactFadeSignal', WHERE WHAT IT READS IS OF BULK AT MOST 1048576: true; the input reads as it did. -/
def fnExactFadeSignalUptoRow : OpenClaim := { program := "ytoanpdoiigjehaa", sum := "a4e3744c5703e82d68a2d7c2dfb60d06e227c7b1b1fa1fc5ec3db6d7f5f85ad0", func := "loop.example/g00903/laws.FnExactFadeSignal", spec := "fnExactFadeSignal", apart := false, narrowed := true }
def FnExactFadeSignalUptoSaid : Prop := fnExactFadeSignalUptoRow.holds Try.pinned (OpenSpec.upto fnExactFadeSignalSpec)

/-- 'laws.FnExactFadeEdges', WHERE WHAT IT READS IS OF BULK AT MOST 1048576: true; the input reads as it did. -/
def fnExactFadeEdgesUptoRow : OpenClaim := { program := "ytoanpdoiigjehaa", sum := "a4e3744c5703e82d68a2d7c2dfb60d06e227c7b1b1fa1fc5ec3db6d7f5f85ad0", func := "loop.example/g00903/laws.FnExactFadeEdges", spec := "fnExactFadeEdges", apart := false, narrowed := true }
def FnExactFadeEdgesUptoSaid : Prop := fnExactFadeEdgesUptoRow.holds Try.pinned (OpenSpec.upto fnExactFadeEdgesSpec)

/-- 'laws.FnExactFadeRest', WHERE WHAT IT READS IS OF BULK AT MOST 1048576: true; the input reads as it did. -/
def fnExactFadeRestUptoRow : OpenClaim := { program := "ytoanpdoiigjehaa", sum := "a4e3744c5703e82d68a2d7c2dfb60d06e227c7b1b1fa1fc5ec3db6d7f5f85ad0", func := "loop.example/g00903/laws.FnExactFadeRest", spec := "fnExactFadeRest", apart := false, narrowed := true }
def FnExactFadeRestUptoSaid : Prop := fnExactFadeRestUptoRow.holds Try.pinned (OpenSpec.upto fnExactFadeRestSpec)

/-- 'laws.FnWindows', WHERE WHAT IT READS IS OF BULK AT MOST 1048576: true; the input reads as it did. -/
def fnWindowsUptoRow : OpenClaim := { program := "ytoanpdoiigjehaa", sum := "a4e3744c5703e82d68a2d7c2dfb60d06e227c7b1b1fa1fc5ec3db6d7f5f85ad0", func := "loop.example/g00903/laws.FnWindows", spec := "fnWindows", unfollowed := true, recurses := true, apart := false, narrowed := true }
def FnWindowsUptoSaid : Prop := fnWindowsUptoRow.holds Try.pinned (OpenSpec.upto fnWindowsSpec)

/-- 'laws.FnFades', WHERE WHAT IT READS IS OF BULK AT MOST 1048576: true; the input reads as it did. -/
def fnFadesUptoRow : OpenClaim := { program := "ytoanpdoiigjehaa", sum := "a4e3744c5703e82d68a2d7c2dfb60d06e227c7b1b1fa1fc5ec3db6d7f5f85ad0", func := "loop.example/g00903/laws.FnFades", spec := "fnFades", apart := false, narrowed := true }
def FnFadesUptoSaid : Prop := fnFadesUptoRow.holds Try.pinned (OpenSpec.upto fnFadesSpec)

end Rows
end Go.Proofs.Ytoanpdoiigjehaa
