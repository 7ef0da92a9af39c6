/-
  No cell of these rows narrows 'for every input' (looked for: loops, veiled, ifaces, maps, wideKeys, modest, calm, conditions, laid).
  DERIVED. THE GIVEN ROWS OF THIS SEAT. 10 by the template 'for every input the law returns true; each argument reads behind the call as it read before'; 0 by the template 'total and deterministic' (their statements: YtaacgipfmmomiaaTotals.lean).
  GIVEN WITH THE SEED: the statements are not yours to turn. If you find one false, say at which input.
  Laid BY PROGRAM, IN A SANDBOX (cutbox-rows.mjs): the forced cells as the released guide's own fill.sh prints them over the translation 47e447e0f6a5c607… (all of the seat's roots in one cut). By AI agents, Wed Nov 11 2026. No macro, syntax, notation, axiom, sorry.
-/
import Derived.Test.YtaacgipfmmomiaaChecked
import GoSem.Claim
import GoSem.ClaimJoined
import GoSem.ClaimMapViews
import Derived.JoinedTies
import Derived.KernelRfl
namespace Go.Proofs.Ytaacgipfmmomiaa
/- THE CELL 'sum', in the pinned program and in every row, IS THE sha256 OF THE DUMP (.gsa) THAT YtaacgipfmmomiaaProg.lean LOADS. Nothing in Lean hashes anything: it is a label: what it is worth is what the hold of that sum in a sandbox is worth. -/
noncomputable def Try.pinned : Pinned := { name := "ytaacgipfmmomiaa", sum := "47e447e0f6a5c607f5c542f15c1ad51c79beadc24236b7a670f6dc96ef94b2a7", checked := Try.checked }
namespace Rows
def none {H : Type} : Left H := { results := [], args := [] }

/-- 'laws.FnExactSameTrack': WHATEVER THE INPUT: true; the input reads as it did. -/
def fnExactSameTrackSpec : ChangeSpec := { name := "fnExactSameTrack", fn := fun _ => fun
  | [d1, d2] => { results := [.lit (.bool true)], args := [d1, d2] }
  | _ => none }
def fnExactSameTrackRow : OpenClaim := { program := "ytaacgipfmmomiaa", sum := "47e447e0f6a5c607f5c542f15c1ad51c79beadc24236b7a670f6dc96ef94b2a7", func := "loop.example/g00903/laws.FnExactSameTrack", spec := "fnExactSameTrack", apart := false }
def FnExactSameTrackSaid : Prop := fnExactSameTrackRow.holds Try.pinned (OpenSpec.ofChange fnExactSameTrackSpec)

/-- ITS FALSE NEIGHBOUR: 'it returns false'. Refute it at one input. -/
def fnExactSameTrackWrong : ChangeSpec := { name := "fnExactSameTrack", fn := fun _ => fun
  | [d1, d2] => { results := [.lit (.bool false)], args := [d1, d2] }
  | _ => none }
def FnExactSameTrackWrongFalsely : Prop := fnExactSameTrackRow.holds Try.pinned (OpenSpec.ofChange fnExactSameTrackWrong)

/-- 'laws.FnExactValidTrack': WHATEVER THE INPUT: true; the input reads as it did. -/
def fnExactValidTrackSpec : ChangeSpec := { name := "fnExactValidTrack", fn := fun _ => fun
  | [d] => { results := [.lit (.bool true)], args := [d] }
  | _ => none }
def fnExactValidTrackRow : OpenClaim := { program := "ytaacgipfmmomiaa", sum := "47e447e0f6a5c607f5c542f15c1ad51c79beadc24236b7a670f6dc96ef94b2a7", func := "loop.example/g00903/laws.FnExactValidTrack", spec := "fnExactValidTrack", apart := false }
def FnExactValidTrackSaid : Prop := fnExactValidTrackRow.holds Try.pinned (OpenSpec.ofChange fnExactValidTrackSpec)

/-- ITS FALSE NEIGHBOUR: 'it returns false'. Refute it at one input. -/
def fnExactValidTrackWrong : ChangeSpec := { name := "fnExactValidTrack", fn := fun _ => fun
  | [d] => { results := [.lit (.bool false)], args := [d] }
  | _ => none }
def FnExactValidTrackWrongFalsely : Prop := fnExactValidTrackRow.holds Try.pinned (OpenSpec.ofChange fnExactValidTrackWrong)

/-- 'laws.FnExactTrackEnd': WHATEVER THE INPUT: true; the input reads as it did. -/
def fnExactTrackEndSpec : ChangeSpec := { name := "fnExactTrackEnd", fn := fun _ => fun
  | [d] => { results := [.lit (.bool true)], args := [d] }
  | _ => none }
def fnExactTrackEndRow : OpenClaim := { program := "ytaacgipfmmomiaa", sum := "47e447e0f6a5c607f5c542f15c1ad51c79beadc24236b7a670f6dc96ef94b2a7", func := "loop.example/g00903/laws.FnExactTrackEnd", spec := "fnExactTrackEnd", apart := false }
def FnExactTrackEndSaid : Prop := fnExactTrackEndRow.holds Try.pinned (OpenSpec.ofChange fnExactTrackEndSpec)

/-- ITS FALSE NEIGHBOUR: 'it returns false'. Refute it at one input. -/
def fnExactTrackEndWrong : ChangeSpec := { name := "fnExactTrackEnd", fn := fun _ => fun
  | [d] => { results := [.lit (.bool false)], args := [d] }
  | _ => none }
def FnExactTrackEndWrongFalsely : Prop := fnExactTrackEndRow.holds Try.pinned (OpenSpec.ofChange fnExactTrackEndWrong)

/-- 'laws.FnExactSameCurve': WHATEVER THE INPUT: true; the input reads as it did. -/
def fnExactSameCurveSpec : ChangeSpec := { name := "fnExactSameCurve", fn := fun _ => fun
  | [d1, d2] => { results := [.lit (.bool true)], args := [d1, d2] }
  | _ => none }
def fnExactSameCurveRow : OpenClaim := { program := "ytaacgipfmmomiaa", sum := "47e447e0f6a5c607f5c542f15c1ad51c79beadc24236b7a670f6dc96ef94b2a7", func := "loop.example/g00903/laws.FnExactSameCurve", spec := "fnExactSameCurve", apart := false }
def FnExactSameCurveSaid : Prop := fnExactSameCurveRow.holds Try.pinned (OpenSpec.ofChange fnExactSameCurveSpec)

/-- ITS FALSE NEIGHBOUR: 'it returns false'. Refute it at one input. -/
def fnExactSameCurveWrong : ChangeSpec := { name := "fnExactSameCurve", fn := fun _ => fun
  | [d1, d2] => { results := [.lit (.bool false)], args := [d1, d2] }
  | _ => none }
def FnExactSameCurveWrongFalsely : Prop := fnExactSameCurveRow.holds Try.pinned (OpenSpec.ofChange fnExactSameCurveWrong)

/-- 'laws.FnExactValidCurve': WHATEVER THE INPUT: true; the input reads as it did. -/
def fnExactValidCurveSpec : ChangeSpec := { name := "fnExactValidCurve", fn := fun _ => fun
  | [d] => { results := [.lit (.bool true)], args := [d] }
  | _ => none }
def fnExactValidCurveRow : OpenClaim := { program := "ytaacgipfmmomiaa", sum := "47e447e0f6a5c607f5c542f15c1ad51c79beadc24236b7a670f6dc96ef94b2a7", func := "loop.example/g00903/laws.FnExactValidCurve", spec := "fnExactValidCurve", apart := false }
def FnExactValidCurveSaid : Prop := fnExactValidCurveRow.holds Try.pinned (OpenSpec.ofChange fnExactValidCurveSpec)

/-- ITS FALSE NEIGHBOUR: 'it returns false'. Refute it at one input. -/
def fnExactValidCurveWrong : ChangeSpec := { name := "fnExactValidCurve", fn := fun _ => fun
  | [d] => { results := [.lit (.bool false)], args := [d] }
  | _ => none }
def FnExactValidCurveWrongFalsely : Prop := fnExactValidCurveRow.holds Try.pinned (OpenSpec.ofChange fnExactValidCurveWrong)

/-- 'laws.FnExactValueAt': WHATEVER THE INPUT: true; the input reads as it did. -/
def fnExactValueAtSpec : ChangeSpec := { name := "fnExactValueAt", fn := fun _ => fun
  | [d1, d2] => { results := [.lit (.bool true)], args := [d1, d2] }
  | _ => none }
def fnExactValueAtRow : OpenClaim := { program := "ytaacgipfmmomiaa", sum := "47e447e0f6a5c607f5c542f15c1ad51c79beadc24236b7a670f6dc96ef94b2a7", func := "loop.example/g00903/laws.FnExactValueAt", spec := "fnExactValueAt", apart := false }
def FnExactValueAtSaid : Prop := fnExactValueAtRow.holds Try.pinned (OpenSpec.ofChange fnExactValueAtSpec)

/-- ITS FALSE NEIGHBOUR: 'it returns false'. Refute it at one input. -/
def fnExactValueAtWrong : ChangeSpec := { name := "fnExactValueAt", fn := fun _ => fun
  | [d1, d2] => { results := [.lit (.bool false)], args := [d1, d2] }
  | _ => none }
def FnExactValueAtWrongFalsely : Prop := fnExactValueAtRow.holds Try.pinned (OpenSpec.ofChange fnExactValueAtWrong)

/-- 'laws.FnExactShiftCurve': WHATEVER THE INPUT: true; the input reads as it did. -/
def fnExactShiftCurveSpec : ChangeSpec := { name := "fnExactShiftCurve", fn := fun _ => fun
  | [d1, d2] => { results := [.lit (.bool true)], args := [d1, d2] }
  | _ => none }
def fnExactShiftCurveRow : OpenClaim := { program := "ytaacgipfmmomiaa", sum := "47e447e0f6a5c607f5c542f15c1ad51c79beadc24236b7a670f6dc96ef94b2a7", func := "loop.example/g00903/laws.FnExactShiftCurve", spec := "fnExactShiftCurve", apart := false }
def FnExactShiftCurveSaid : Prop := fnExactShiftCurveRow.holds Try.pinned (OpenSpec.ofChange fnExactShiftCurveSpec)

/-- ITS FALSE NEIGHBOUR: 'it returns false'. Refute it at one input. -/
def fnExactShiftCurveWrong : ChangeSpec := { name := "fnExactShiftCurve", fn := fun _ => fun
  | [d1, d2] => { results := [.lit (.bool false)], args := [d1, d2] }
  | _ => none }
def FnExactShiftCurveWrongFalsely : Prop := fnExactShiftCurveRow.holds Try.pinned (OpenSpec.ofChange fnExactShiftCurveWrong)

/-- 'laws.FnExactAddClip': WHATEVER THE INPUT: true; the input reads as it did. -/
def fnExactAddClipSpec : ChangeSpec := { name := "fnExactAddClip", fn := fun _ => fun
  | [d1, d2] => { results := [.lit (.bool true)], args := [d1, d2] }
  | _ => none }
def fnExactAddClipRow : OpenClaim := { program := "ytaacgipfmmomiaa", sum := "47e447e0f6a5c607f5c542f15c1ad51c79beadc24236b7a670f6dc96ef94b2a7", func := "loop.example/g00903/laws.FnExactAddClip", spec := "fnExactAddClip", inPlace := ["slices.overlaps[loop.example/g00903/impl.Clip]"], apart := false }
def FnExactAddClipSaid : Prop := fnExactAddClipRow.holds Try.pinned (OpenSpec.ofChange fnExactAddClipSpec)

/-- ITS FALSE NEIGHBOUR: 'it returns false'. Refute it at one input. -/
def fnExactAddClipWrong : ChangeSpec := { name := "fnExactAddClip", fn := fun _ => fun
  | [d1, d2] => { results := [.lit (.bool false)], args := [d1, d2] }
  | _ => none }
def FnExactAddClipWrongFalsely : Prop := fnExactAddClipRow.holds Try.pinned (OpenSpec.ofChange fnExactAddClipWrong)

/-- 'laws.FnExactSplitClip': WHATEVER THE INPUT: true; the input reads as it did. -/
def fnExactSplitClipSpec : ChangeSpec := { name := "fnExactSplitClip", fn := fun _ => fun
  | [d1, d2, d3] => { results := [.lit (.bool true)], args := [d1, d2, d3] }
  | _ => none }
def fnExactSplitClipRow : OpenClaim := { program := "ytaacgipfmmomiaa", sum := "47e447e0f6a5c607f5c542f15c1ad51c79beadc24236b7a670f6dc96ef94b2a7", func := "loop.example/g00903/laws.FnExactSplitClip", spec := "fnExactSplitClip", inPlace := ["slices.overlaps[loop.example/g00903/impl.Clip]"], apart := false }
def FnExactSplitClipSaid : Prop := fnExactSplitClipRow.holds Try.pinned (OpenSpec.ofChange fnExactSplitClipSpec)

/-- ITS FALSE NEIGHBOUR: 'it returns false'. Refute it at one input. -/
def fnExactSplitClipWrong : ChangeSpec := { name := "fnExactSplitClip", fn := fun _ => fun
  | [d1, d2, d3] => { results := [.lit (.bool false)], args := [d1, d2, d3] }
  | _ => none }
def FnExactSplitClipWrongFalsely : Prop := fnExactSplitClipRow.holds Try.pinned (OpenSpec.ofChange fnExactSplitClipWrong)

/-- 'laws.FnExactRenderTrack': WHATEVER THE INPUT: true; the input reads as it did. -/
def fnExactRenderTrackSpec : ChangeSpec := { name := "fnExactRenderTrack", fn := fun _ => fun
  | [d1, d2, d3] => { results := [.lit (.bool true)], args := [d1, d2, d3] }
  | _ => none }
def fnExactRenderTrackRow : OpenClaim := { program := "ytaacgipfmmomiaa", sum := "47e447e0f6a5c607f5c542f15c1ad51c79beadc24236b7a670f6dc96ef94b2a7", func := "loop.example/g00903/laws.FnExactRenderTrack", spec := "fnExactRenderTrack", unfollowed := true, recurses := true, apart := false }
def FnExactRenderTrackSaid : Prop := fnExactRenderTrackRow.holds Try.pinned (OpenSpec.ofChange fnExactRenderTrackSpec)

/-- ITS FALSE NEIGHBOUR: 'it returns false'. Refute it at one input. -/
def fnExactRenderTrackWrong : ChangeSpec := { name := "fnExactRenderTrack", fn := fun _ => fun
  | [d1, d2, d3] => { results := [.lit (.bool false)], args := [d1, d2, d3] }
  | _ => none }
def FnExactRenderTrackWrongFalsely : Prop := fnExactRenderTrackRow.holds Try.pinned (OpenSpec.ofChange fnExactRenderTrackWrong)

/- THE SECOND FORM. 'bulk': how many values and letters a reading holds, each counted each time it is reached (what is shared counts as often as it is met; a slice's spare places count too). A statement '..UptoSaid' is the law's where the arguments, and the package variables that the reading takes, are together of bulk at most 1048576: NARROWER than '..Said'. Prove '..Said' where nothing that the law and all that it calls make is longer than what came in: it says more and counts as full. Else prove '..UptoSaid'. A law counts once. -/
mutual
def uptoBulk {H : Type} : DataW H → Nat
  | .lit (.string bytes) => bytes.length + 1
  | .lit _ => 1
  | .nil => 1
  | .ptr d => uptoBulk d + 1
  | .slice elems spare => uptoBulkAll elems + uptoBulkAll spare + 1
  | .agg parts => uptoBulkAll parts + 1
  | .iface _ d => uptoBulk d + 1
  | .map entries => uptoBulkEntries entries + 1
  | .held _ => 1
def uptoBulkAll {H : Type} : List (DataW H) → Nat
  | [] => 0
  | d :: r => uptoBulk d + uptoBulkAll r
def uptoBulkEntries {H : Type} : List (Lit × DataW H) → Nat
  | [] => 0
  | x :: r => uptoBulkEntry x + uptoBulkEntries r
def uptoBulkEntry {H : Type} : Lit × DataW H → Nat
  | (.string bytes, d) => bytes.length + uptoBulk d + 1
  | (_, d) => uptoBulk d + 1
 end
def uptoSmall : (H : Type) → List (DataW H) → Bool := fun _ ds => decide (uptoBulkAll ds ≤ 1048576)
def OpenSpec.upto (s : _root_.Go.ChangeSpec) : _root_.Go.OpenSpec := { _root_.Go.OpenSpec.ofChange s with cond := some uptoSmall }

/-- 'laws.FnExactSameTrack', WHERE WHAT IT READS IS OF BULK AT MOST 1048576: true; the input reads as it did. -/
def fnExactSameTrackUptoRow : OpenClaim := { program := "ytaacgipfmmomiaa", sum := "47e447e0f6a5c607f5c542f15c1ad51c79beadc24236b7a670f6dc96ef94b2a7", func := "loop.example/g00903/laws.FnExactSameTrack", spec := "fnExactSameTrack", apart := false, narrowed := true }
def FnExactSameTrackUptoSaid : Prop := fnExactSameTrackUptoRow.holds Try.pinned (OpenSpec.upto fnExactSameTrackSpec)

/-- 'laws.FnExactValidTrack', WHERE WHAT IT READS IS OF BULK AT MOST 1048576: true; the input reads as it did. -/
def fnExactValidTrackUptoRow : OpenClaim := { program := "ytaacgipfmmomiaa", sum := "47e447e0f6a5c607f5c542f15c1ad51c79beadc24236b7a670f6dc96ef94b2a7", func := "loop.example/g00903/laws.FnExactValidTrack", spec := "fnExactValidTrack", apart := false, narrowed := true }
def FnExactValidTrackUptoSaid : Prop := fnExactValidTrackUptoRow.holds Try.pinned (OpenSpec.upto fnExactValidTrackSpec)

/-- 'laws.FnExactTrackEnd', WHERE WHAT IT READS IS OF BULK AT MOST 1048576: true; the input reads as it did. -/
def fnExactTrackEndUptoRow : OpenClaim := { program := "ytaacgipfmmomiaa", sum := "47e447e0f6a5c607f5c542f15c1ad51c79beadc24236b7a670f6dc96ef94b2a7", func := "loop.example/g00903/laws.FnExactTrackEnd", spec := "fnExactTrackEnd", apart := false, narrowed := true }
def FnExactTrackEndUptoSaid : Prop := fnExactTrackEndUptoRow.holds Try.pinned (OpenSpec.upto fnExactTrackEndSpec)

/-- 'laws.FnExactSameCurve', WHERE WHAT IT READS IS OF BULK AT MOST 1048576: true; the input reads as it did. -/
def fnExactSameCurveUptoRow : OpenClaim := { program := "ytaacgipfmmomiaa", sum := "47e447e0f6a5c607f5c542f15c1ad51c79beadc24236b7a670f6dc96ef94b2a7", func := "loop.example/g00903/laws.FnExactSameCurve", spec := "fnExactSameCurve", apart := false, narrowed := true }
def FnExactSameCurveUptoSaid : Prop := fnExactSameCurveUptoRow.holds Try.pinned (OpenSpec.upto fnExactSameCurveSpec)

/-- 'laws.FnExactValidCurve', WHERE WHAT IT READS IS OF BULK AT MOST 1048576: true; the input reads as it did. -/
def fnExactValidCurveUptoRow : OpenClaim := { program := "ytaacgipfmmomiaa", sum := "47e447e0f6a5c607f5c542f15c1ad51c79beadc24236b7a670f6dc96ef94b2a7", func := "loop.example/g00903/laws.FnExactValidCurve", spec := "fnExactValidCurve", apart := false, narrowed := true }
def FnExactValidCurveUptoSaid : Prop := fnExactValidCurveUptoRow.holds Try.pinned (OpenSpec.upto fnExactValidCurveSpec)

/-- 'laws.FnExactValueAt', WHERE WHAT IT READS IS OF BULK AT MOST 1048576: true; the input reads as it did. -/
def fnExactValueAtUptoRow : OpenClaim := { program := "ytaacgipfmmomiaa", sum := "47e447e0f6a5c607f5c542f15c1ad51c79beadc24236b7a670f6dc96ef94b2a7", func := "loop.example/g00903/laws.FnExactValueAt", spec := "fnExactValueAt", apart := false, narrowed := true }
def FnExactValueAtUptoSaid : Prop := fnExactValueAtUptoRow.holds Try.pinned (OpenSpec.upto fnExactValueAtSpec)

/-- 'laws.FnExactShiftCurve', WHERE WHAT IT READS IS OF BULK AT MOST 1048576: true; the input reads as it did. -/
def fnExactShiftCurveUptoRow : OpenClaim := { program := "ytaacgipfmmomiaa", sum := "47e447e0f6a5c607f5c542f15c1ad51c79beadc24236b7a670f6dc96ef94b2a7", func := "loop.example/g00903/laws.FnExactShiftCurve", spec := "fnExactShiftCurve", apart := false, narrowed := true }
def FnExactShiftCurveUptoSaid : Prop := fnExactShiftCurveUptoRow.holds Try.pinned (OpenSpec.upto fnExactShiftCurveSpec)

/-- 'laws.FnExactAddClip', WHERE WHAT IT READS IS OF BULK AT MOST 1048576: true; the input reads as it did. -/
def fnExactAddClipUptoRow : OpenClaim := { program := "ytaacgipfmmomiaa", sum := "47e447e0f6a5c607f5c542f15c1ad51c79beadc24236b7a670f6dc96ef94b2a7", func := "loop.example/g00903/laws.FnExactAddClip", spec := "fnExactAddClip", inPlace := ["slices.overlaps[loop.example/g00903/impl.Clip]"], apart := false, narrowed := true }
def FnExactAddClipUptoSaid : Prop := fnExactAddClipUptoRow.holds Try.pinned (OpenSpec.upto fnExactAddClipSpec)

/-- 'laws.FnExactSplitClip', WHERE WHAT IT READS IS OF BULK AT MOST 1048576: true; the input reads as it did. -/
def fnExactSplitClipUptoRow : OpenClaim := { program := "ytaacgipfmmomiaa", sum := "47e447e0f6a5c607f5c542f15c1ad51c79beadc24236b7a670f6dc96ef94b2a7", func := "loop.example/g00903/laws.FnExactSplitClip", spec := "fnExactSplitClip", inPlace := ["slices.overlaps[loop.example/g00903/impl.Clip]"], apart := false, narrowed := true }
def FnExactSplitClipUptoSaid : Prop := fnExactSplitClipUptoRow.holds Try.pinned (OpenSpec.upto fnExactSplitClipSpec)

/-- 'laws.FnExactRenderTrack', WHERE WHAT IT READS IS OF BULK AT MOST 1048576: true; the input reads as it did. -/
def fnExactRenderTrackUptoRow : OpenClaim := { program := "ytaacgipfmmomiaa", sum := "47e447e0f6a5c607f5c542f15c1ad51c79beadc24236b7a670f6dc96ef94b2a7", func := "loop.example/g00903/laws.FnExactRenderTrack", spec := "fnExactRenderTrack", unfollowed := true, recurses := true, apart := false, narrowed := true }
def FnExactRenderTrackUptoSaid : Prop := fnExactRenderTrackUptoRow.holds Try.pinned (OpenSpec.upto fnExactRenderTrackSpec)

end Rows
end Go.Proofs.Ytaacgipfmmomiaa
