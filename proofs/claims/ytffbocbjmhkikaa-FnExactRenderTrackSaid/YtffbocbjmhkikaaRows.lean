/-
  No cell of these rows narrows 'for every input' (looked for: loops, veiled, ifaces, maps, wideKeys, modest, calm, conditions, laid).
  DERIVED. THE GIVEN ROWS OF THIS SEAT. 7 by the template 'for every input the law returns true; each argument reads behind the call as it read before'; 0 by the template 'total and deterministic' (their statements: YtffbocbjmhkikaaTotals.lean).
  GIVEN WITH THE SEED: the statements are not yours to turn. If you find one false, say at which input.
  Laid BY PROGRAM, IN A SANDBOX (cutbox-rows.mjs): the forced cells as the released guide's own fill.sh prints them over the translation e967049193501fd9… (all of the seat's roots in one cut). By AI agents, Wed Nov 11 2026. No macro, syntax, notation, axiom, sorry.
-/
import Derived.Test.YtffbocbjmhkikaaChecked
import GoSem.Claim
import GoSem.ClaimJoined
import GoSem.ClaimMapViews
import Derived.JoinedTies
import Derived.KernelRfl
namespace Go.Proofs.Ytffbocbjmhkikaa
/- THE CELL 'sum', in the pinned program and in every row, IS THE sha256 OF THE DUMP (.gsa) THAT YtffbocbjmhkikaaProg.lean LOADS. Nothing in Lean hashes anything: it is a label: what it is worth is what the hold of that sum in a sandbox is worth. -/
noncomputable def Try.pinned : Pinned := { name := "ytffbocbjmhkikaa", sum := "e967049193501fd984c9b9e8015c8b14e12c5da1f0602a6dafcbe13d79feef10", checked := Try.checked }
namespace Rows
def none {H : Type} : Left H := { results := [], args := [] }

/-- 'laws.FnExactSameInstrument': WHATEVER THE INPUT: true; the input reads as it did. -/
def fnExactSameInstrumentSpec : ChangeSpec := { name := "fnExactSameInstrument", fn := fun _ => fun
  | [d1, d2] => { results := [.lit (.bool true)], args := [d1, d2] }
  | _ => none }
def fnExactSameInstrumentRow : OpenClaim := { program := "ytffbocbjmhkikaa", sum := "e967049193501fd984c9b9e8015c8b14e12c5da1f0602a6dafcbe13d79feef10", func := "loop.example/g00903/laws.FnExactSameInstrument", spec := "fnExactSameInstrument", apart := false }
def FnExactSameInstrumentSaid : Prop := fnExactSameInstrumentRow.holds Try.pinned (OpenSpec.ofChange fnExactSameInstrumentSpec)

/-- ITS FALSE NEIGHBOUR: 'it returns false'. Refute it at one input. -/
def fnExactSameInstrumentWrong : ChangeSpec := { name := "fnExactSameInstrument", fn := fun _ => fun
  | [d1, d2] => { results := [.lit (.bool false)], args := [d1, d2] }
  | _ => none }
def FnExactSameInstrumentWrongFalsely : Prop := fnExactSameInstrumentRow.holds Try.pinned (OpenSpec.ofChange fnExactSameInstrumentWrong)

/-- 'laws.FnExactValidInstrument': WHATEVER THE INPUT: true; the input reads as it did. -/
def fnExactValidInstrumentSpec : ChangeSpec := { name := "fnExactValidInstrument", fn := fun _ => fun
  | [d] => { results := [.lit (.bool true)], args := [d] }
  | _ => none }
def fnExactValidInstrumentRow : OpenClaim := { program := "ytffbocbjmhkikaa", sum := "e967049193501fd984c9b9e8015c8b14e12c5da1f0602a6dafcbe13d79feef10", func := "loop.example/g00903/laws.FnExactValidInstrument", spec := "fnExactValidInstrument", apart := false }
def FnExactValidInstrumentSaid : Prop := fnExactValidInstrumentRow.holds Try.pinned (OpenSpec.ofChange fnExactValidInstrumentSpec)

/-- ITS FALSE NEIGHBOUR: 'it returns false'. Refute it at one input. -/
def fnExactValidInstrumentWrong : ChangeSpec := { name := "fnExactValidInstrument", fn := fun _ => fun
  | [d] => { results := [.lit (.bool false)], args := [d] }
  | _ => none }
def FnExactValidInstrumentWrongFalsely : Prop := fnExactValidInstrumentRow.holds Try.pinned (OpenSpec.ofChange fnExactValidInstrumentWrong)

/-- 'laws.FnExactIncrementOf': WHATEVER THE INPUT: true; the input reads as it did. -/
def fnExactIncrementOfSpec : ChangeSpec := { name := "fnExactIncrementOf", fn := fun _ => fun
  | [d1, d2] => { results := [.lit (.bool true)], args := [d1, d2] }
  | _ => none }
def fnExactIncrementOfRow : OpenClaim := { program := "ytffbocbjmhkikaa", sum := "e967049193501fd984c9b9e8015c8b14e12c5da1f0602a6dafcbe13d79feef10", func := "loop.example/g00903/laws.FnExactIncrementOf", spec := "fnExactIncrementOf", apart := false }
def FnExactIncrementOfSaid : Prop := fnExactIncrementOfRow.holds Try.pinned (OpenSpec.ofChange fnExactIncrementOfSpec)

/-- ITS FALSE NEIGHBOUR: 'it returns false'. Refute it at one input. -/
def fnExactIncrementOfWrong : ChangeSpec := { name := "fnExactIncrementOf", fn := fun _ => fun
  | [d1, d2] => { results := [.lit (.bool false)], args := [d1, d2] }
  | _ => none }
def FnExactIncrementOfWrongFalsely : Prop := fnExactIncrementOfRow.holds Try.pinned (OpenSpec.ofChange fnExactIncrementOfWrong)

/-- 'laws.FnExactRenderTrack': WHATEVER THE INPUT: true; the input reads as it did. -/
def fnExactRenderTrackSpec : ChangeSpec := { name := "fnExactRenderTrack", fn := fun _ => fun
  | [d1, d2, d3] => { results := [.lit (.bool true)], args := [d1, d2, d3] }
  | _ => none }
def fnExactRenderTrackRow : OpenClaim := { program := "ytffbocbjmhkikaa", sum := "e967049193501fd984c9b9e8015c8b14e12c5da1f0602a6dafcbe13d79feef10", func := "loop.example/g00903/laws.FnExactRenderTrack", spec := "fnExactRenderTrack", unfollowed := true, recurses := true, apart := false }
def FnExactRenderTrackSaid : Prop := fnExactRenderTrackRow.holds Try.pinned (OpenSpec.ofChange fnExactRenderTrackSpec)

/-- ITS FALSE NEIGHBOUR: 'it returns false'. Refute it at one input. -/
def fnExactRenderTrackWrong : ChangeSpec := { name := "fnExactRenderTrack", fn := fun _ => fun
  | [d1, d2, d3] => { results := [.lit (.bool false)], args := [d1, d2, d3] }
  | _ => none }
def FnExactRenderTrackWrongFalsely : Prop := fnExactRenderTrackRow.holds Try.pinned (OpenSpec.ofChange fnExactRenderTrackWrong)

/-- 'laws.FnExactAddClip': WHATEVER THE INPUT: true; the input reads as it did. -/
def fnExactAddClipSpec : ChangeSpec := { name := "fnExactAddClip", fn := fun _ => fun
  | [d1, d2] => { results := [.lit (.bool true)], args := [d1, d2] }
  | _ => none }
def fnExactAddClipRow : OpenClaim := { program := "ytffbocbjmhkikaa", sum := "e967049193501fd984c9b9e8015c8b14e12c5da1f0602a6dafcbe13d79feef10", func := "loop.example/g00903/laws.FnExactAddClip", spec := "fnExactAddClip", inPlace := ["slices.overlaps[loop.example/g00903/impl.Clip]"], apart := false }
def FnExactAddClipSaid : Prop := fnExactAddClipRow.holds Try.pinned (OpenSpec.ofChange fnExactAddClipSpec)

/-- ITS FALSE NEIGHBOUR: 'it returns false'. Refute it at one input. -/
def fnExactAddClipWrong : ChangeSpec := { name := "fnExactAddClip", fn := fun _ => fun
  | [d1, d2] => { results := [.lit (.bool false)], args := [d1, d2] }
  | _ => none }
def FnExactAddClipWrongFalsely : Prop := fnExactAddClipRow.holds Try.pinned (OpenSpec.ofChange fnExactAddClipWrong)

/-- 'laws.FnExactSplitClip': WHATEVER THE INPUT: true; the input reads as it did. -/
def fnExactSplitClipSpec : ChangeSpec := { name := "fnExactSplitClip", fn := fun _ => fun
  | [d1, d2, d3] => { results := [.lit (.bool true)], args := [d1, d2, d3] }
  | _ => none }
def fnExactSplitClipRow : OpenClaim := { program := "ytffbocbjmhkikaa", sum := "e967049193501fd984c9b9e8015c8b14e12c5da1f0602a6dafcbe13d79feef10", func := "loop.example/g00903/laws.FnExactSplitClip", spec := "fnExactSplitClip", inPlace := ["slices.overlaps[loop.example/g00903/impl.Clip]"], apart := false }
def FnExactSplitClipSaid : Prop := fnExactSplitClipRow.holds Try.pinned (OpenSpec.ofChange fnExactSplitClipSpec)

/-- ITS FALSE NEIGHBOUR: 'it returns false'. Refute it at one input. -/
def fnExactSplitClipWrong : ChangeSpec := { name := "fnExactSplitClip", fn := fun _ => fun
  | [d1, d2, d3] => { results := [.lit (.bool false)], args := [d1, d2, d3] }
  | _ => none }
def FnExactSplitClipWrongFalsely : Prop := fnExactSplitClipRow.holds Try.pinned (OpenSpec.ofChange fnExactSplitClipWrong)

/-- 'laws.FnControls': WHATEVER THE INPUT: true; the input reads as it did. -/
def fnControlsSpec : ChangeSpec := { name := "fnControls", fn := fun _ => fun
  | [d1, d2] => { results := [.lit (.bool true)], args := [d1, d2] }
  | _ => none }
def fnControlsRow : OpenClaim := { program := "ytffbocbjmhkikaa", sum := "e967049193501fd984c9b9e8015c8b14e12c5da1f0602a6dafcbe13d79feef10", func := "loop.example/g00903/laws.FnControls", spec := "fnControls", apart := false }
def FnControlsSaid : Prop := fnControlsRow.holds Try.pinned (OpenSpec.ofChange fnControlsSpec)

/-- ITS FALSE NEIGHBOUR: 'it returns false'. Refute it at one input. -/
def fnControlsWrong : ChangeSpec := { name := "fnControls", fn := fun _ => fun
  | [d1, d2] => { results := [.lit (.bool false)], args := [d1, d2] }
  | _ => none }
def FnControlsWrongFalsely : Prop := fnControlsRow.holds Try.pinned (OpenSpec.ofChange fnControlsWrong)

/- THE SECOND FORM. 'bulk': how many values and letters a reading holds, each counted each time it is reached (what is shared counts as often as it is met; a slice's spare places count too). A statement '..UptoSaid' is the law's where the arguments, and the package variables that the reading takes, are together of bulk at most 1048576: NARROWER than '..Said'. Prove '..Said' where nothing that the law and all that it calls make is longer than what came in: it says more and counts as full. Else prove '..UptoSaid'. A law counts once. -/
mutual
def uptoBulk {H : Type} : DataW H → Nat
  | .lit (.string bytes) => bytes.length + 1
  | .lit _ => 1
  | .nil => 1
  | .ptr d => uptoBulk d + 1
  | .slice elems spare => uptoBulkAll elems + uptoBulkAll spare + 1
  | .agg parts => uptoBulkAll parts + 1
  | .iface _ d => uptoBulk d + 1
  | .map entries => uptoBulkEntries entries + 1
  | .held _ => 1
def uptoBulkAll {H : Type} : List (DataW H) → Nat
  | [] => 0
  | d :: r => uptoBulk d + uptoBulkAll r
def uptoBulkEntries {H : Type} : List (Lit × DataW H) → Nat
  | [] => 0
  | x :: r => uptoBulkEntry x + uptoBulkEntries r
def uptoBulkEntry {H : Type} : Lit × DataW H → Nat
  | (.string bytes, d) => bytes.length + uptoBulk d + 1
  | (_, d) => uptoBulk d + 1
 end
def uptoSmall : (H : Type) → List (DataW H) → Bool := fun _ ds => decide (uptoBulkAll ds ≤ 1048576)
def OpenSpec.upto (s : _root_.Go.ChangeSpec) : _root_.Go.OpenSpec := { _root_.Go.OpenSpec.ofChange s with cond := some uptoSmall }

/-- 'laws.FnExactSameInstrument', WHERE WHAT IT READS IS OF BULK AT MOST 1048576: true; the input reads as it did. -/
def fnExactSameInstrumentUptoRow : OpenClaim := { program := "ytffbocbjmhkikaa", sum := "e967049193501fd984c9b9e8015c8b14e12c5da1f0602a6dafcbe13d79feef10", func := "loop.example/g00903/laws.FnExactSameInstrument", spec := "fnExactSameInstrument", apart := false, narrowed := true }
def FnExactSameInstrumentUptoSaid : Prop := fnExactSameInstrumentUptoRow.holds Try.pinned (OpenSpec.upto fnExactSameInstrumentSpec)

/-- 'laws.FnExactValidInstrument', WHERE WHAT IT READS IS OF BULK AT MOST 1048576: true; the input reads as it did. -/
def fnExactValidInstrumentUptoRow : OpenClaim := { program := "ytffbocbjmhkikaa", sum := "e967049193501fd984c9b9e8015c8b14e12c5da1f0602a6dafcbe13d79feef10", func := "loop.example/g00903/laws.FnExactValidInstrument", spec := "fnExactValidInstrument", apart := false, narrowed := true }
def FnExactValidInstrumentUptoSaid : Prop := fnExactValidInstrumentUptoRow.holds Try.pinned (OpenSpec.upto fnExactValidInstrumentSpec)

/-- 'laws.FnExactIncrementOf', WHERE WHAT IT READS IS OF BULK AT MOST 1048576: true; the input reads as it did. -/
def fnExactIncrementOfUptoRow : OpenClaim := { program := "ytffbocbjmhkikaa", sum := "e967049193501fd984c9b9e8015c8b14e12c5da1f0602a6dafcbe13d79feef10", func := "loop.example/g00903/laws.FnExactIncrementOf", spec := "fnExactIncrementOf", apart := false, narrowed := true }
def FnExactIncrementOfUptoSaid : Prop := fnExactIncrementOfUptoRow.holds Try.pinned (OpenSpec.upto fnExactIncrementOfSpec)

/-- 'laws.FnExactRenderTrack', WHERE WHAT IT READS IS OF BULK AT MOST 1048576: true; the input reads as it did. -/
def fnExactRenderTrackUptoRow : OpenClaim := { program := "ytffbocbjmhkikaa", sum := "e967049193501fd984c9b9e8015c8b14e12c5da1f0602a6dafcbe13d79feef10", func := "loop.example/g00903/laws.FnExactRenderTrack", spec := "fnExactRenderTrack", unfollowed := true, recurses := true, apart := false, narrowed := true }
def FnExactRenderTrackUptoSaid : Prop := fnExactRenderTrackUptoRow.holds Try.pinned (OpenSpec.upto fnExactRenderTrackSpec)

/-- 'laws.FnExactAddClip', WHERE WHAT IT READS IS OF BULK AT MOST 1048576: true; the input reads as it did. -/
def fnExactAddClipUptoRow : OpenClaim := { program := "ytffbocbjmhkikaa", sum := "e967049193501fd984c9b9e8015c8b14e12c5da1f0602a6dafcbe13d79feef10", func := "loop.example/g00903/laws.FnExactAddClip", spec := "fnExactAddClip", inPlace := ["slices.overlaps[loop.example/g00903/impl.Clip]"], apart := false, narrowed := true }
def FnExactAddClipUptoSaid : Prop := fnExactAddClipUptoRow.holds Try.pinned (OpenSpec.upto fnExactAddClipSpec)

/-- 'laws.FnExactSplitClip', WHERE WHAT IT READS IS OF BULK AT MOST 1048576: true; the input reads as it did. -/
def fnExactSplitClipUptoRow : OpenClaim := { program := "ytffbocbjmhkikaa", sum := "e967049193501fd984c9b9e8015c8b14e12c5da1f0602a6dafcbe13d79feef10", func := "loop.example/g00903/laws.FnExactSplitClip", spec := "fnExactSplitClip", inPlace := ["slices.overlaps[loop.example/g00903/impl.Clip]"], apart := false, narrowed := true }
def FnExactSplitClipUptoSaid : Prop := fnExactSplitClipUptoRow.holds Try.pinned (OpenSpec.upto fnExactSplitClipSpec)

/-- 'laws.FnControls', WHERE WHAT IT READS IS OF BULK AT MOST 1048576: true; the input reads as it did. -/
def fnControlsUptoRow : OpenClaim := { program := "ytffbocbjmhkikaa", sum := "e967049193501fd984c9b9e8015c8b14e12c5da1f0602a6dafcbe13d79feef10", func := "loop.example/g00903/laws.FnControls", spec := "fnControls", apart := false, narrowed := true }
def FnControlsUptoSaid : Prop := fnControlsUptoRow.holds Try.pinned (OpenSpec.upto fnControlsSpec)

end Rows
end Go.Proofs.Ytffbocbjmhkikaa
