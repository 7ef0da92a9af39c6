/-
  No cell of these rows narrows 'for every input' (looked for: loops, veiled, ifaces, maps, wideKeys, modest, calm, conditions, laid).
  DERIVED. THE GIVEN ROWS OF THIS SEAT. 4 by the template 'for every input the law returns true; each argument reads behind the call as it read before'; 0 by the template 'total and deterministic' (their statements: YtimijeeihicohaaTotals.lean).
  GIVEN WITH THE SEED: the statements are not yours to turn. If you find one false, say at which input.
  Laid BY PROGRAM, IN A SANDBOX (cutbox-rows.mjs): the forced cells as the released guide's own fill.sh prints them over the translation 248dd5cf5ae9abed… (all of the seat's roots in one cut). By AI agents, Wed Nov 11 2026. No macro, syntax, notation, axiom, sorry.
-/
import Derived.Test.YtimijeeihicohaaChecked
import GoSem.Claim
import GoSem.ClaimJoined
import GoSem.ClaimMapViews
import Derived.JoinedTies
import Derived.KernelRfl
namespace Go.Proofs.Ytimijeeihicohaa
/- THE CELL 'sum', in the pinned program and in every row, IS THE sha256 OF THE DUMP (.gsa) THAT YtimijeeihicohaaProg.lean LOADS. Nothing in Lean hashes anything: it is a label: what it is worth is what the hold of that sum in a sandbox is worth. -/
noncomputable def Try.pinned : Pinned := { name := "ytimijeeihicohaa", sum := "248dd5cf5ae9abed7597d1d48201c37267854086c4971086086187e923fe83ec", checked := Try.checked }
namespace Rows
def none {H : Type} : Left H := { results := [], args := [] }

/-- 'laws.FnExactAddClip': WHATEVER THE INPUT: true; the input reads as it did. -/
def fnExactAddClipSpec : ChangeSpec := { name := "fnExactAddClip", fn := fun _ => fun
  | [d1, d2] => { results := [.lit (.bool true)], args := [d1, d2] }
  | _ => none }
def fnExactAddClipRow : OpenClaim := { program := "ytimijeeihicohaa", sum := "248dd5cf5ae9abed7597d1d48201c37267854086c4971086086187e923fe83ec", func := "loop.example/g00903/laws.FnExactAddClip", spec := "fnExactAddClip", inPlace := ["slices.overlaps[loop.example/g00903/impl.Clip]"], apart := false }
def FnExactAddClipSaid : Prop := fnExactAddClipRow.holds Try.pinned (OpenSpec.ofChange fnExactAddClipSpec)

/-- ITS FALSE NEIGHBOUR: 'it returns false'. Refute it at one input. -/
def fnExactAddClipWrong : ChangeSpec := { name := "fnExactAddClip", fn := fun _ => fun
  | [d1, d2] => { results := [.lit (.bool false)], args := [d1, d2] }
  | _ => none }
def FnExactAddClipWrongFalsely : Prop := fnExactAddClipRow.holds Try.pinned (OpenSpec.ofChange fnExactAddClipWrong)

/-- 'laws.FnExactSplitClip': WHATEVER THE INPUT: true; the input reads as it did. -/
def fnExactSplitClipSpec : ChangeSpec := { name := "fnExactSplitClip", fn := fun _ => fun
  | [d1, d2, d3] => { results := [.lit (.bool true)], args := [d1, d2, d3] }
  | _ => none }
def fnExactSplitClipRow : OpenClaim := { program := "ytimijeeihicohaa", sum := "248dd5cf5ae9abed7597d1d48201c37267854086c4971086086187e923fe83ec", func := "loop.example/g00903/laws.FnExactSplitClip", spec := "fnExactSplitClip", inPlace := ["slices.overlaps[loop.example/g00903/impl.Clip]"], apart := false }
def FnExactSplitClipSaid : Prop := fnExactSplitClipRow.holds Try.pinned (OpenSpec.ofChange fnExactSplitClipSpec)

/-- ITS FALSE NEIGHBOUR: 'it returns false'. Refute it at one input. -/
def fnExactSplitClipWrong : ChangeSpec := { name := "fnExactSplitClip", fn := fun _ => fun
  | [d1, d2, d3] => { results := [.lit (.bool false)], args := [d1, d2, d3] }
  | _ => none }
def FnExactSplitClipWrongFalsely : Prop := fnExactSplitClipRow.holds Try.pinned (OpenSpec.ofChange fnExactSplitClipWrong)

/-- 'laws.FnControls': WHATEVER THE INPUT: true; the input reads as it did. -/
def fnControlsSpec : ChangeSpec := { name := "fnControls", fn := fun _ => fun
  | [d1, d2] => { results := [.lit (.bool true)], args := [d1, d2] }
  | _ => none }
def fnControlsRow : OpenClaim := { program := "ytimijeeihicohaa", sum := "248dd5cf5ae9abed7597d1d48201c37267854086c4971086086187e923fe83ec", func := "loop.example/g00903/laws.FnControls", spec := "fnControls", apart := false }
def FnControlsSaid : Prop := fnControlsRow.holds Try.pinned (OpenSpec.ofChange fnControlsSpec)

/-- ITS FALSE NEIGHBOUR: 'it returns false'. Refute it at one input. -/
def fnControlsWrong : ChangeSpec := { name := "fnControls", fn := fun _ => fun
  | [d1, d2] => { results := [.lit (.bool false)], args := [d1, d2] }
  | _ => none }
def FnControlsWrongFalsely : Prop := fnControlsRow.holds Try.pinned (OpenSpec.ofChange fnControlsWrong)

/-- 'laws.FnPerform': WHATEVER THE INPUT: true; the input reads as it did. -/
def fnPerformSpec : ChangeSpec := { name := "fnPerform", fn := fun _ => fun
  | [d1, d2] => { results := [.lit (.bool true)], args := [d1, d2] }
  | _ => none }
def fnPerformRow : OpenClaim := { program := "ytimijeeihicohaa", sum := "248dd5cf5ae9abed7597d1d48201c37267854086c4971086086187e923fe83ec", func := "loop.example/g00903/laws.FnPerform", spec := "fnPerform", apart := false }
def FnPerformSaid : Prop := fnPerformRow.holds Try.pinned (OpenSpec.ofChange fnPerformSpec)

/-- ITS FALSE NEIGHBOUR: 'it returns false'. Refute it at one input. -/
def fnPerformWrong : ChangeSpec := { name := "fnPerform", fn := fun _ => fun
  | [d1, d2] => { results := [.lit (.bool false)], args := [d1, d2] }
  | _ => none }
def FnPerformWrongFalsely : Prop := fnPerformRow.holds Try.pinned (OpenSpec.ofChange fnPerformWrong)

/- THE SECOND FORM. 'bulk': how many values and letters a reading holds, each counted each time it is reached (what is shared counts as often as it is met; a slice's spare places count too). A statement '..UptoSaid' is the law's where the arguments, and the package variables that the reading takes, are together of bulk at most 1048576: NARROWER than '..Said'. Prove '..Said' where nothing that the law and all that it calls make is longer than what came in: it says more and counts as full. Else prove '..UptoSaid'. A law counts once. -/
mutual
def uptoBulk {H : Type} : DataW H → Nat
  | .lit (.string bytes) => bytes.length + 1
  | .lit _ => 1
  | .nil => 1
  | .ptr d => uptoBulk d + 1
  | .slice elems spare => uptoBulkAll elems + uptoBulkAll spare + 1
  | .agg parts => uptoBulkAll parts + 1
  | .iface _ d => uptoBulk d + 1
  | .map entries => uptoBulkEntries entries + 1
  | .held _ => 1
def uptoBulkAll {H : Type} : List (DataW H) → Nat
  | [] => 0
  | d :: r => uptoBulk d + uptoBulkAll r
def uptoBulkEntries {H : Type} : List (Lit × DataW H) → Nat
  | [] => 0
  | x :: r => uptoBulkEntry x + uptoBulkEntries r
def uptoBulkEntry {H : Type} : Lit × DataW H → Nat
  | (.string bytes, d) => bytes.length + uptoBulk d + 1
  | (_, d) => uptoBulk d + 1
 end
def uptoSmall : (H : Type) → List (DataW H) → Bool := fun _ ds => decide (uptoBulkAll ds ≤ 1048576)
def OpenSpec.upto (s : _root_.Go.ChangeSpec) : _root_.Go.OpenSpec := { _root_.Go.OpenSpec.ofChange s with cond := some uptoSmall }

/-- 'laws.FnExactAddClip', WHERE WHAT IT READS IS OF BULK AT MOST 1048576: true; the input reads as it did. -/
def fnExactAddClipUptoRow : OpenClaim := { program := "ytimijeeihicohaa", sum := "248dd5cf5ae9abed7597d1d48201c37267854086c4971086086187e923fe83ec", func := "loop.example/g00903/laws.FnExactAddClip", spec := "fnExactAddClip", inPlace := ["slices.overlaps[loop.example/g00903/impl.Clip]"], apart := false, narrowed := true }
def FnExactAddClipUptoSaid : Prop := fnExactAddClipUptoRow.holds Try.pinned (OpenSpec.upto fnExactAddClipSpec)

/-- 'laws.FnExactSplitClip', WHERE WHAT IT READS IS OF BULK AT MOST 1048576: true; the input reads as it did. -/
def fnExactSplitClipUptoRow : OpenClaim := { program := "ytimijeeihicohaa", sum := "248dd5cf5ae9abed7597d1d48201c37267854086c4971086086187e923fe83ec", func := "loop.example/g00903/laws.FnExactSplitClip", spec := "fnExactSplitClip", inPlace := ["slices.overlaps[loop.example/g00903/impl.Clip]"], apart := false, narrowed := true }
def FnExactSplitClipUptoSaid : Prop := fnExactSplitClipUptoRow.holds Try.pinned (OpenSpec.upto fnExactSplitClipSpec)

/-- 'laws.FnControls', WHERE WHAT IT READS IS OF BULK AT MOST 1048576: true; the input reads as it did. -/
def fnControlsUptoRow : OpenClaim := { program := "ytimijeeihicohaa", sum := "248dd5cf5ae9abed7597d1d48201c37267854086c4971086086187e923fe83ec", func := "loop.example/g00903/laws.FnControls", spec := "fnControls", apart := false, narrowed := true }
def FnControlsUptoSaid : Prop := fnControlsUptoRow.holds Try.pinned (OpenSpec.upto fnControlsSpec)

/-- 'laws.FnPerform', WHERE WHAT IT READS IS OF BULK AT MOST 1048576: true; the input reads as it did. -/
def fnPerformUptoRow : OpenClaim := { program := "ytimijeeihicohaa", sum := "248dd5cf5ae9abed7597d1d48201c37267854086c4971086086187e923fe83ec", func := "loop.example/g00903/laws.FnPerform", spec := "fnPerform", apart := false, narrowed := true }
def FnPerformUptoSaid : Prop := fnPerformUptoRow.holds Try.pinned (OpenSpec.upto fnPerformSpec)

end Rows
end Go.Proofs.Ytimijeeihicohaa
