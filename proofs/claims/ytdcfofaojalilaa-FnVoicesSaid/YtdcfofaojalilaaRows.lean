/-
  No cell of these rows narrows 'for every input' (looked for: loops, veiled, ifaces, maps, wideKeys, modest, calm, conditions, laid).
  DERIVED. THE GIVEN ROWS OF THIS SEAT. 10 by the template 'for every input the law returns true; each argument reads behind the call as it read before'; 0 by the template 'total and deterministic' (their statements: YtdcfofaojalilaaTotals.lean).
  GIVEN WITH THE SEED: the statements are not yours to turn. If you find one false, say at which input.
  Laid BY PROGRAM, IN A SANDBOX (cutbox-rows.mjs): the forced cells as the released guide's own fill.sh prints them over the translation 76e7ee97588ea4f6… (all of the seat's roots in one cut). By AI agents, Wed Nov 11 2026. No macro, syntax, notation, axiom, sorry.
-/
import Derived.Test.YtdcfofaojalilaaChecked
import GoSem.Claim
import GoSem.ClaimJoined
import GoSem.ClaimMapViews
import Derived.JoinedTies
import Derived.KernelRfl
namespace Go.Proofs.Ytdcfofaojalilaa
/- THE CELL 'sum', in the pinned program and in every row, IS THE sha256 OF THE DUMP (.gsa) THAT YtdcfofaojalilaaProg.lean LOADS. Nothing in Lean hashes anything: it is a label: what it is worth is what the hold of that sum in a sandbox is worth. -/
noncomputable def Try.pinned : Pinned := { name := "ytdcfofaojalilaa", sum := "76e7ee97588ea4f6cc4621eb21163f3a802bcc469f4c8d5849aceeb171925db5", checked := Try.checked }
namespace Rows
def none {H : Type} : Left H := { results := [], args := [] }

/-- 'laws.FnExactSameGates': WHATEVER THE INPUT: true; the input reads as it did. -/
def fnExactSameGatesSpec : ChangeSpec := { name := "fnExactSameGates", fn := fun _ => fun
  | [d1, d2] => { results := [.lit (.bool true)], args := [d1, d2] }
  | _ => none }
def fnExactSameGatesRow : OpenClaim := { program := "ytdcfofaojalilaa", sum := "76e7ee97588ea4f6cc4621eb21163f3a802bcc469f4c8d5849aceeb171925db5", func := "loop.example/g00903/laws.FnExactSameGates", spec := "fnExactSameGates", apart := false }
def FnExactSameGatesSaid : Prop := fnExactSameGatesRow.holds Try.pinned (OpenSpec.ofChange fnExactSameGatesSpec)

/-- ITS FALSE NEIGHBOUR: 'it returns false'. Refute it at one input. -/
def fnExactSameGatesWrong : ChangeSpec := { name := "fnExactSameGates", fn := fun _ => fun
  | [d1, d2] => { results := [.lit (.bool false)], args := [d1, d2] }
  | _ => none }
def FnExactSameGatesWrongFalsely : Prop := fnExactSameGatesRow.holds Try.pinned (OpenSpec.ofChange fnExactSameGatesWrong)

/-- 'laws.FnExactValidGates': WHATEVER THE INPUT: true; the input reads as it did. -/
def fnExactValidGatesSpec : ChangeSpec := { name := "fnExactValidGates", fn := fun _ => fun
  | [d] => { results := [.lit (.bool true)], args := [d] }
  | _ => none }
def fnExactValidGatesRow : OpenClaim := { program := "ytdcfofaojalilaa", sum := "76e7ee97588ea4f6cc4621eb21163f3a802bcc469f4c8d5849aceeb171925db5", func := "loop.example/g00903/laws.FnExactValidGates", spec := "fnExactValidGates", apart := false }
def FnExactValidGatesSaid : Prop := fnExactValidGatesRow.holds Try.pinned (OpenSpec.ofChange fnExactValidGatesSpec)

/-- ITS FALSE NEIGHBOUR: 'it returns false'. Refute it at one input. -/
def fnExactValidGatesWrong : ChangeSpec := { name := "fnExactValidGates", fn := fun _ => fun
  | [d] => { results := [.lit (.bool false)], args := [d] }
  | _ => none }
def FnExactValidGatesWrongFalsely : Prop := fnExactValidGatesRow.holds Try.pinned (OpenSpec.ofChange fnExactValidGatesWrong)

/-- 'laws.FnExactArePlayable': WHATEVER THE INPUT: true; the input reads as it did. -/
def fnExactArePlayableSpec : ChangeSpec := { name := "fnExactArePlayable", fn := fun _ => fun
  | [d] => { results := [.lit (.bool true)], args := [d] }
  | _ => none }
def fnExactArePlayableRow : OpenClaim := { program := "ytdcfofaojalilaa", sum := "76e7ee97588ea4f6cc4621eb21163f3a802bcc469f4c8d5849aceeb171925db5", func := "loop.example/g00903/laws.FnExactArePlayable", spec := "fnExactArePlayable", apart := false }
def FnExactArePlayableSaid : Prop := fnExactArePlayableRow.holds Try.pinned (OpenSpec.ofChange fnExactArePlayableSpec)

/-- ITS FALSE NEIGHBOUR: 'it returns false'. Refute it at one input. -/
def fnExactArePlayableWrong : ChangeSpec := { name := "fnExactArePlayable", fn := fun _ => fun
  | [d] => { results := [.lit (.bool false)], args := [d] }
  | _ => none }
def FnExactArePlayableWrongFalsely : Prop := fnExactArePlayableRow.holds Try.pinned (OpenSpec.ofChange fnExactArePlayableWrong)

/-- 'laws.FnExactGateAt': WHATEVER THE INPUT: true; the input reads as it did. -/
def fnExactGateAtSpec : ChangeSpec := { name := "fnExactGateAt", fn := fun _ => fun
  | [d1, d2, d3] => { results := [.lit (.bool true)], args := [d1, d2, d3] }
  | _ => none }
def fnExactGateAtRow : OpenClaim := { program := "ytdcfofaojalilaa", sum := "76e7ee97588ea4f6cc4621eb21163f3a802bcc469f4c8d5849aceeb171925db5", func := "loop.example/g00903/laws.FnExactGateAt", spec := "fnExactGateAt", unfollowed := true, recurses := true, apart := false }
def FnExactGateAtSaid : Prop := fnExactGateAtRow.holds Try.pinned (OpenSpec.ofChange fnExactGateAtSpec)

/-- ITS FALSE NEIGHBOUR: 'it returns false'. Refute it at one input. -/
def fnExactGateAtWrong : ChangeSpec := { name := "fnExactGateAt", fn := fun _ => fun
  | [d1, d2, d3] => { results := [.lit (.bool false)], args := [d1, d2, d3] }
  | _ => none }
def FnExactGateAtWrongFalsely : Prop := fnExactGateAtRow.holds Try.pinned (OpenSpec.ofChange fnExactGateAtWrong)

/-- 'laws.FnExactPolyphonyOf': WHATEVER THE INPUT: true; the input reads as it did. -/
def fnExactPolyphonyOfSpec : ChangeSpec := { name := "fnExactPolyphonyOf", fn := fun _ => fun
  | [d] => { results := [.lit (.bool true)], args := [d] }
  | _ => none }
def fnExactPolyphonyOfRow : OpenClaim := { program := "ytdcfofaojalilaa", sum := "76e7ee97588ea4f6cc4621eb21163f3a802bcc469f4c8d5849aceeb171925db5", func := "loop.example/g00903/laws.FnExactPolyphonyOf", spec := "fnExactPolyphonyOf", apart := false }
def FnExactPolyphonyOfSaid : Prop := fnExactPolyphonyOfRow.holds Try.pinned (OpenSpec.ofChange fnExactPolyphonyOfSpec)

/-- ITS FALSE NEIGHBOUR: 'it returns false'. Refute it at one input. -/
def fnExactPolyphonyOfWrong : ChangeSpec := { name := "fnExactPolyphonyOf", fn := fun _ => fun
  | [d] => { results := [.lit (.bool false)], args := [d] }
  | _ => none }
def FnExactPolyphonyOfWrongFalsely : Prop := fnExactPolyphonyOfRow.holds Try.pinned (OpenSpec.ofChange fnExactPolyphonyOfWrong)

/-- 'laws.FnExactVoiceGates': WHATEVER THE INPUT: true; the input reads as it did. -/
def fnExactVoiceGatesSpec : ChangeSpec := { name := "fnExactVoiceGates", fn := fun _ => fun
  | [d1, d2] => { results := [.lit (.bool true)], args := [d1, d2] }
  | _ => none }
def fnExactVoiceGatesRow : OpenClaim := { program := "ytdcfofaojalilaa", sum := "76e7ee97588ea4f6cc4621eb21163f3a802bcc469f4c8d5849aceeb171925db5", func := "loop.example/g00903/laws.FnExactVoiceGates", spec := "fnExactVoiceGates", apart := false }
def FnExactVoiceGatesSaid : Prop := fnExactVoiceGatesRow.holds Try.pinned (OpenSpec.ofChange fnExactVoiceGatesSpec)

/-- ITS FALSE NEIGHBOUR: 'it returns false'. Refute it at one input. -/
def fnExactVoiceGatesWrong : ChangeSpec := { name := "fnExactVoiceGates", fn := fun _ => fun
  | [d1, d2] => { results := [.lit (.bool false)], args := [d1, d2] }
  | _ => none }
def FnExactVoiceGatesWrongFalsely : Prop := fnExactVoiceGatesRow.holds Try.pinned (OpenSpec.ofChange fnExactVoiceGatesWrong)

/-- 'laws.FnVoiceParts': WHATEVER THE INPUT: true; the input reads as it did. -/
def fnVoicePartsSpec : ChangeSpec := { name := "fnVoiceParts", fn := fun _ => fun
  | [d1, d2] => { results := [.lit (.bool true)], args := [d1, d2] }
  | _ => none }
def fnVoicePartsRow : OpenClaim := { program := "ytdcfofaojalilaa", sum := "76e7ee97588ea4f6cc4621eb21163f3a802bcc469f4c8d5849aceeb171925db5", func := "loop.example/g00903/laws.FnVoiceParts", spec := "fnVoiceParts", unfollowed := true, recurses := true, apart := false }
def FnVoicePartsSaid : Prop := fnVoicePartsRow.holds Try.pinned (OpenSpec.ofChange fnVoicePartsSpec)

/-- ITS FALSE NEIGHBOUR: 'it returns false'. Refute it at one input. -/
def fnVoicePartsWrong : ChangeSpec := { name := "fnVoiceParts", fn := fun _ => fun
  | [d1, d2] => { results := [.lit (.bool false)], args := [d1, d2] }
  | _ => none }
def FnVoicePartsWrongFalsely : Prop := fnVoicePartsRow.holds Try.pinned (OpenSpec.ofChange fnVoicePartsWrong)

/-- 'laws.FnVoices': WHATEVER THE INPUT: true; the input reads as it did. -/
def fnVoicesSpec : ChangeSpec := { name := "fnVoices", fn := fun _ => fun
  | [d1, d2] => { results := [.lit (.bool true)], args := [d1, d2] }
  | _ => none }
def fnVoicesRow : OpenClaim := { program := "ytdcfofaojalilaa", sum := "76e7ee97588ea4f6cc4621eb21163f3a802bcc469f4c8d5849aceeb171925db5", func := "loop.example/g00903/laws.FnVoices", spec := "fnVoices", unfollowed := true, recurses := true, apart := false }
def FnVoicesSaid : Prop := fnVoicesRow.holds Try.pinned (OpenSpec.ofChange fnVoicesSpec)

/-- ITS FALSE NEIGHBOUR: 'it returns false'. Refute it at one input. -/
def fnVoicesWrong : ChangeSpec := { name := "fnVoices", fn := fun _ => fun
  | [d1, d2] => { results := [.lit (.bool false)], args := [d1, d2] }
  | _ => none }
def FnVoicesWrongFalsely : Prop := fnVoicesRow.holds Try.pinned (OpenSpec.ofChange fnVoicesWrong)

/-- 'laws.FnExactNeededVoices': WHATEVER THE INPUT: true; the input reads as it did. -/
def fnExactNeededVoicesSpec : ChangeSpec := { name := "fnExactNeededVoices", fn := fun _ => fun
  | [d] => { results := [.lit (.bool true)], args := [d] }
  | _ => none }
def fnExactNeededVoicesRow : OpenClaim := { program := "ytdcfofaojalilaa", sum := "76e7ee97588ea4f6cc4621eb21163f3a802bcc469f4c8d5849aceeb171925db5", func := "loop.example/g00903/laws.FnExactNeededVoices", spec := "fnExactNeededVoices", unfollowed := true, recurses := true, apart := false }
def FnExactNeededVoicesSaid : Prop := fnExactNeededVoicesRow.holds Try.pinned (OpenSpec.ofChange fnExactNeededVoicesSpec)

/-- ITS FALSE NEIGHBOUR: 'it returns false'. Refute it at one input. -/
def fnExactNeededVoicesWrong : ChangeSpec := { name := "fnExactNeededVoices", fn := fun _ => fun
  | [d] => { results := [.lit (.bool false)], args := [d] }
  | _ => none }
def FnExactNeededVoicesWrongFalsely : Prop := fnExactNeededVoicesRow.holds Try.pinned (OpenSpec.ofChange fnExactNeededVoicesWrong)

/-- 'laws.FnExactAllocateVoices': WHATEVER THE INPUT: true; the input reads as it did. -/
def fnExactAllocateVoicesSpec : ChangeSpec := { name := "fnExactAllocateVoices", fn := fun _ => fun
  | [d1, d2] => { results := [.lit (.bool true)], args := [d1, d2] }
  | _ => none }
def fnExactAllocateVoicesRow : OpenClaim := { program := "ytdcfofaojalilaa", sum := "76e7ee97588ea4f6cc4621eb21163f3a802bcc469f4c8d5849aceeb171925db5", func := "loop.example/g00903/laws.FnExactAllocateVoices", spec := "fnExactAllocateVoices", unfollowed := true, recurses := true, apart := false }
def FnExactAllocateVoicesSaid : Prop := fnExactAllocateVoicesRow.holds Try.pinned (OpenSpec.ofChange fnExactAllocateVoicesSpec)

/-- ITS FALSE NEIGHBOUR: 'it returns false'. Refute it at one input. -/
def fnExactAllocateVoicesWrong : ChangeSpec := { name := "fnExactAllocateVoices", fn := fun _ => fun
  | [d1, d2] => { results := [.lit (.bool false)], args := [d1, d2] }
  | _ => none }
def FnExactAllocateVoicesWrongFalsely : Prop := fnExactAllocateVoicesRow.holds Try.pinned (OpenSpec.ofChange fnExactAllocateVoicesWrong)

/- THE SECOND FORM. 'bulk': how many values and letters a reading holds, each counted each time it is reached (what is shared counts as often as it is met; a slice's spare places count too). A statement '..UptoSaid' is the law's where the arguments, and the package variables that the reading takes, are together of bulk at most 1048576: NARROWER than '..Said'. Prove '..Said' where nothing that the law and all that it calls make is longer than what came in: it says more and counts as full. Else prove '..UptoSaid'. A law counts once. -/
mutual
def uptoBulk {H : Type} : DataW H → Nat
  | .lit (.string bytes) => bytes.length + 1
  | .lit _ => 1
  | .nil => 1
  | .ptr d => uptoBulk d + 1
  | .slice elems spare => uptoBulkAll elems + uptoBulkAll spare + 1
  | .agg parts => uptoBulkAll parts + 1
  | .iface _ d => uptoBulk d + 1
  | .map entries => uptoBulkEntries entries + 1
  | .held _ => 1
def uptoBulkAll {H : Type} : List (DataW H) → Nat
  | [] => 0
  | d :: r => uptoBulk d + uptoBulkAll r
def uptoBulkEntries {H : Type} : List (Lit × DataW H) → Nat
  | [] => 0
  | x :: r => uptoBulkEntry x + uptoBulkEntries r
def uptoBulkEntry {H : Type} : Lit × DataW H → Nat
  | (.string bytes, d) => bytes.length + uptoBulk d + 1
  | (_, d) => uptoBulk d + 1
 end
def uptoSmall : (H : Type) → List (DataW H) → Bool := fun _ ds => decide (uptoBulkAll ds ≤ 1048576)
def OpenSpec.upto (s : _root_.Go.ChangeSpec) : _root_.Go.OpenSpec := { _root_.Go.OpenSpec.ofChange s with cond := some uptoSmall }

/-- 'laws.FnExactSameGates', WHERE WHAT IT READS IS OF BULK AT MOST 1048576: true; the input reads as it did. -/
def fnExactSameGatesUptoRow : OpenClaim := { program := "ytdcfofaojalilaa", sum := "76e7ee97588ea4f6cc4621eb21163f3a802bcc469f4c8d5849aceeb171925db5", func := "loop.example/g00903/laws.FnExactSameGates", spec := "fnExactSameGates", apart := false, narrowed := true }
def FnExactSameGatesUptoSaid : Prop := fnExactSameGatesUptoRow.holds Try.pinned (OpenSpec.upto fnExactSameGatesSpec)

/-- 'laws.FnExactValidGates', WHERE WHAT IT READS IS OF BULK AT MOST 1048576: true; the input reads as it did. -/
def fnExactValidGatesUptoRow : OpenClaim := { program := "ytdcfofaojalilaa", sum := "76e7ee97588ea4f6cc4621eb21163f3a802bcc469f4c8d5849aceeb171925db5", func := "loop.example/g00903/laws.FnExactValidGates", spec := "fnExactValidGates", apart := false, narrowed := true }
def FnExactValidGatesUptoSaid : Prop := fnExactValidGatesUptoRow.holds Try.pinned (OpenSpec.upto fnExactValidGatesSpec)

/-- 'laws.FnExactArePlayable', WHERE WHAT IT READS IS OF BULK AT MOST 1048576: true; the input reads as it did. -/
def fnExactArePlayableUptoRow : OpenClaim := { program := "ytdcfofaojalilaa", sum := "76e7ee97588ea4f6cc4621eb21163f3a802bcc469f4c8d5849aceeb171925db5", func := "loop.example/g00903/laws.FnExactArePlayable", spec := "fnExactArePlayable", apart := false, narrowed := true }
def FnExactArePlayableUptoSaid : Prop := fnExactArePlayableUptoRow.holds Try.pinned (OpenSpec.upto fnExactArePlayableSpec)

/-- 'laws.FnExactGateAt', WHERE WHAT IT READS IS OF BULK AT MOST 1048576: true; the input reads as it did. -/
def fnExactGateAtUptoRow : OpenClaim := { program := "ytdcfofaojalilaa", sum := "76e7ee97588ea4f6cc4621eb21163f3a802bcc469f4c8d5849aceeb171925db5", func := "loop.example/g00903/laws.FnExactGateAt", spec := "fnExactGateAt", unfollowed := true, recurses := true, apart := false, narrowed := true }
def FnExactGateAtUptoSaid : Prop := fnExactGateAtUptoRow.holds Try.pinned (OpenSpec.upto fnExactGateAtSpec)

/-- 'laws.FnExactPolyphonyOf', WHERE WHAT IT READS IS OF BULK AT MOST 1048576: true; the input reads as it did. -/
def fnExactPolyphonyOfUptoRow : OpenClaim := { program := "ytdcfofaojalilaa", sum := "76e7ee97588ea4f6cc4621eb21163f3a802bcc469f4c8d5849aceeb171925db5", func := "loop.example/g00903/laws.FnExactPolyphonyOf", spec := "fnExactPolyphonyOf", apart := false, narrowed := true }
def FnExactPolyphonyOfUptoSaid : Prop := fnExactPolyphonyOfUptoRow.holds Try.pinned (OpenSpec.upto fnExactPolyphonyOfSpec)

/-- 'laws.FnExactVoiceGates', WHERE WHAT IT READS IS OF BULK AT MOST 1048576: true; the input reads as it did. -/
def fnExactVoiceGatesUptoRow : OpenClaim := { program := "ytdcfofaojalilaa", sum := "76e7ee97588ea4f6cc4621eb21163f3a802bcc469f4c8d5849aceeb171925db5", func := "loop.example/g00903/laws.FnExactVoiceGates", spec := "fnExactVoiceGates", apart := false, narrowed := true }
def FnExactVoiceGatesUptoSaid : Prop := fnExactVoiceGatesUptoRow.holds Try.pinned (OpenSpec.upto fnExactVoiceGatesSpec)

/-- 'laws.FnVoiceParts', WHERE WHAT IT READS IS OF BULK AT MOST 1048576: true; the input reads as it did. -/
def fnVoicePartsUptoRow : OpenClaim := { program := "ytdcfofaojalilaa", sum := "76e7ee97588ea4f6cc4621eb21163f3a802bcc469f4c8d5849aceeb171925db5", func := "loop.example/g00903/laws.FnVoiceParts", spec := "fnVoiceParts", unfollowed := true, recurses := true, apart := false, narrowed := true }
def FnVoicePartsUptoSaid : Prop := fnVoicePartsUptoRow.holds Try.pinned (OpenSpec.upto fnVoicePartsSpec)

/-- 'laws.FnVoices', WHERE WHAT IT READS IS OF BULK AT MOST 1048576: true; the input reads as it did. -/
def fnVoicesUptoRow : OpenClaim := { program := "ytdcfofaojalilaa", sum := "76e7ee97588ea4f6cc4621eb21163f3a802bcc469f4c8d5849aceeb171925db5", func := "loop.example/g00903/laws.FnVoices", spec := "fnVoices", unfollowed := true, recurses := true, apart := false, narrowed := true }
def FnVoicesUptoSaid : Prop := fnVoicesUptoRow.holds Try.pinned (OpenSpec.upto fnVoicesSpec)

/-- 'laws.FnExactNeededVoices', WHERE WHAT IT READS IS OF BULK AT MOST 1048576: true; the input reads as it did. -/
def fnExactNeededVoicesUptoRow : OpenClaim := { program := "ytdcfofaojalilaa", sum := "76e7ee97588ea4f6cc4621eb21163f3a802bcc469f4c8d5849aceeb171925db5", func := "loop.example/g00903/laws.FnExactNeededVoices", spec := "fnExactNeededVoices", unfollowed := true, recurses := true, apart := false, narrowed := true }
def FnExactNeededVoicesUptoSaid : Prop := fnExactNeededVoicesUptoRow.holds Try.pinned (OpenSpec.upto fnExactNeededVoicesSpec)

/-- 'laws.FnExactAllocateVoices', WHERE WHAT IT READS IS OF BULK AT MOST 1048576: true; the input reads as it did. -/
def fnExactAllocateVoicesUptoRow : OpenClaim := { program := "ytdcfofaojalilaa", sum := "76e7ee97588ea4f6cc4621eb21163f3a802bcc469f4c8d5849aceeb171925db5", func := "loop.example/g00903/laws.FnExactAllocateVoices", spec := "fnExactAllocateVoices", unfollowed := true, recurses := true, apart := false, narrowed := true }
def FnExactAllocateVoicesUptoSaid : Prop := fnExactAllocateVoicesUptoRow.holds Try.pinned (OpenSpec.upto fnExactAllocateVoicesSpec)

end Rows
end Go.Proofs.Ytdcfofaojalilaa
