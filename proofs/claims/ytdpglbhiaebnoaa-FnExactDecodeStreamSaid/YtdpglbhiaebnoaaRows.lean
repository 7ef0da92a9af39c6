/-
  No cell of these rows narrows 'for every input' (looked for: loops, veiled, ifaces, maps, wideKeys, modest, calm, conditions, laid).
  DERIVED. THE GIVEN ROWS OF THIS SEAT. 6 by the template 'for every input the law returns true; each argument reads behind the call as it read before'; 0 by the template 'total and deterministic' (their statements: YtdpglbhiaebnoaaTotals.lean).
  GIVEN WITH THE SEED: the statements are not yours to turn. If you find one false, say at which input.
  Laid BY PROGRAM, IN A SANDBOX (cutbox-rows.mjs): the forced cells as the released guide's own fill.sh prints them over the translation bd37b2c71ea5bbe9… (all of the seat's roots in one cut). By AI agents, Wed Nov 11 2026. No macro, syntax, notation, axiom, sorry.
-/
import Derived.Test.YtdpglbhiaebnoaaChecked
import GoSem.Claim
import GoSem.ClaimJoined
import GoSem.ClaimMapViews
import Derived.JoinedTies
import Derived.KernelRfl
namespace Go.Proofs.Ytdpglbhiaebnoaa
/- THE CELL 'sum', in the pinned program and in every row, IS THE sha256 OF THE DUMP (.gsa) THAT YtdpglbhiaebnoaaProg.lean LOADS. Nothing in Lean hashes anything: it is a label: what it is worth is what the hold of that sum in a sandbox is worth. -/
noncomputable def Try.pinned : Pinned := { name := "ytdpglbhiaebnoaa", sum := "bd37b2c71ea5bbe9c4ae10862cb4e1bc22b57a2ba56d9dd025fe3564eec9713c", checked := Try.checked }
namespace Rows
def none {H : Type} : Left H := { results := [], args := [] }

/-- 'laws.FnExactSameStream': WHATEVER THE INPUT: true; the input reads as it did. -/
def fnExactSameStreamSpec : ChangeSpec := { name := "fnExactSameStream", fn := fun _ => fun
  | [d1, d2] => { results := [.lit (.bool true)], args := [d1, d2] }
  | _ => none }
def fnExactSameStreamRow : OpenClaim := { program := "ytdpglbhiaebnoaa", sum := "bd37b2c71ea5bbe9c4ae10862cb4e1bc22b57a2ba56d9dd025fe3564eec9713c", func := "loop.example/g00903/laws.FnExactSameStream", spec := "fnExactSameStream", apart := false }
def FnExactSameStreamSaid : Prop := fnExactSameStreamRow.holds Try.pinned (OpenSpec.ofChange fnExactSameStreamSpec)

/-- ITS FALSE NEIGHBOUR: 'it returns false'. Refute it at one input. -/
def fnExactSameStreamWrong : ChangeSpec := { name := "fnExactSameStream", fn := fun _ => fun
  | [d1, d2] => { results := [.lit (.bool false)], args := [d1, d2] }
  | _ => none }
def FnExactSameStreamWrongFalsely : Prop := fnExactSameStreamRow.holds Try.pinned (OpenSpec.ofChange fnExactSameStreamWrong)

/-- 'laws.FnExactValidStream': WHATEVER THE INPUT: true; the input reads as it did. -/
def fnExactValidStreamSpec : ChangeSpec := { name := "fnExactValidStream", fn := fun _ => fun
  | [d] => { results := [.lit (.bool true)], args := [d] }
  | _ => none }
def fnExactValidStreamRow : OpenClaim := { program := "ytdpglbhiaebnoaa", sum := "bd37b2c71ea5bbe9c4ae10862cb4e1bc22b57a2ba56d9dd025fe3564eec9713c", func := "loop.example/g00903/laws.FnExactValidStream", spec := "fnExactValidStream", unfollowed := true, recurses := true, apart := false }
def FnExactValidStreamSaid : Prop := fnExactValidStreamRow.holds Try.pinned (OpenSpec.ofChange fnExactValidStreamSpec)

/-- ITS FALSE NEIGHBOUR: 'it returns false'. Refute it at one input. -/
def fnExactValidStreamWrong : ChangeSpec := { name := "fnExactValidStream", fn := fun _ => fun
  | [d] => { results := [.lit (.bool false)], args := [d] }
  | _ => none }
def FnExactValidStreamWrongFalsely : Prop := fnExactValidStreamRow.holds Try.pinned (OpenSpec.ofChange fnExactValidStreamWrong)

/-- 'laws.FnExactEncodeStream': WHATEVER THE INPUT: true; the input reads as it did. -/
def fnExactEncodeStreamSpec : ChangeSpec := { name := "fnExactEncodeStream", fn := fun _ => fun
  | [d] => { results := [.lit (.bool true)], args := [d] }
  | _ => none }
def fnExactEncodeStreamRow : OpenClaim := { program := "ytdpglbhiaebnoaa", sum := "bd37b2c71ea5bbe9c4ae10862cb4e1bc22b57a2ba56d9dd025fe3564eec9713c", func := "loop.example/g00903/laws.FnExactEncodeStream", spec := "fnExactEncodeStream", unfollowed := true, recurses := true, apart := false }
def FnExactEncodeStreamSaid : Prop := fnExactEncodeStreamRow.holds Try.pinned (OpenSpec.ofChange fnExactEncodeStreamSpec)

/-- ITS FALSE NEIGHBOUR: 'it returns false'. Refute it at one input. -/
def fnExactEncodeStreamWrong : ChangeSpec := { name := "fnExactEncodeStream", fn := fun _ => fun
  | [d] => { results := [.lit (.bool false)], args := [d] }
  | _ => none }
def FnExactEncodeStreamWrongFalsely : Prop := fnExactEncodeStreamRow.holds Try.pinned (OpenSpec.ofChange fnExactEncodeStreamWrong)

/-- 'laws.FnExactDecodeStream': WHATEVER THE INPUT: true; the input reads as it did. -/
def fnExactDecodeStreamSpec : ChangeSpec := { name := "fnExactDecodeStream", fn := fun _ => fun
  | [d] => { results := [.lit (.bool true)], args := [d] }
  | _ => none }
def fnExactDecodeStreamRow : OpenClaim := { program := "ytdpglbhiaebnoaa", sum := "bd37b2c71ea5bbe9c4ae10862cb4e1bc22b57a2ba56d9dd025fe3564eec9713c", func := "loop.example/g00903/laws.FnExactDecodeStream", spec := "fnExactDecodeStream", apart := false }
def FnExactDecodeStreamSaid : Prop := fnExactDecodeStreamRow.holds Try.pinned (OpenSpec.ofChange fnExactDecodeStreamSpec)

/-- ITS FALSE NEIGHBOUR: 'it returns false'. Refute it at one input. -/
def fnExactDecodeStreamWrong : ChangeSpec := { name := "fnExactDecodeStream", fn := fun _ => fun
  | [d] => { results := [.lit (.bool false)], args := [d] }
  | _ => none }
def FnExactDecodeStreamWrongFalsely : Prop := fnExactDecodeStreamRow.holds Try.pinned (OpenSpec.ofChange fnExactDecodeStreamWrong)

/-- 'laws.FnExactCanonicalStream': WHATEVER THE INPUT: true; the input reads as it did. -/
def fnExactCanonicalStreamSpec : ChangeSpec := { name := "fnExactCanonicalStream", fn := fun _ => fun
  | [d] => { results := [.lit (.bool true)], args := [d] }
  | _ => none }
def fnExactCanonicalStreamRow : OpenClaim := { program := "ytdpglbhiaebnoaa", sum := "bd37b2c71ea5bbe9c4ae10862cb4e1bc22b57a2ba56d9dd025fe3564eec9713c", func := "loop.example/g00903/laws.FnExactCanonicalStream", spec := "fnExactCanonicalStream", apart := false }
def FnExactCanonicalStreamSaid : Prop := fnExactCanonicalStreamRow.holds Try.pinned (OpenSpec.ofChange fnExactCanonicalStreamSpec)

/-- ITS FALSE NEIGHBOUR: 'it returns false'. Refute it at one input. -/
def fnExactCanonicalStreamWrong : ChangeSpec := { name := "fnExactCanonicalStream", fn := fun _ => fun
  | [d] => { results := [.lit (.bool false)], args := [d] }
  | _ => none }
def FnExactCanonicalStreamWrongFalsely : Prop := fnExactCanonicalStreamRow.holds Try.pinned (OpenSpec.ofChange fnExactCanonicalStreamWrong)

/-- 'laws.FnStream': WHATEVER THE INPUT: true; the input reads as it did. -/
def fnStreamSpec : ChangeSpec := { name := "fnStream", fn := fun _ => fun
  | [d1, d2] => { results := [.lit (.bool true)], args := [d1, d2] }
  | _ => none }
def fnStreamRow : OpenClaim := { program := "ytdpglbhiaebnoaa", sum := "bd37b2c71ea5bbe9c4ae10862cb4e1bc22b57a2ba56d9dd025fe3564eec9713c", func := "loop.example/g00903/laws.FnStream", spec := "fnStream", unfollowed := true, recurses := true, apart := false }
def FnStreamSaid : Prop := fnStreamRow.holds Try.pinned (OpenSpec.ofChange fnStreamSpec)

/-- ITS FALSE NEIGHBOUR: 'it returns false'. Refute it at one input. -/
def fnStreamWrong : ChangeSpec := { name := "fnStream", fn := fun _ => fun
  | [d1, d2] => { results := [.lit (.bool false)], args := [d1, d2] }
  | _ => none }
def FnStreamWrongFalsely : Prop := fnStreamRow.holds Try.pinned (OpenSpec.ofChange fnStreamWrong)

/- THE SECOND FORM. 'bulk': how many values and letters a reading holds, each counted each time it is reached (what is shared counts as often as it is met; a slice's spare places count too). A statement '..UptoSaid' is the law's where the arguments, and the package variables that the reading takes, are together of bulk at most 1048576: NARROWER than '..Said'. Prove '..Said' where nothing that the law and all that it calls make is longer than what came in: it says more and counts as full. Else prove '..UptoSaid'. A law counts once. -/
mutual
def uptoBulk {H : Type} : DataW H → Nat
  | .lit (.string bytes) => bytes.length + 1
  | .lit _ => 1
  | .nil => 1
  | .ptr d => uptoBulk d + 1
  | .slice elems spare => uptoBulkAll elems + uptoBulkAll spare + 1
  | .agg parts => uptoBulkAll parts + 1
  | .iface _ d => uptoBulk d + 1
  | .map entries => uptoBulkEntries entries + 1
  | .held _ => 1
def uptoBulkAll {H : Type} : List (DataW H) → Nat
  | [] => 0
  | d :: r => uptoBulk d + uptoBulkAll r
def uptoBulkEntries {H : Type} : List (Lit × DataW H) → Nat
  | [] => 0
  | x :: r => uptoBulkEntry x + uptoBulkEntries r
def uptoBulkEntry {H : Type} : Lit × DataW H → Nat
  | (.string bytes, d) => bytes.length + uptoBulk d + 1
  | (_, d) => uptoBulk d + 1
 end
def uptoSmall : (H : Type) → List (DataW H) → Bool := fun _ ds => decide (uptoBulkAll ds ≤ 1048576)
def OpenSpec.upto (s : _root_.Go.ChangeSpec) : _root_.Go.OpenSpec := { _root_.Go.OpenSpec.ofChange s with cond := some uptoSmall }

/-- 'laws.FnExactSameStream', WHERE WHAT IT READS IS OF BULK AT MOST 1048576: true; the input reads as it did. -/
def fnExactSameStreamUptoRow : OpenClaim := { program := "ytdpglbhiaebnoaa", sum := "bd37b2c71ea5bbe9c4ae10862cb4e1bc22b57a2ba56d9dd025fe3564eec9713c", func := "loop.example/g00903/laws.FnExactSameStream", spec := "fnExactSameStream", apart := false, narrowed := true }
def FnExactSameStreamUptoSaid : Prop := fnExactSameStreamUptoRow.holds Try.pinned (OpenSpec.upto fnExactSameStreamSpec)

/-- 'laws.FnExactValidStream', WHERE WHAT IT READS IS OF BULK AT MOST 1048576: true; the input reads as it did. -/
def fnExactValidStreamUptoRow : OpenClaim := { program := "ytdpglbhiaebnoaa", sum := "bd37b2c71ea5bbe9c4ae10862cb4e1bc22b57a2ba56d9dd025fe3564eec9713c", func := "loop.example/g00903/laws.FnExactValidStream", spec := "fnExactValidStream", unfollowed := true, recurses := true, apart := false, narrowed := true }
def FnExactValidStreamUptoSaid : Prop := fnExactValidStreamUptoRow.holds Try.pinned (OpenSpec.upto fnExactValidStreamSpec)

/-- 'laws.FnExactEncodeStream', WHERE WHAT IT READS IS OF BULK AT MOST 1048576: true; the input reads as it did. -/
def fnExactEncodeStreamUptoRow : OpenClaim := { program := "ytdpglbhiaebnoaa", sum := "bd37b2c71ea5bbe9c4ae10862cb4e1bc22b57a2ba56d9dd025fe3564eec9713c", func := "loop.example/g00903/laws.FnExactEncodeStream", spec := "fnExactEncodeStream", unfollowed := true, recurses := true, apart := false, narrowed := true }
def FnExactEncodeStreamUptoSaid : Prop := fnExactEncodeStreamUptoRow.holds Try.pinned (OpenSpec.upto fnExactEncodeStreamSpec)

/-- 'laws.FnExactDecodeStream', WHERE WHAT IT READS IS OF BULK AT MOST 1048576: true; the input reads as it did. -/
def fnExactDecodeStreamUptoRow : OpenClaim := { program := "ytdpglbhiaebnoaa", sum := "bd37b2c71ea5bbe9c4ae10862cb4e1bc22b57a2ba56d9dd025fe3564eec9713c", func := "loop.example/g00903/laws.FnExactDecodeStream", spec := "fnExactDecodeStream", apart := false, narrowed := true }
def FnExactDecodeStreamUptoSaid : Prop := fnExactDecodeStreamUptoRow.holds Try.pinned (OpenSpec.upto fnExactDecodeStreamSpec)

/-- 'laws.FnExactCanonicalStream', WHERE WHAT IT READS IS OF BULK AT MOST 1048576: true; the input reads as it did. -/
def fnExactCanonicalStreamUptoRow : OpenClaim := { program := "ytdpglbhiaebnoaa", sum := "bd37b2c71ea5bbe9c4ae10862cb4e1bc22b57a2ba56d9dd025fe3564eec9713c", func := "loop.example/g00903/laws.FnExactCanonicalStream", spec := "fnExactCanonicalStream", apart := false, narrowed := true }
def FnExactCanonicalStreamUptoSaid : Prop := fnExactCanonicalStreamUptoRow.holds Try.pinned (OpenSpec.upto fnExactCanonicalStreamSpec)

/-- 'laws.FnStream', WHERE WHAT IT READS IS OF BULK AT MOST 1048576: true; the input reads as it did. -/
def fnStreamUptoRow : OpenClaim := { program := "ytdpglbhiaebnoaa", sum := "bd37b2c71ea5bbe9c4ae10862cb4e1bc22b57a2ba56d9dd025fe3564eec9713c", func := "loop.example/g00903/laws.FnStream", spec := "fnStream", unfollowed := true, recurses := true, apart := false, narrowed := true }
def FnStreamUptoSaid : Prop := fnStreamUptoRow.holds Try.pinned (OpenSpec.upto fnStreamSpec)

end Rows
end Go.Proofs.Ytdpglbhiaebnoaa
