/-
  No cell of these rows narrows 'for every input' (looked for: loops, veiled, ifaces, maps, wideKeys, modest, calm, conditions, laid).
  DERIVED. THE GIVEN ROWS OF THIS SEAT. 4 by the template 'for every input the law returns true; each argument reads behind the call as it read before'; 0 by the template 'total and deterministic' (their statements: YtimijeeihicohaaGreatTotals.lean).
  GIVEN WITH THE SEED: the statements are not yours to turn. If you find one false, say at which input.
  Laid BY PROGRAM, IN A SANDBOX (cutbox-rows.mjs): the forced cells as the released guide's own fill.sh prints them over the translation bf8470f568c6a2de… (all of the seat's roots in one cut). By AI agents, Wed Nov 11 2026. No macro, syntax, notation, axiom, sorry.
-/
import Derived.Test.YtimijeeihicohaaGreatChecked
import GoSem.Claim
import GoSem.ClaimJoined
import GoSem.ClaimMapViews
import Derived.JoinedTies
import Derived.KernelRfl
namespace Go.Proofs.YtimijeeihicohaaGreat
/- THE CELL 'sum', in the pinned program and in every row, IS THE sha256 OF THE DUMP (.gsa) THAT YtimijeeihicohaaGreatProg.lean LOADS. Nothing in Lean hashes anything: it is a label: what it is worth is what the hold of that sum in a sandbox is worth. -/
noncomputable def Tryz.pinned : Pinned := { name := "ytimijeeihicohaagreat", sum := "bf8470f568c6a2dec866a1a757deb5015dd5f98c1c3a7e575107c1d776d0fab0", checked := Tryz.checked }
namespace Rows
def none {H : Type} : Left H := { results := [], args := [] }

/-- 'laws.FnExactControlsOf': WHATEVER THE INPUT: true; the input reads as it did. -/
def fnExactControlsOfSpec : ChangeSpec := { name := "fnExactControlsOf", fn := fun _ => fun
  | [d1, d2, d3] => { results := [.lit (.bool true)], args := [d1, d2, d3] }
  | _ => none }
def fnExactControlsOfRow : OpenClaim := { program := "ytimijeeihicohaagreat", sum := "bf8470f568c6a2dec866a1a757deb5015dd5f98c1c3a7e575107c1d776d0fab0", func := "loop.example/g00903/laws.FnExactControlsOf", spec := "fnExactControlsOf", apart := false }
def FnExactControlsOfSaid : Prop := fnExactControlsOfRow.holds Tryz.pinned (OpenSpec.ofChange fnExactControlsOfSpec)

/-- ITS FALSE NEIGHBOUR: 'it returns false'. Refute it at one input. -/
def fnExactControlsOfWrong : ChangeSpec := { name := "fnExactControlsOf", fn := fun _ => fun
  | [d1, d2, d3] => { results := [.lit (.bool false)], args := [d1, d2, d3] }
  | _ => none }
def FnExactControlsOfWrongFalsely : Prop := fnExactControlsOfRow.holds Tryz.pinned (OpenSpec.ofChange fnExactControlsOfWrong)

/-- 'laws.FnExactRenderVoice': WHATEVER THE INPUT: true; the input reads as it did. -/
def fnExactRenderVoiceSpec : ChangeSpec := { name := "fnExactRenderVoice", fn := fun _ => fun
  | [d1, d2, d3] => { results := [.lit (.bool true)], args := [d1, d2, d3] }
  | _ => none }
def fnExactRenderVoiceRow : OpenClaim := { program := "ytimijeeihicohaagreat", sum := "bf8470f568c6a2dec866a1a757deb5015dd5f98c1c3a7e575107c1d776d0fab0", func := "loop.example/g00903/laws.FnExactRenderVoice", spec := "fnExactRenderVoice", apart := false }
def FnExactRenderVoiceSaid : Prop := fnExactRenderVoiceRow.holds Tryz.pinned (OpenSpec.ofChange fnExactRenderVoiceSpec)

/-- ITS FALSE NEIGHBOUR: 'it returns false'. Refute it at one input. -/
def fnExactRenderVoiceWrong : ChangeSpec := { name := "fnExactRenderVoice", fn := fun _ => fun
  | [d1, d2, d3] => { results := [.lit (.bool false)], args := [d1, d2, d3] }
  | _ => none }
def FnExactRenderVoiceWrongFalsely : Prop := fnExactRenderVoiceRow.holds Tryz.pinned (OpenSpec.ofChange fnExactRenderVoiceWrong)

/-- 'laws.FnExactRenderGates': WHATEVER THE INPUT: true; the input reads as it did. -/
def fnExactRenderGatesSpec : ChangeSpec := { name := "fnExactRenderGates", fn := fun _ => fun
  | [d1, d2, d3] => { results := [.lit (.bool true)], args := [d1, d2, d3] }
  | _ => none }
def fnExactRenderGatesRow : OpenClaim := { program := "ytimijeeihicohaagreat", sum := "bf8470f568c6a2dec866a1a757deb5015dd5f98c1c3a7e575107c1d776d0fab0", func := "loop.example/g00903/laws.FnExactRenderGates", spec := "fnExactRenderGates", apart := false }
def FnExactRenderGatesSaid : Prop := fnExactRenderGatesRow.holds Tryz.pinned (OpenSpec.ofChange fnExactRenderGatesSpec)

/-- ITS FALSE NEIGHBOUR: 'it returns false'. Refute it at one input. -/
def fnExactRenderGatesWrong : ChangeSpec := { name := "fnExactRenderGates", fn := fun _ => fun
  | [d1, d2, d3] => { results := [.lit (.bool false)], args := [d1, d2, d3] }
  | _ => none }
def FnExactRenderGatesWrongFalsely : Prop := fnExactRenderGatesRow.holds Tryz.pinned (OpenSpec.ofChange fnExactRenderGatesWrong)

/-- 'laws.FnExactPerform': WHATEVER THE INPUT: true; the input reads as it did. -/
def fnExactPerformSpec : ChangeSpec := { name := "fnExactPerform", fn := fun _ => fun
  | [d1, d2, d3, d4, d5] => { results := [.lit (.bool true)], args := [d1, d2, d3, d4, d5] }
  | _ => none }
def fnExactPerformRow : OpenClaim := { program := "ytimijeeihicohaagreat", sum := "bf8470f568c6a2dec866a1a757deb5015dd5f98c1c3a7e575107c1d776d0fab0", func := "loop.example/g00903/laws.FnExactPerform", spec := "fnExactPerform", unfollowed := true, recurses := true, apart := false }
def FnExactPerformSaid : Prop := fnExactPerformRow.holds Tryz.pinned (OpenSpec.ofChange fnExactPerformSpec)

/-- ITS FALSE NEIGHBOUR: 'it returns false'. Refute it at one input. -/
def fnExactPerformWrong : ChangeSpec := { name := "fnExactPerform", fn := fun _ => fun
  | [d1, d2, d3, d4, d5] => { results := [.lit (.bool false)], args := [d1, d2, d3, d4, d5] }
  | _ => none }
def FnExactPerformWrongFalsely : Prop := fnExactPerformRow.holds Tryz.pinned (OpenSpec.ofChange fnExactPerformWrong)

/- THE SECOND FORM. 'bulk': how many values and letters a reading holds, each counted each time it is reached (what is shared counts as often as it is met; a slice's spare places count too). A statement '..UptoSaid' is the law's where the arguments, and the package variables that the reading takes, are together of bulk at most 1048576: NARROWER than '..Said'. Prove '..Said' where nothing that the law and all that it calls make is longer than what came in: it says more and counts as full. Else prove '..UptoSaid'. A law counts once. -/
mutual
def uptoBulk {H : Type} : DataW H → Nat
  | .lit (.string bytes) => bytes.length + 1
  | .lit _ => 1
  | .nil => 1
  | .ptr d => uptoBulk d + 1
  | .slice elems spare => uptoBulkAll elems + uptoBulkAll spare + 1
  | .agg parts => uptoBulkAll parts + 1
  | .iface _ d => uptoBulk d + 1
  | .map entries => uptoBulkEntries entries + 1
  | .held _ => 1
def uptoBulkAll {H : Type} : List (DataW H) → Nat
  | [] => 0
  | d :: r => uptoBulk d + uptoBulkAll r
def uptoBulkEntries {H : Type} : List (Lit × DataW H) → Nat
  | [] => 0
  | x :: r => uptoBulkEntry x + uptoBulkEntries r
def uptoBulkEntry {H : Type} : Lit × DataW H → Nat
  | (.string bytes, d) => bytes.length + uptoBulk d + 1
  | (_, d) => uptoBulk d + 1
 end
def uptoSmall : (H : Type) → List (DataW H) → Bool := fun _ ds => decide (uptoBulkAll ds ≤ 1048576)
def OpenSpec.upto (s : _root_.Go.ChangeSpec) : _root_.Go.OpenSpec := { _root_.Go.OpenSpec.ofChange s with cond := some uptoSmall }

/-- 'laws.FnExactControlsOf', WHERE WHAT IT READS IS OF BULK AT MOST 1048576: true; the input reads as it did. -/
def fnExactControlsOfUptoRow : OpenClaim := { program := "ytimijeeihicohaagreat", sum := "bf8470f568c6a2dec866a1a757deb5015dd5f98c1c3a7e575107c1d776d0fab0", func := "loop.example/g00903/laws.FnExactControlsOf", spec := "fnExactControlsOf", apart := false, narrowed := true }
def FnExactControlsOfUptoSaid : Prop := fnExactControlsOfUptoRow.holds Tryz.pinned (OpenSpec.upto fnExactControlsOfSpec)

/-- 'laws.FnExactRenderVoice', WHERE WHAT IT READS IS OF BULK AT MOST 1048576: true; the input reads as it did. -/
def fnExactRenderVoiceUptoRow : OpenClaim := { program := "ytimijeeihicohaagreat", sum := "bf8470f568c6a2dec866a1a757deb5015dd5f98c1c3a7e575107c1d776d0fab0", func := "loop.example/g00903/laws.FnExactRenderVoice", spec := "fnExactRenderVoice", apart := false, narrowed := true }
def FnExactRenderVoiceUptoSaid : Prop := fnExactRenderVoiceUptoRow.holds Tryz.pinned (OpenSpec.upto fnExactRenderVoiceSpec)

/-- 'laws.FnExactRenderGates', WHERE WHAT IT READS IS OF BULK AT MOST 1048576: true; the input reads as it did. -/
def fnExactRenderGatesUptoRow : OpenClaim := { program := "ytimijeeihicohaagreat", sum := "bf8470f568c6a2dec866a1a757deb5015dd5f98c1c3a7e575107c1d776d0fab0", func := "loop.example/g00903/laws.FnExactRenderGates", spec := "fnExactRenderGates", apart := false, narrowed := true }
def FnExactRenderGatesUptoSaid : Prop := fnExactRenderGatesUptoRow.holds Tryz.pinned (OpenSpec.upto fnExactRenderGatesSpec)

/-- 'laws.FnExactPerform', WHERE WHAT IT READS IS OF BULK AT MOST 1048576: true; the input reads as it did. -/
def fnExactPerformUptoRow : OpenClaim := { program := "ytimijeeihicohaagreat", sum := "bf8470f568c6a2dec866a1a757deb5015dd5f98c1c3a7e575107c1d776d0fab0", func := "loop.example/g00903/laws.FnExactPerform", spec := "fnExactPerform", unfollowed := true, recurses := true, apart := false, narrowed := true }
def FnExactPerformUptoSaid : Prop := fnExactPerformUptoRow.holds Tryz.pinned (OpenSpec.upto fnExactPerformSpec)

end Rows
end Go.Proofs.YtimijeeihicohaaGreat
