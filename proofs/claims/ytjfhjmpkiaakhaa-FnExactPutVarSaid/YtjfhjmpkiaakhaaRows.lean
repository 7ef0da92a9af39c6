/-
  No cell of these rows narrows 'for every input' (looked for: loops, veiled, ifaces, maps, wideKeys, modest, calm, conditions, laid).
  DERIVED. THE GIVEN ROWS OF THIS SEAT. 6 by the template 'for every input the law returns true; each argument reads behind the call as it read before'; 0 by the template 'total and deterministic' (their statements: YtjfhjmpkiaakhaaTotals.lean).
  GIVEN WITH THE SEED: the statements are not yours to turn. If you find one false, say at which input.
  Laid BY PROGRAM, IN A SANDBOX (cutbox-rows.mjs): the forced cells as the released guide's own fill.sh prints them over the translation 2fd2055fa99a94f2… (all of the seat's roots in one cut). By AI agents, Wed Nov 11 2026. No macro, syntax, notation, axiom, sorry.
-/
import Derived.Test.YtjfhjmpkiaakhaaChecked
import GoSem.Claim
import GoSem.ClaimJoined
import GoSem.ClaimMapViews
import Derived.JoinedTies
import Derived.KernelRfl
namespace Go.Proofs.Ytjfhjmpkiaakhaa
/- THE CELL 'sum', in the pinned program and in every row, IS THE sha256 OF THE DUMP (.gsa) THAT YtjfhjmpkiaakhaaProg.lean LOADS. Nothing in Lean hashes anything: it is a label: what it is worth is what the hold of that sum in a sandbox is worth. -/
noncomputable def Try.pinned : Pinned := { name := "ytjfhjmpkiaakhaa", sum := "2fd2055fa99a94f2771c7ea73becc452edcafa246a08b81bc5484d0246c21642", checked := Try.checked }
namespace Rows
def none {H : Type} : Left H := { results := [], args := [] }

/-- 'laws.FnExactValidClip': WHATEVER THE INPUT: true; the input reads as it did. -/
def fnExactValidClipSpec : ChangeSpec := { name := "fnExactValidClip", fn := fun _ => fun
  | [d] => { results := [.lit (.bool true)], args := [d] }
  | _ => none }
def fnExactValidClipRow : OpenClaim := { program := "ytjfhjmpkiaakhaa", sum := "2fd2055fa99a94f2771c7ea73becc452edcafa246a08b81bc5484d0246c21642", func := "loop.example/g00903/laws.FnExactValidClip", spec := "fnExactValidClip", apart := false }
def FnExactValidClipSaid : Prop := fnExactValidClipRow.holds Try.pinned (OpenSpec.ofChange fnExactValidClipSpec)

/-- ITS FALSE NEIGHBOUR: 'it returns false'. Refute it at one input. -/
def fnExactValidClipWrong : ChangeSpec := { name := "fnExactValidClip", fn := fun _ => fun
  | [d] => { results := [.lit (.bool false)], args := [d] }
  | _ => none }
def FnExactValidClipWrongFalsely : Prop := fnExactValidClipRow.holds Try.pinned (OpenSpec.ofChange fnExactValidClipWrong)

/-- 'laws.FnExactPutVar': WHATEVER THE INPUT: true; the input reads as it did. -/
def fnExactPutVarSpec : ChangeSpec := { name := "fnExactPutVar", fn := fun _ => fun
  | [d] => { results := [.lit (.bool true)], args := [d] }
  | _ => none }
def fnExactPutVarRow : OpenClaim := { program := "ytjfhjmpkiaakhaa", sum := "2fd2055fa99a94f2771c7ea73becc452edcafa246a08b81bc5484d0246c21642", func := "loop.example/g00903/laws.FnExactPutVar", spec := "fnExactPutVar", apart := false }
def FnExactPutVarSaid : Prop := fnExactPutVarRow.holds Try.pinned (OpenSpec.ofChange fnExactPutVarSpec)

/-- ITS FALSE NEIGHBOUR: 'it returns false'. Refute it at one input. -/
def fnExactPutVarWrong : ChangeSpec := { name := "fnExactPutVar", fn := fun _ => fun
  | [d] => { results := [.lit (.bool false)], args := [d] }
  | _ => none }
def FnExactPutVarWrongFalsely : Prop := fnExactPutVarRow.holds Try.pinned (OpenSpec.ofChange fnExactPutVarWrong)

/-- 'laws.FnExactGetVar': WHATEVER THE INPUT: true; the input reads as it did. -/
def fnExactGetVarSpec : ChangeSpec := { name := "fnExactGetVar", fn := fun _ => fun
  | [d1, d2] => { results := [.lit (.bool true)], args := [d1, d2] }
  | _ => none }
def fnExactGetVarRow : OpenClaim := { program := "ytjfhjmpkiaakhaa", sum := "2fd2055fa99a94f2771c7ea73becc452edcafa246a08b81bc5484d0246c21642", func := "loop.example/g00903/laws.FnExactGetVar", spec := "fnExactGetVar", apart := false }
def FnExactGetVarSaid : Prop := fnExactGetVarRow.holds Try.pinned (OpenSpec.ofChange fnExactGetVarSpec)

/-- ITS FALSE NEIGHBOUR: 'it returns false'. Refute it at one input. -/
def fnExactGetVarWrong : ChangeSpec := { name := "fnExactGetVar", fn := fun _ => fun
  | [d1, d2] => { results := [.lit (.bool false)], args := [d1, d2] }
  | _ => none }
def FnExactGetVarWrongFalsely : Prop := fnExactGetVarRow.holds Try.pinned (OpenSpec.ofChange fnExactGetVarWrong)

/-- 'laws.FnExactValidWindow': WHATEVER THE INPUT: true; the input reads as it did. -/
def fnExactValidWindowSpec : ChangeSpec := { name := "fnExactValidWindow", fn := fun _ => fun
  | [d] => { results := [.lit (.bool true)], args := [d] }
  | _ => none }
def fnExactValidWindowRow : OpenClaim := { program := "ytjfhjmpkiaakhaa", sum := "2fd2055fa99a94f2771c7ea73becc452edcafa246a08b81bc5484d0246c21642", func := "loop.example/g00903/laws.FnExactValidWindow", spec := "fnExactValidWindow", apart := false }
def FnExactValidWindowSaid : Prop := fnExactValidWindowRow.holds Try.pinned (OpenSpec.ofChange fnExactValidWindowSpec)

/-- ITS FALSE NEIGHBOUR: 'it returns false'. Refute it at one input. -/
def fnExactValidWindowWrong : ChangeSpec := { name := "fnExactValidWindow", fn := fun _ => fun
  | [d] => { results := [.lit (.bool false)], args := [d] }
  | _ => none }
def FnExactValidWindowWrongFalsely : Prop := fnExactValidWindowRow.holds Try.pinned (OpenSpec.ofChange fnExactValidWindowWrong)

/-- 'laws.FnExactLinearWindow': WHATEVER THE INPUT: true; the input reads as it did. -/
def fnExactLinearWindowSpec : ChangeSpec := { name := "fnExactLinearWindow", fn := fun _ => fun
  | [d] => { results := [.lit (.bool true)], args := [d] }
  | _ => none }
def fnExactLinearWindowRow : OpenClaim := { program := "ytjfhjmpkiaakhaa", sum := "2fd2055fa99a94f2771c7ea73becc452edcafa246a08b81bc5484d0246c21642", func := "loop.example/g00903/laws.FnExactLinearWindow", spec := "fnExactLinearWindow", unfollowed := true, recurses := true, apart := false }
def FnExactLinearWindowSaid : Prop := fnExactLinearWindowRow.holds Try.pinned (OpenSpec.ofChange fnExactLinearWindowSpec)

/-- ITS FALSE NEIGHBOUR: 'it returns false'. Refute it at one input. -/
def fnExactLinearWindowWrong : ChangeSpec := { name := "fnExactLinearWindow", fn := fun _ => fun
  | [d] => { results := [.lit (.bool false)], args := [d] }
  | _ => none }
def FnExactLinearWindowWrongFalsely : Prop := fnExactLinearWindowRow.holds Try.pinned (OpenSpec.ofChange fnExactLinearWindowWrong)

/-- 'laws.FnExactSmoothWindow': WHATEVER THE INPUT: true; the input reads as it did. -/
def fnExactSmoothWindowSpec : ChangeSpec := { name := "fnExactSmoothWindow", fn := fun _ => fun
  | [d] => { results := [.lit (.bool true)], args := [d] }
  | _ => none }
def fnExactSmoothWindowRow : OpenClaim := { program := "ytjfhjmpkiaakhaa", sum := "2fd2055fa99a94f2771c7ea73becc452edcafa246a08b81bc5484d0246c21642", func := "loop.example/g00903/laws.FnExactSmoothWindow", spec := "fnExactSmoothWindow", unfollowed := true, recurses := true, apart := false }
def FnExactSmoothWindowSaid : Prop := fnExactSmoothWindowRow.holds Try.pinned (OpenSpec.ofChange fnExactSmoothWindowSpec)

/-- ITS FALSE NEIGHBOUR: 'it returns false'. Refute it at one input. -/
def fnExactSmoothWindowWrong : ChangeSpec := { name := "fnExactSmoothWindow", fn := fun _ => fun
  | [d] => { results := [.lit (.bool false)], args := [d] }
  | _ => none }
def FnExactSmoothWindowWrongFalsely : Prop := fnExactSmoothWindowRow.holds Try.pinned (OpenSpec.ofChange fnExactSmoothWindowWrong)

/- THE SECOND FORM. 'bulk': how many values and letters a reading holds, each counted each time it is reached (what is shared counts as often as it is met; a slice's spare places count too). A statement '..UptoSaid' is the law's where the arguments, and the package variables that the reading takes, are together of bulk at most 1048576: NARROWER than '..Said'. Prove '..Said' where nothing that the law and all that it calls make is longer than what came in: it says more and counts as full. Else prove '..UptoSaid'. A law counts once. -/
mutual
def uptoBulk {H : Type} : DataW H → Nat
  | .lit (.string bytes) => bytes.length + 1
  | .lit _ => 1
  | .nil => 1
  | .ptr d => uptoBulk d + 1
  | .slice elems spare => uptoBulkAll elems + uptoBulkAll spare + 1
  | .agg parts => uptoBulkAll parts + 1
  | .iface _ d => uptoBulk d + 1
  | .map entries => uptoBulkEntries entries + 1
  | .held _ => 1
def uptoBulkAll {H : Type} : List (DataW H) → Nat
  | [] => 0
  | d :: r => uptoBulk d + uptoBulkAll r
def uptoBulkEntries {H : Type} : List (Lit × DataW H) → Nat
  | [] => 0
  | x :: r => uptoBulkEntry x + uptoBulkEntries r
def uptoBulkEntry {H : Type} : Lit × DataW H → Nat
  | (.string bytes, d) => bytes.length + uptoBulk d + 1
  | (_, d) => uptoBulk d + 1
 end
def uptoSmall : (H : Type) → List (DataW H) → Bool := fun _ ds => decide (uptoBulkAll ds ≤ 1048576)
def OpenSpec.upto (s : _root_.Go.ChangeSpec) : _root_.Go.OpenSpec := { _root_.Go.OpenSpec.ofChange s with cond := some uptoSmall }

/-- 'laws.FnExactValidClip', WHERE WHAT IT READS IS OF BULK AT MOST 1048576: true; the input reads as it did. -/
def fnExactValidClipUptoRow : OpenClaim := { program := "ytjfhjmpkiaakhaa", sum := "2fd2055fa99a94f2771c7ea73becc452edcafa246a08b81bc5484d0246c21642", func := "loop.example/g00903/laws.FnExactValidClip", spec := "fnExactValidClip", apart := false, narrowed := true }
def FnExactValidClipUptoSaid : Prop := fnExactValidClipUptoRow.holds Try.pinned (OpenSpec.upto fnExactValidClipSpec)

/-- 'laws.FnExactPutVar', WHERE WHAT IT READS IS OF BULK AT MOST 1048576: true; the input reads as it did. -/
def fnExactPutVarUptoRow : OpenClaim := { program := "ytjfhjmpkiaakhaa", sum := "2fd2055fa99a94f2771c7ea73becc452edcafa246a08b81bc5484d0246c21642", func := "loop.example/g00903/laws.FnExactPutVar", spec := "fnExactPutVar", apart := false, narrowed := true }
def FnExactPutVarUptoSaid : Prop := fnExactPutVarUptoRow.holds Try.pinned (OpenSpec.upto fnExactPutVarSpec)

/-- 'laws.FnExactGetVar', WHERE WHAT IT READS IS OF BULK AT MOST 1048576: true; the input reads as it did. -/
def fnExactGetVarUptoRow : OpenClaim := { program := "ytjfhjmpkiaakhaa", sum := "2fd2055fa99a94f2771c7ea73becc452edcafa246a08b81bc5484d0246c21642", func := "loop.example/g00903/laws.FnExactGetVar", spec := "fnExactGetVar", apart := false, narrowed := true }
def FnExactGetVarUptoSaid : Prop := fnExactGetVarUptoRow.holds Try.pinned (OpenSpec.upto fnExactGetVarSpec)

/-- 'laws.FnExactValidWindow', WHERE WHAT IT READS IS OF BULK AT MOST 1048576: true; the input reads as it did. -/
def fnExactValidWindowUptoRow : OpenClaim := { program := "ytjfhjmpkiaakhaa", sum := "2fd2055fa99a94f2771c7ea73becc452edcafa246a08b81bc5484d0246c21642", func := "loop.example/g00903/laws.FnExactValidWindow", spec := "fnExactValidWindow", apart := false, narrowed := true }
def FnExactValidWindowUptoSaid : Prop := fnExactValidWindowUptoRow.holds Try.pinned (OpenSpec.upto fnExactValidWindowSpec)

/-- 'laws.FnExactLinearWindow', WHERE WHAT IT READS IS OF BULK AT MOST 1048576: true; the input reads as it did. -/
def fnExactLinearWindowUptoRow : OpenClaim := { program := "ytjfhjmpkiaakhaa", sum := "2fd2055fa99a94f2771c7ea73becc452edcafa246a08b81bc5484d0246c21642", func := "loop.example/g00903/laws.FnExactLinearWindow", spec := "fnExactLinearWindow", unfollowed := true, recurses := true, apart := false, narrowed := true }
def FnExactLinearWindowUptoSaid : Prop := fnExactLinearWindowUptoRow.holds Try.pinned (OpenSpec.upto fnExactLinearWindowSpec)

/-- 'laws.FnExactSmoothWindow', WHERE WHAT IT READS IS OF BULK AT MOST 1048576: true; the input reads as it did. -/
def fnExactSmoothWindowUptoRow : OpenClaim := { program := "ytjfhjmpkiaakhaa", sum := "2fd2055fa99a94f2771c7ea73becc452edcafa246a08b81bc5484d0246c21642", func := "loop.example/g00903/laws.FnExactSmoothWindow", spec := "fnExactSmoothWindow", unfollowed := true, recurses := true, apart := false, narrowed := true }
def FnExactSmoothWindowUptoSaid : Prop := fnExactSmoothWindowUptoRow.holds Try.pinned (OpenSpec.upto fnExactSmoothWindowSpec)

end Rows
end Go.Proofs.Ytjfhjmpkiaakhaa
