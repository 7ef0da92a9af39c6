/-
  DERIVED. GIVEN WITH THE SEED: THE CARDS: each row of YtbpaeonfebmomaaDoorRows.lean that lists a variable, with what it lists TIED to the program's text (the seventh form; the later family's looks); each row that meets fmt, with fmt's text TOLD by the authors' own Lean function (tested against real Go, not proved from fmt's source: count such statements apart). THE CARD IS WHAT COUNTS. Prove the row's statement (the work); the ties are given (YtbpaeonfebmomaaDoorTie.lean); close each card by the builder's one call (the guide's Derived/Test/ToyasCard.lean, 'card_holds'). Laid BY PROGRAM, IN A SANDBOX (cutbox-door.mjs). By AI agents, Wed Nov 11 2026. No macro, syntax, notation, axiom, sorry.
-/
import Derived.Test.YtbpaeonfebmomaaDoorRows
import GoSem.ClaimSeven
namespace Go.Proofs.YtbpaeonfebmomaaDoor
namespace Rows

/-- THE TIED CARD OF 'laws.FnExactGatesText'. -/
def fnExactGatesTextCard : Claim7 := { stood := { row := fnExactGatesTextRow, standIns := [], harness := (true, "f5b8e1eb3d66dd304c19bed711d9dea1ebfe946adabebacbfafb8f3dcd7a5342"), looks := false }, kinds := [], alts := [], laidByText := true, laidKinds := [.data, .data, .data], laidTests := true, laidLooks := .later }
def FnExactGatesTextCardSaid : Prop := Claim7.holds Tryd.pinned (.plain (OpenSpec.ofChange fnExactGatesTextSpec)) fnExactGatesTextCard

/-- THE SECOND FORM's CARD OF 'laws.FnExactGatesText'. -/
def fnExactGatesTextUptoCard : Claim7 := { stood := { row := fnExactGatesTextUptoRow, standIns := [], harness := (true, "f5b8e1eb3d66dd304c19bed711d9dea1ebfe946adabebacbfafb8f3dcd7a5342"), looks := false }, kinds := [], alts := [], laidByText := true, laidKinds := [.data, .data, .data], laidTests := true, laidLooks := .later }
def FnExactGatesTextUptoCardSaid : Prop := Claim7.holds Tryd.pinned (.plain (OpenSpec.upto fnExactGatesTextSpec)) fnExactGatesTextUptoCard
end Rows
end Go.Proofs.YtbpaeonfebmomaaDoor
