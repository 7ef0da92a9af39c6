/-
  DERIVED. GIVEN WITH THE SEED: THE CARDS: each row of YtodbjnngkonklaaGreatDoorRows.lean that lists a variable, with what it lists TIED to the program's text (the seventh form; the later family's looks); each row that meets fmt, with fmt's text TOLD by the authors' own Lean function (tested against real Go, not proved from fmt's source: count such statements apart). THE CARD IS WHAT COUNTS. Prove the row's statement (the work); the ties are given (YtodbjnngkonklaaGreatDoorTie.lean); close each card by the builder's one call (the guide's Derived/Test/ToyasCard.lean, 'card_holds'). Laid BY PROGRAM, IN A SANDBOX (cutbox-door.mjs). By AI agents, Wed Nov 11 2026. No macro, syntax, notation, axiom, sorry.
-/
import Derived.Test.YtodbjnngkonklaaGreatDoorRows
import GoSem.ClaimSeven
namespace Go.Proofs.YtodbjnngkonklaaGreatDoor
namespace Rows

/-- THE TIED CARD OF 'laws.FnExactItemsText'. -/
def fnExactItemsTextCard : Claim7 := { stood := { row := fnExactItemsTextRow, standIns := [], harness := (true, "079892312fc4c3e745eb90584815e671ef27ff6efde6b81c05139ebf3c4d02ef"), looks := false }, kinds := [], alts := [], laidByText := true, laidKinds := [.data, .data, .data], laidTests := true, laidLooks := .later }
def FnExactItemsTextCardSaid : Prop := Claim7.holds Tryz.pinned (.plain (OpenSpec.ofChange fnExactItemsTextSpec)) fnExactItemsTextCard

/-- THE SECOND FORM's CARD OF 'laws.FnExactItemsText'. -/
def fnExactItemsTextUptoCard : Claim7 := { stood := { row := fnExactItemsTextUptoRow, standIns := [], harness := (true, "079892312fc4c3e745eb90584815e671ef27ff6efde6b81c05139ebf3c4d02ef"), looks := false }, kinds := [], alts := [], laidByText := true, laidKinds := [.data, .data, .data], laidTests := true, laidLooks := .later }
def FnExactItemsTextUptoCardSaid : Prop := Claim7.holds Tryz.pinned (.plain (OpenSpec.upto fnExactItemsTextSpec)) fnExactItemsTextUptoCard
end Rows
end Go.Proofs.YtodbjnngkonklaaGreatDoor
