/-
  DERIVED. GIVEN WITH THE SEED: THE CARDS: each row of YtepehlhgkipcoaaGreatDoorRows.lean that lists a variable, with what it lists TIED to the program's text (the seventh form; the later family's looks); each row that meets fmt, with fmt's text TOLD by the authors' own Lean function (tested against real Go, not proved from fmt's source: count such statements apart). THE CARD IS WHAT COUNTS. Prove the row's statement (the work); the ties are given (YtepehlhgkipcoaaGreatDoorTie.lean); close each card by the builder's one call (the guide's Derived/Test/ToyasCard.lean, 'card_holds'). Laid BY PROGRAM, IN A SANDBOX (cutbox-door.mjs). By AI agents, Wed Nov 11 2026. No macro, syntax, notation, axiom, sorry.
-/
import Derived.Test.YtepehlhgkipcoaaGreatDoorRows
import GoSem.ClaimSeven
namespace Go.Proofs.YtepehlhgkipcoaaGreatDoor
namespace Rows

/-- THE TIED CARD OF 'griffetop.TopRibbonFault'. -/
def topRibbonFaultCard : Claim7 := { stood := { row := topRibbonFaultRow, standIns := [], harness := (true, "a497a466dcdc42fa4913be027f4b785fda303e7ec32b3976c671cffa8dfb911a"), looks := true }, kinds := [], alts := [], laidByText := true, laidKinds := [.data, .data, .data], laidTests := true, laidLooks := .later }
def TopRibbonFaultCardSaid : Prop := Claim7.holds Tryz.pinned (.plain (OpenSpec.ofChange topRibbonFaultSpec)) topRibbonFaultCard

/-- THE SECOND FORM's CARD OF 'griffetop.TopRibbonFault'. -/
def topRibbonFaultUptoCard : Claim7 := { stood := { row := topRibbonFaultUptoRow, standIns := [], harness := (true, "a497a466dcdc42fa4913be027f4b785fda303e7ec32b3976c671cffa8dfb911a"), looks := true }, kinds := [], alts := [], laidByText := true, laidKinds := [.data, .data, .data], laidTests := true, laidLooks := .later }
def TopRibbonFaultUptoCardSaid : Prop := Claim7.holds Tryz.pinned (.plain (OpenSpec.upto topRibbonFaultSpec)) topRibbonFaultUptoCard
end Rows
end Go.Proofs.YtepehlhgkipcoaaGreatDoor
