/-
  DERIVED. GIVEN WITH THE SEED: THE CARDS: each row of YtbelgnbjkciafaaGreatDoorRows.lean that lists a variable, with what it lists TIED to the program's text (the seventh form; the later family's looks); each row that meets fmt, with fmt's text TOLD by the authors' own Lean function (tested against real Go, not proved from fmt's source: count such statements apart). THE CARD IS WHAT COUNTS. Prove the row's statement (the work); the ties are given (YtbelgnbjkciafaaGreatDoorTie.lean); close each card by the builder's one call (the guide's Derived/Test/ToyasCard.lean, 'card_holds'). Laid BY PROGRAM, IN A SANDBOX (cutbox-door.mjs). By AI agents, Wed Nov 11 2026. No macro, syntax, notation, axiom, sorry.
-/
import Derived.Test.YtbelgnbjkciafaaGreatDoorRows
import GoSem.ClaimSeven
namespace Go.Proofs.YtbelgnbjkciafaaGreatDoor
namespace Rows

/-- THE TIED CARD OF 'griffetop.TopRibbonYards'. -/
def topRibbonYardsCard : Claim7 := { stood := { row := topRibbonYardsRow, standIns := [], harness := (true, "8e68eb7c063ed9682cf38eba89b2a8a831f4aaf54fc96e40ecec4b27a3808ecf"), looks := true }, kinds := [], alts := [], laidByText := true, laidKinds := [.data, .data, .data], laidTests := true, laidLooks := .later }
def TopRibbonYardsCardSaid : Prop := Claim7.holds Tryz.pinned (.plain (OpenSpec.ofChange topRibbonYardsSpec)) topRibbonYardsCard

/-- THE SECOND FORM's CARD OF 'griffetop.TopRibbonYards'. -/
def topRibbonYardsUptoCard : Claim7 := { stood := { row := topRibbonYardsUptoRow, standIns := [], harness := (true, "8e68eb7c063ed9682cf38eba89b2a8a831f4aaf54fc96e40ecec4b27a3808ecf"), looks := true }, kinds := [], alts := [], laidByText := true, laidKinds := [.data, .data, .data], laidTests := true, laidLooks := .later }
def TopRibbonYardsUptoCardSaid : Prop := Claim7.holds Tryz.pinned (.plain (OpenSpec.upto topRibbonYardsSpec)) topRibbonYardsUptoCard
end Rows
end Go.Proofs.YtbelgnbjkciafaaGreatDoor
