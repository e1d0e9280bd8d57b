/-
  DERIVED. GIVEN WITH THE SEED: THE CARDS: each row of YtpglkdijpcgcaaaGreatDoorRows.lean that lists a variable, with what it lists TIED to the program's text (the seventh form; the later family's looks); each row that meets fmt, with fmt's text TOLD by the authors' own Lean function (tested against real Go, not proved from fmt's source: count such statements apart). THE CARD IS WHAT COUNTS. Prove the row's statement (the work); the ties are given (YtpglkdijpcgcaaaGreatDoorTie.lean); close each card by the builder's one call (the guide's Derived/Test/ToyasCard.lean, 'card_holds'). Laid BY PROGRAM, IN A SANDBOX (cutbox-door.mjs). By AI agents, Wed Nov 11 2026. No macro, syntax, notation, axiom, sorry.
-/
import Derived.Test.YtpglkdijpcgcaaaGreatDoorRows
import GoSem.ClaimSeven
namespace Go.Proofs.YtpglkdijpcgcaaaGreatDoor
namespace Rows

/-- THE TIED CARD OF 'griffetop.TopRibbonLoom'. -/
def topRibbonLoomCard : Claim7 := { stood := { row := topRibbonLoomRow, standIns := [], harness := (true, "6e1c222a132cc5e9dddffdaf6905528889c54b976a6bad7cfbd4e08ee6e8f38e"), looks := true }, kinds := [], alts := [], laidByText := true, laidKinds := [.data, .data, .data], laidTests := true, laidLooks := .later }
def TopRibbonLoomCardSaid : Prop := Claim7.holds Tryz.pinned (.plain (OpenSpec.ofChange topRibbonLoomSpec)) topRibbonLoomCard

/-- THE SECOND FORM's CARD OF 'griffetop.TopRibbonLoom'. -/
def topRibbonLoomUptoCard : Claim7 := { stood := { row := topRibbonLoomUptoRow, standIns := [], harness := (true, "6e1c222a132cc5e9dddffdaf6905528889c54b976a6bad7cfbd4e08ee6e8f38e"), looks := true }, kinds := [], alts := [], laidByText := true, laidKinds := [.data, .data, .data], laidTests := true, laidLooks := .later }
def TopRibbonLoomUptoCardSaid : Prop := Claim7.holds Tryz.pinned (.plain (OpenSpec.upto topRibbonLoomSpec)) topRibbonLoomUptoCard
end Rows
end Go.Proofs.YtpglkdijpcgcaaaGreatDoor
