/-
  DERIVED. GIVEN WITH THE SEED: THE CARDS: each row of YtkfdjkkbnfohjaaGreatDoorRows.lean that lists a variable, with what it lists TIED to the program's text (the seventh form; the later family's looks); each row that meets fmt, with fmt's text TOLD by the authors' own Lean function (tested against real Go, not proved from fmt's source: count such statements apart). THE CARD IS WHAT COUNTS. Prove the row's statement (the work); the ties are given (YtkfdjkkbnfohjaaGreatDoorTie.lean); close each card by the builder's one call (the guide's Derived/Test/ToyasCard.lean, 'card_holds'). Laid BY PROGRAM, IN A SANDBOX (cutbox-door.mjs). By AI agents, Wed Nov 11 2026. No macro, syntax, notation, axiom, sorry.
-/
import Derived.Test.YtkfdjkkbnfohjaaGreatDoorRows
import GoSem.ClaimSeven
namespace Go.Proofs.YtkfdjkkbnfohjaaGreatDoor
namespace Rows

/-- THE TIED CARD OF 'griffetop.TopCourseCloth'. -/
def topCourseClothCard : Claim7 := { stood := { row := topCourseClothRow, standIns := [], harness := (true, "2b910845b2e9f569c5e7e6f5705ec9591531506281491ff005f703f69064db9a"), looks := false }, kinds := [], alts := [], laidByText := true, laidKinds := [.data, .pinned], laidTests := true, laidLooks := .later }
def TopCourseClothCardSaid : Prop := Claim7.holds Tryz.pinned (.plain (OpenSpec.ofChange topCourseClothSpec)) topCourseClothCard

/-- THE SECOND FORM's CARD OF 'griffetop.TopCourseCloth'. -/
def topCourseClothUptoCard : Claim7 := { stood := { row := topCourseClothUptoRow, standIns := [], harness := (true, "2b910845b2e9f569c5e7e6f5705ec9591531506281491ff005f703f69064db9a"), looks := false }, kinds := [], alts := [], laidByText := true, laidKinds := [.data, .pinned], laidTests := true, laidLooks := .later }
def TopCourseClothUptoCardSaid : Prop := Claim7.holds Tryz.pinned (.plain (OpenSpec.upto topCourseClothSpec)) topCourseClothUptoCard
end Rows
end Go.Proofs.YtkfdjkkbnfohjaaGreatDoor
