/-
  DERIVED. GIVEN WITH THE SEED: THE CARDS: each row of YticdblhibbaojaaDoorRows.lean that lists a variable, with what it lists TIED to the program's text (the seventh form; the later family's looks); each row that meets fmt, with fmt's text TOLD by the authors' own Lean function (tested against real Go, not proved from fmt's source: count such statements apart). THE CARD IS WHAT COUNTS. Prove the row's statement (the work); the ties are given (YticdblhibbaojaaDoorTie.lean); close each card by the builder's one call (the guide's Derived/Test/ToyasCard.lean, 'card_holds'). Laid BY PROGRAM, IN A SANDBOX (cutbox-door.mjs). By AI agents, Wed Nov 11 2026. No macro, syntax, notation, axiom, sorry.
-/
import Derived.Test.YticdblhibbaojaaDoorRows
import GoSem.ClaimSeven
namespace Go.Proofs.YticdblhibbaojaaDoor
namespace Rows

/-- THE TIED CARD OF 'griffetop.TopYarnShared'. -/
def topYarnSharedCard : Claim7 := { stood := { row := topYarnSharedRow, standIns := [], harness := (true, "13d2a42d44f18981348dc39b617eaf67f95712082b9eab91c0eb4e57835c7b35"), looks := false }, kinds := [], alts := [], laidByText := true, laidKinds := [.data, .data], laidTests := true, laidLooks := .later }
def TopYarnSharedCardSaid : Prop := Claim7.holds Tryd.pinned (.plain (OpenSpec.ofChange topYarnSharedSpec)) topYarnSharedCard

/-- THE SECOND FORM's CARD OF 'griffetop.TopYarnShared'. -/
def topYarnSharedUptoCard : Claim7 := { stood := { row := topYarnSharedUptoRow, standIns := [], harness := (true, "13d2a42d44f18981348dc39b617eaf67f95712082b9eab91c0eb4e57835c7b35"), looks := false }, kinds := [], alts := [], laidByText := true, laidKinds := [.data, .data], laidTests := true, laidLooks := .later }
def TopYarnSharedUptoCardSaid : Prop := Claim7.holds Tryd.pinned (.plain (OpenSpec.upto topYarnSharedSpec)) topYarnSharedUptoCard
end Rows
end Go.Proofs.YticdblhibbaojaaDoor
