/-
  DERIVED. GIVEN WITH THE SEED: THE CARDS: each row of YtjjbobaoifflpaaGreatDoorRows.lean that lists a variable, with what it lists TIED to the program's text (the seventh form; the later family's looks); each row that meets fmt, with fmt's text TOLD by the authors' own Lean function (tested against real Go, not proved from fmt's source: count such statements apart). THE CARD IS WHAT COUNTS. Prove the row's statement (the work); the ties are given (YtjjbobaoifflpaaGreatDoorTie.lean); close each card by the builder's one call (the guide's Derived/Test/ToyasCard.lean, 'card_holds'). Laid BY PROGRAM, IN A SANDBOX (cutbox-door.mjs). By AI agents, Wed Nov 11 2026. No macro, syntax, notation, axiom, sorry.
-/
import Derived.Test.YtjjbobaoifflpaaGreatDoorRows
import GoSem.ClaimSeven
namespace Go.Proofs.YtjjbobaoifflpaaGreatDoor
namespace Rows

/-- THE TIED CARD OF 'griffetop.TopRibbonPay'. -/
def topRibbonPayCard : Claim7 := { stood := { row := topRibbonPayRow, standIns := [], harness := (true, "5df3bd88497f9e379dcb9e55ffd9a910355193adf043fb4a31db9727c7ef8741"), looks := true }, kinds := [], alts := [], laidByText := true, laidKinds := [.data, .data, .data], laidTests := true, laidLooks := .later }
def TopRibbonPayCardSaid : Prop := Claim7.holds Tryz.pinned (.plain (OpenSpec.ofChange topRibbonPaySpec)) topRibbonPayCard

/-- THE SECOND FORM's CARD OF 'griffetop.TopRibbonPay'. -/
def topRibbonPayUptoCard : Claim7 := { stood := { row := topRibbonPayUptoRow, standIns := [], harness := (true, "5df3bd88497f9e379dcb9e55ffd9a910355193adf043fb4a31db9727c7ef8741"), looks := true }, kinds := [], alts := [], laidByText := true, laidKinds := [.data, .data, .data], laidTests := true, laidLooks := .later }
def TopRibbonPayUptoCardSaid : Prop := Claim7.holds Tryz.pinned (.plain (OpenSpec.upto topRibbonPaySpec)) topRibbonPayUptoCard
end Rows
end Go.Proofs.YtjjbobaoifflpaaGreatDoor
