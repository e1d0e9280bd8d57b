/-
  DERIVED. GIVEN WITH THE SEED: THE CARDS: each row of YtkfdjkkbnfohjaaDoorRows.lean that lists a variable, with what it lists TIED to the program's text (the seventh form; the later family's looks); each row that meets fmt, with fmt's text TOLD by the authors' own Lean function (tested against real Go, not proved from fmt's source: count such statements apart). THE CARD IS WHAT COUNTS. Prove the row's statement (the work); the ties are given (YtkfdjkkbnfohjaaDoorTie.lean); close each card by the builder's one call (the guide's Derived/Test/ToyasCard.lean, 'card_holds'). Laid BY PROGRAM, IN A SANDBOX (cutbox-door.mjs). By AI agents, Wed Nov 11 2026. No macro, syntax, notation, axiom, sorry.
-/
import Derived.Test.YtkfdjkkbnfohjaaDoorRows
import GoSem.ClaimSeven
namespace Go.Proofs.YtkfdjkkbnfohjaaDoor
namespace Rows

/-- THE TIED CARD OF 'griffetop.TopYarnShared'. -/
def topYarnSharedCard : Claim7 := { stood := { row := topYarnSharedRow, standIns := [], harness := (true, "1fd20d169d3bff944b616be95333355323a5c60913cf7d00e56042aa8fb84242"), looks := false }, kinds := [], alts := [], laidByText := true, laidKinds := [.data, .data], laidTests := true, laidLooks := .later }
def TopYarnSharedCardSaid : Prop := Claim7.holds Tryd.pinned (.plain (OpenSpec.ofChange topYarnSharedSpec)) topYarnSharedCard

/-- THE TIED CARD OF 'griffetop.TopFewHooks'. -/
def topFewHooksCard : Claim7 := { stood := { row := topFewHooksRow, standIns := [], harness := (true, "1fd20d169d3bff944b616be95333355323a5c60913cf7d00e56042aa8fb84242"), looks := false }, kinds := [], alts := [], laidByText := true, laidKinds := [.data, .pinned], laidTests := true, laidLooks := .later }
def TopFewHooksCardSaid : Prop := Claim7.holds Tryd.pinned (.plain (OpenSpec.ofChange topFewHooksSpec)) topFewHooksCard

/-- THE TIED CARD OF 'griffetop.TopWrongRead'. -/
def topWrongReadCard : Claim7 := { stood := { row := topWrongReadRow, standIns := [], harness := (true, "1fd20d169d3bff944b616be95333355323a5c60913cf7d00e56042aa8fb84242"), looks := false }, kinds := [], alts := [], laidByText := true, laidKinds := [.data, .pinned], laidTests := true, laidLooks := .later }
def TopWrongReadCardSaid : Prop := Claim7.holds Tryd.pinned (.plain (OpenSpec.ofChange topWrongReadSpec)) topWrongReadCard

/-- THE TIED CARD OF 'griffetop.TopFoundPoint'. -/
def topFoundPointCard : Claim7 := { stood := { row := topFoundPointRow, standIns := [], harness := (true, "1fd20d169d3bff944b616be95333355323a5c60913cf7d00e56042aa8fb84242"), looks := false }, kinds := [], alts := [], laidByText := true, laidKinds := [.data, .pinned], laidTests := true, laidLooks := .later }
def TopFoundPointCardSaid : Prop := Claim7.holds Tryd.pinned (.plain (OpenSpec.ofChange topFoundPointSpec)) topFoundPointCard

/-- THE SECOND FORM's CARD OF 'griffetop.TopYarnShared'. -/
def topYarnSharedUptoCard : Claim7 := { stood := { row := topYarnSharedUptoRow, standIns := [], harness := (true, "1fd20d169d3bff944b616be95333355323a5c60913cf7d00e56042aa8fb84242"), looks := false }, kinds := [], alts := [], laidByText := true, laidKinds := [.data, .data], laidTests := true, laidLooks := .later }
def TopYarnSharedUptoCardSaid : Prop := Claim7.holds Tryd.pinned (.plain (OpenSpec.upto topYarnSharedSpec)) topYarnSharedUptoCard

/-- THE SECOND FORM's CARD OF 'griffetop.TopFewHooks'. -/
def topFewHooksUptoCard : Claim7 := { stood := { row := topFewHooksUptoRow, standIns := [], harness := (true, "1fd20d169d3bff944b616be95333355323a5c60913cf7d00e56042aa8fb84242"), looks := false }, kinds := [], alts := [], laidByText := true, laidKinds := [.data, .pinned], laidTests := true, laidLooks := .later }
def TopFewHooksUptoCardSaid : Prop := Claim7.holds Tryd.pinned (.plain (OpenSpec.upto topFewHooksSpec)) topFewHooksUptoCard

/-- THE SECOND FORM's CARD OF 'griffetop.TopWrongRead'. -/
def topWrongReadUptoCard : Claim7 := { stood := { row := topWrongReadUptoRow, standIns := [], harness := (true, "1fd20d169d3bff944b616be95333355323a5c60913cf7d00e56042aa8fb84242"), looks := false }, kinds := [], alts := [], laidByText := true, laidKinds := [.data, .pinned], laidTests := true, laidLooks := .later }
def TopWrongReadUptoCardSaid : Prop := Claim7.holds Tryd.pinned (.plain (OpenSpec.upto topWrongReadSpec)) topWrongReadUptoCard

/-- THE SECOND FORM's CARD OF 'griffetop.TopFoundPoint'. -/
def topFoundPointUptoCard : Claim7 := { stood := { row := topFoundPointUptoRow, standIns := [], harness := (true, "1fd20d169d3bff944b616be95333355323a5c60913cf7d00e56042aa8fb84242"), looks := false }, kinds := [], alts := [], laidByText := true, laidKinds := [.data, .pinned], laidTests := true, laidLooks := .later }
def TopFoundPointUptoCardSaid : Prop := Claim7.holds Tryd.pinned (.plain (OpenSpec.upto topFoundPointSpec)) topFoundPointUptoCard
end Rows
end Go.Proofs.YtkfdjkkbnfohjaaDoor
