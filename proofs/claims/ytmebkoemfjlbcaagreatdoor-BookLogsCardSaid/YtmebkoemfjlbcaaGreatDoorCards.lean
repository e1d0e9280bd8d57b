/-
  DERIVED. GIVEN WITH THE SEED: THE CARDS: each row of YtmebkoemfjlbcaaGreatDoorRows.lean that lists a variable, with what it lists TIED to the program's text (the seventh form; the later family's looks); each row that meets fmt, with fmt's text TOLD by the authors' own Lean function (tested against real Go, not proved from fmt's source: count such statements apart). THE CARD IS WHAT COUNTS. Prove the row's statement (the work); the ties are given (YtmebkoemfjlbcaaGreatDoorTie.lean); close each card by the builder's one call (the guide's Derived/Test/ToyasCard.lean, 'card_holds'). Laid BY PROGRAM, IN A SANDBOX (cutbox-door.mjs). By AI agents, Wed Nov 11 2026. No macro, syntax, notation, axiom, sorry.
-/
import Derived.Test.YtmebkoemfjlbcaaGreatDoorRows
import GoSem.ClaimSeven
namespace Go.Proofs.YtmebkoemfjlbcaaGreatDoor
namespace Rows

/-- THE TIED CARD OF 'griffelaw13.BookPaints'. -/
def bookPaintsCard : Claim7 := { stood := { row := bookPaintsRow, standIns := [], harness := (true, "1d6ec6c9bcf0fab90c60634bc6f21c300c13e1c1026756e372abe70a447ebb0c"), looks := true }, kinds := [], alts := [], laidByText := true, laidKinds := [.data, .data, .data, .data, .sentinel, .sentinel, .pinned], laidTests := true, laidLooks := .later }
def BookPaintsCardSaid : Prop := Claim7.holds Tryz.pinned (.plain (OpenSpec.ofChange bookPaintsSpec)) bookPaintsCard

/-- THE TIED CARD OF 'griffelaw13.BookWrites'. -/
def bookWritesCard : Claim7 := { stood := { row := bookWritesRow, standIns := [], harness := (true, "1d6ec6c9bcf0fab90c60634bc6f21c300c13e1c1026756e372abe70a447ebb0c"), looks := true }, kinds := [], alts := [], laidByText := true, laidKinds := [.data, .data, .data, .data, .sentinel, .sentinel, .pinned], laidTests := true, laidLooks := .later }
def BookWritesCardSaid : Prop := Claim7.holds Tryz.pinned (.plain (OpenSpec.ofChange bookWritesSpec)) bookWritesCard

/-- THE TIED CARD OF 'griffelaw13.BookReads'. -/
def bookReadsCard : Claim7 := { stood := { row := bookReadsRow, standIns := [], harness := (true, "1d6ec6c9bcf0fab90c60634bc6f21c300c13e1c1026756e372abe70a447ebb0c"), looks := true }, kinds := [], alts := [], laidByText := true, laidKinds := [.data, .data, .data, .data, .sentinel, .sentinel, .pinned], laidTests := true, laidLooks := .later }
def BookReadsCardSaid : Prop := Claim7.holds Tryz.pinned (.plain (OpenSpec.ofChange bookReadsSpec)) bookReadsCard

/-- THE TIED CARD OF 'griffelaw13.BookLogs'. -/
def bookLogsCard : Claim7 := { stood := { row := bookLogsRow, standIns := [], harness := (true, "1d6ec6c9bcf0fab90c60634bc6f21c300c13e1c1026756e372abe70a447ebb0c"), looks := true }, kinds := [], alts := [], laidByText := true, laidKinds := [.data, .data, .data, .data, .sentinel, .sentinel, .pinned], laidTests := true, laidLooks := .later }
def BookLogsCardSaid : Prop := Claim7.holds Tryz.pinned (.plain (OpenSpec.ofChange bookLogsSpec)) bookLogsCard

/-- THE TIED CARD OF 'griffelaw13.BookRepairs'. -/
def bookRepairsCard : Claim7 := { stood := { row := bookRepairsRow, standIns := [], harness := (true, "1d6ec6c9bcf0fab90c60634bc6f21c300c13e1c1026756e372abe70a447ebb0c"), looks := true }, kinds := [], alts := [], laidByText := true, laidKinds := [.data, .data, .data, .data, .sentinel, .sentinel, .pinned], laidTests := true, laidLooks := .later }
def BookRepairsCardSaid : Prop := Claim7.holds Tryz.pinned (.plain (OpenSpec.ofChange bookRepairsSpec)) bookRepairsCard

/-- THE TIED CARD OF 'griffelaw13.BookReplays'. -/
def bookReplaysCard : Claim7 := { stood := { row := bookReplaysRow, standIns := [], harness := (true, "1d6ec6c9bcf0fab90c60634bc6f21c300c13e1c1026756e372abe70a447ebb0c"), looks := true }, kinds := [], alts := [], laidByText := true, laidKinds := [.data, .data, .data, .data, .sentinel, .sentinel, .pinned], laidTests := true, laidLooks := .later }
def BookReplaysCardSaid : Prop := Claim7.holds Tryz.pinned (.plain (OpenSpec.ofChange bookReplaysSpec)) bookReplaysCard

/-- THE TIED CARD OF 'griffelaw13.BookDamage'. -/
def bookDamageCard : Claim7 := { stood := { row := bookDamageRow, standIns := [], harness := (true, "1d6ec6c9bcf0fab90c60634bc6f21c300c13e1c1026756e372abe70a447ebb0c"), looks := true }, kinds := [], alts := [], laidByText := true, laidKinds := [.data, .data, .data, .data, .sentinel, .sentinel, .pinned], laidTests := true, laidLooks := .later }
def BookDamageCardSaid : Prop := Claim7.holds Tryz.pinned (.plain (OpenSpec.ofChange bookDamageSpec)) bookDamageCard

/-- THE TIED CARD OF 'griffelaw13.BookSaid'. -/
def bookSaidCard : Claim7 := { stood := { row := bookSaidRow, standIns := [], harness := (true, "1d6ec6c9bcf0fab90c60634bc6f21c300c13e1c1026756e372abe70a447ebb0c"), looks := true }, kinds := [], alts := [], laidByText := true, laidKinds := [.data, .data, .data, .data, .sentinel, .sentinel, .pinned], laidTests := true, laidLooks := .later }
def BookSaidCardSaid : Prop := Claim7.holds Tryz.pinned (.plain (OpenSpec.ofChange bookSaidSpec)) bookSaidCard

/-- THE TIED CARD OF 'griffelaw13.BookYear'. -/
def bookYearCard : Claim7 := { stood := { row := bookYearRow, standIns := [], harness := (true, "1d6ec6c9bcf0fab90c60634bc6f21c300c13e1c1026756e372abe70a447ebb0c"), looks := true }, kinds := [], alts := [], laidByText := true, laidKinds := [.data, .data, .data, .data, .sentinel, .sentinel, .pinned], laidTests := true, laidLooks := .later }
def BookYearCardSaid : Prop := Claim7.holds Tryz.pinned (.plain (OpenSpec.ofChange bookYearSpec)) bookYearCard

/-- THE TIED CARD OF 'griffelaw13.BookParted'. -/
def bookPartedCard : Claim7 := { stood := { row := bookPartedRow, standIns := [], harness := (true, "1d6ec6c9bcf0fab90c60634bc6f21c300c13e1c1026756e372abe70a447ebb0c"), looks := true }, kinds := [], alts := [], laidByText := true, laidKinds := [.data, .data, .data, .data, .sentinel, .sentinel, .pinned], laidTests := true, laidLooks := .later }
def BookPartedCardSaid : Prop := Claim7.holds Tryz.pinned (.plain (OpenSpec.ofChange bookPartedSpec)) bookPartedCard

/-- THE SECOND FORM's CARD OF 'griffelaw13.BookPaints'. -/
def bookPaintsUptoCard : Claim7 := { stood := { row := bookPaintsUptoRow, standIns := [], harness := (true, "1d6ec6c9bcf0fab90c60634bc6f21c300c13e1c1026756e372abe70a447ebb0c"), looks := true }, kinds := [], alts := [], laidByText := true, laidKinds := [.data, .data, .data, .data, .sentinel, .sentinel, .pinned], laidTests := true, laidLooks := .later }
def BookPaintsUptoCardSaid : Prop := Claim7.holds Tryz.pinned (.plain (OpenSpec.upto bookPaintsSpec)) bookPaintsUptoCard

/-- THE SECOND FORM's CARD OF 'griffelaw13.BookWrites'. -/
def bookWritesUptoCard : Claim7 := { stood := { row := bookWritesUptoRow, standIns := [], harness := (true, "1d6ec6c9bcf0fab90c60634bc6f21c300c13e1c1026756e372abe70a447ebb0c"), looks := true }, kinds := [], alts := [], laidByText := true, laidKinds := [.data, .data, .data, .data, .sentinel, .sentinel, .pinned], laidTests := true, laidLooks := .later }
def BookWritesUptoCardSaid : Prop := Claim7.holds Tryz.pinned (.plain (OpenSpec.upto bookWritesSpec)) bookWritesUptoCard

/-- THE SECOND FORM's CARD OF 'griffelaw13.BookReads'. -/
def bookReadsUptoCard : Claim7 := { stood := { row := bookReadsUptoRow, standIns := [], harness := (true, "1d6ec6c9bcf0fab90c60634bc6f21c300c13e1c1026756e372abe70a447ebb0c"), looks := true }, kinds := [], alts := [], laidByText := true, laidKinds := [.data, .data, .data, .data, .sentinel, .sentinel, .pinned], laidTests := true, laidLooks := .later }
def BookReadsUptoCardSaid : Prop := Claim7.holds Tryz.pinned (.plain (OpenSpec.upto bookReadsSpec)) bookReadsUptoCard

/-- THE SECOND FORM's CARD OF 'griffelaw13.BookLogs'. -/
def bookLogsUptoCard : Claim7 := { stood := { row := bookLogsUptoRow, standIns := [], harness := (true, "1d6ec6c9bcf0fab90c60634bc6f21c300c13e1c1026756e372abe70a447ebb0c"), looks := true }, kinds := [], alts := [], laidByText := true, laidKinds := [.data, .data, .data, .data, .sentinel, .sentinel, .pinned], laidTests := true, laidLooks := .later }
def BookLogsUptoCardSaid : Prop := Claim7.holds Tryz.pinned (.plain (OpenSpec.upto bookLogsSpec)) bookLogsUptoCard

/-- THE SECOND FORM's CARD OF 'griffelaw13.BookRepairs'. -/
def bookRepairsUptoCard : Claim7 := { stood := { row := bookRepairsUptoRow, standIns := [], harness := (true, "1d6ec6c9bcf0fab90c60634bc6f21c300c13e1c1026756e372abe70a447ebb0c"), looks := true }, kinds := [], alts := [], laidByText := true, laidKinds := [.data, .data, .data, .data, .sentinel, .sentinel, .pinned], laidTests := true, laidLooks := .later }
def BookRepairsUptoCardSaid : Prop := Claim7.holds Tryz.pinned (.plain (OpenSpec.upto bookRepairsSpec)) bookRepairsUptoCard

/-- THE SECOND FORM's CARD OF 'griffelaw13.BookReplays'. -/
def bookReplaysUptoCard : Claim7 := { stood := { row := bookReplaysUptoRow, standIns := [], harness := (true, "1d6ec6c9bcf0fab90c60634bc6f21c300c13e1c1026756e372abe70a447ebb0c"), looks := true }, kinds := [], alts := [], laidByText := true, laidKinds := [.data, .data, .data, .data, .sentinel, .sentinel, .pinned], laidTests := true, laidLooks := .later }
def BookReplaysUptoCardSaid : Prop := Claim7.holds Tryz.pinned (.plain (OpenSpec.upto bookReplaysSpec)) bookReplaysUptoCard

/-- THE SECOND FORM's CARD OF 'griffelaw13.BookDamage'. -/
def bookDamageUptoCard : Claim7 := { stood := { row := bookDamageUptoRow, standIns := [], harness := (true, "1d6ec6c9bcf0fab90c60634bc6f21c300c13e1c1026756e372abe70a447ebb0c"), looks := true }, kinds := [], alts := [], laidByText := true, laidKinds := [.data, .data, .data, .data, .sentinel, .sentinel, .pinned], laidTests := true, laidLooks := .later }
def BookDamageUptoCardSaid : Prop := Claim7.holds Tryz.pinned (.plain (OpenSpec.upto bookDamageSpec)) bookDamageUptoCard

/-- THE SECOND FORM's CARD OF 'griffelaw13.BookSaid'. -/
def bookSaidUptoCard : Claim7 := { stood := { row := bookSaidUptoRow, standIns := [], harness := (true, "1d6ec6c9bcf0fab90c60634bc6f21c300c13e1c1026756e372abe70a447ebb0c"), looks := true }, kinds := [], alts := [], laidByText := true, laidKinds := [.data, .data, .data, .data, .sentinel, .sentinel, .pinned], laidTests := true, laidLooks := .later }
def BookSaidUptoCardSaid : Prop := Claim7.holds Tryz.pinned (.plain (OpenSpec.upto bookSaidSpec)) bookSaidUptoCard

/-- THE SECOND FORM's CARD OF 'griffelaw13.BookYear'. -/
def bookYearUptoCard : Claim7 := { stood := { row := bookYearUptoRow, standIns := [], harness := (true, "1d6ec6c9bcf0fab90c60634bc6f21c300c13e1c1026756e372abe70a447ebb0c"), looks := true }, kinds := [], alts := [], laidByText := true, laidKinds := [.data, .data, .data, .data, .sentinel, .sentinel, .pinned], laidTests := true, laidLooks := .later }
def BookYearUptoCardSaid : Prop := Claim7.holds Tryz.pinned (.plain (OpenSpec.upto bookYearSpec)) bookYearUptoCard

/-- THE SECOND FORM's CARD OF 'griffelaw13.BookParted'. -/
def bookPartedUptoCard : Claim7 := { stood := { row := bookPartedUptoRow, standIns := [], harness := (true, "1d6ec6c9bcf0fab90c60634bc6f21c300c13e1c1026756e372abe70a447ebb0c"), looks := true }, kinds := [], alts := [], laidByText := true, laidKinds := [.data, .data, .data, .data, .sentinel, .sentinel, .pinned], laidTests := true, laidLooks := .later }
def BookPartedUptoCardSaid : Prop := Claim7.holds Tryz.pinned (.plain (OpenSpec.upto bookPartedSpec)) bookPartedUptoCard
end Rows
end Go.Proofs.YtmebkoemfjlbcaaGreatDoor
