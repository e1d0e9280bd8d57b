/- The types of this seat, as data: structures, how they lie in memory, their parts. Printed by gtypes.py. -/
import Derived.Test.YticdblhibbaojaaDoorMe
import Derived.Test.YticdblhibbaojaaDoorProg
namespace Go.Proofs.YticdblhibbaojaaDoor
open Go.RowKit
theorem SubS.of {α β γ : Type} [GoT β] [GoT γ] {to : α → β} {off : Nat} {f : α → γ} {st : α → γ → α} {f' : β → γ} {s' : β → γ → β} (h : SubS off f' s') (h1 : ∀ x, f' (to x) = f x) (h2 : ∀ x y, to (st x y) = s' (to x) y) : @SubS α γ (GoT.struct α to) _ off f st := by
 refine ⟨⟨h.1.1, fun m w x cs hr => ?_⟩, fun m w x y cs cy hr hy => ?_⟩
 ·rw [← h1]; exact h.1.2 m w (to x) cs hr
 ·show GoT.rep m w (to (st x y)) _; rw [h2]; exact h.2 m w (to x) y cs cy hr hy
structure Span where
 Low : Int
 High : Int
 deriving DecidableEq, Inhabited
instance : GoT Span := GoT.struct Span (β := Int × Int) (fun x => (x.Low, x.High))
theorem part_Span_0 : SubS (α := Span) 0 Span.Low (fun x y => { x with Low := y }) := SubS.of SubS.fst (fun _ => rfl) (fun _ _ => rfl)
theorem at_28_0 (a : Addr) (w : World) : (Instr.fieldAt 28 (.pointer (some a)) 0).run Tryd.prog w = .ok (.pointer (some (a.add 0))) w := by simp [Instr.fieldAt, run_underlying Tryd.underlying28, Instr.sureAddr, fieldPlace, Result.andThen]
theorem part_Span_1 : SubS (α := Span) 1 Span.High (fun x y => { x with High := y }) := SubS.of (SubS.comp SubS.snd SubS.id_ rfl) (fun _ => rfl) (fun _ _ => rfl)
theorem at_28_1 (a : Addr) (w : World) : (Instr.fieldAt 28 (.pointer (some a)) 1).run Tryd.prog w = .ok (.pointer (some (a.add 1))) w := by simp [Instr.fieldAt, run_underlying Tryd.underlying28, Instr.sureAddr, fieldPlace, Result.andThen]
theorem of_28_1 (cs : Array Value) (w : World) : (Instr.field 28 (.agg cs) 1).run Tryd.prog w = (part 3 cs 1).run Tryd.prog w := by simp [Instr.field, run_underlying Tryd.underlying28, asAgg, Result.andThen]
structure ShadeLot where
 Colour : Int
 Shade : Span
 Grams : Int
 deriving DecidableEq, Inhabited
instance : GoT ShadeLot := GoT.struct ShadeLot (β := Int × Span × Int) (fun x => (x.Colour, x.Shade, x.Grams))
theorem part_ShadeLot_0 : SubS (α := ShadeLot) 0 ShadeLot.Colour (fun x y => { x with Colour := y }) := SubS.of SubS.fst (fun _ => rfl) (fun _ _ => rfl)
theorem at_31_0 (a : Addr) (w : World) : (Instr.fieldAt 31 (.pointer (some a)) 0).run Tryd.prog w = .ok (.pointer (some (a.add 0))) w := by simp [Instr.fieldAt, run_underlying Tryd.underlying31, Instr.sureAddr, fieldPlace, Result.andThen]
theorem part_ShadeLot_1 : SubS (α := ShadeLot) 1 ShadeLot.Shade (fun x y => { x with Shade := y }) := SubS.of (SubS.comp SubS.snd SubS.fst rfl) (fun _ => rfl) (fun _ _ => rfl)
theorem at_31_1 (a : Addr) (w : World) : (Instr.fieldAt 31 (.pointer (some a)) 1).run Tryd.prog w = .ok (.pointer (some (a.add 1))) w := by simp [Instr.fieldAt, run_underlying Tryd.underlying31, Instr.sureAddr, fieldPlace, Result.andThen]
theorem part_ShadeLot_2 : SubS (α := ShadeLot) 3 ShadeLot.Grams (fun x y => { x with Grams := y }) := SubS.of (SubS.comp SubS.snd (SubS.comp SubS.snd SubS.id_ rfl) rfl) (fun _ => rfl) (fun _ _ => rfl)
theorem at_31_2 (a : Addr) (w : World) : (Instr.fieldAt 31 (.pointer (some a)) 2).run Tryd.prog w = .ok (.pointer (some (a.add 3))) w := by simp [Instr.fieldAt, run_underlying Tryd.underlying31, Instr.sureAddr, fieldPlace, Result.andThen]
structure ShadeNeed where
 Colour : Int
 Grams : Int
 deriving DecidableEq, Inhabited
instance : GoT ShadeNeed := GoT.struct ShadeNeed (β := Int × Int) (fun x => (x.Colour, x.Grams))
theorem part_ShadeNeed_0 : SubS (α := ShadeNeed) 0 ShadeNeed.Colour (fun x y => { x with Colour := y }) := SubS.of SubS.fst (fun _ => rfl) (fun _ _ => rfl)
theorem at_33_0 (a : Addr) (w : World) : (Instr.fieldAt 33 (.pointer (some a)) 0).run Tryd.prog w = .ok (.pointer (some (a.add 0))) w := by simp [Instr.fieldAt, run_underlying Tryd.underlying33, Instr.sureAddr, fieldPlace, Result.andThen]
theorem part_ShadeNeed_1 : SubS (α := ShadeNeed) 1 ShadeNeed.Grams (fun x y => { x with Grams := y }) := SubS.of (SubS.comp SubS.snd SubS.id_ rfl) (fun _ => rfl) (fun _ _ => rfl)
theorem at_33_1 (a : Addr) (w : World) : (Instr.fieldAt 33 (.pointer (some a)) 1).run Tryd.prog w = .ok (.pointer (some (a.add 1))) w := by simp [Instr.fieldAt, run_underlying Tryd.underlying33, Instr.sureAddr, fieldPlace, Result.andThen]
structure ShadeEntry where
 Kind : Int
 Grams : Int
 deriving DecidableEq, Inhabited
instance : GoT ShadeEntry := GoT.struct ShadeEntry (β := Int × Int) (fun x => (x.Kind, x.Grams))
theorem part_ShadeEntry_0 : SubS (α := ShadeEntry) 0 ShadeEntry.Kind (fun x y => { x with Kind := y }) := SubS.of SubS.fst (fun _ => rfl) (fun _ _ => rfl)
theorem at_45_0 (a : Addr) (w : World) : (Instr.fieldAt 45 (.pointer (some a)) 0).run Tryd.prog w = .ok (.pointer (some (a.add 0))) w := by simp [Instr.fieldAt, run_underlying Tryd.underlying45, Instr.sureAddr, fieldPlace, Result.andThen]
theorem part_ShadeEntry_1 : SubS (α := ShadeEntry) 1 ShadeEntry.Grams (fun x y => { x with Grams := y }) := SubS.of (SubS.comp SubS.snd SubS.id_ rfl) (fun _ => rfl) (fun _ _ => rfl)
theorem at_45_1 (a : Addr) (w : World) : (Instr.fieldAt 45 (.pointer (some a)) 1).run Tryd.prog w = .ok (.pointer (some (a.add 1))) w := by simp [Instr.fieldAt, run_underlying Tryd.underlying45, Instr.sureAddr, fieldPlace, Result.andThen]
structure ShadeStore where
 lots : List ShadeLot
 tolerance : Int
 deriving DecidableEq, Inhabited
instance : GoT ShadeStore := GoT.struct ShadeStore (β := (List ShadeLot) × Int) (fun x => (x.lots, x.tolerance))
theorem part_ShadeStore_0 : SubS (α := ShadeStore) 0 ShadeStore.lots (fun x y => { x with lots := y }) := SubS.of SubS.fst (fun _ => rfl) (fun _ _ => rfl)
theorem at_48_0 (a : Addr) (w : World) : (Instr.fieldAt 48 (.pointer (some a)) 0).run Tryd.prog w = .ok (.pointer (some (a.add 0))) w := by simp [Instr.fieldAt, run_underlying Tryd.underlying48, Instr.sureAddr, fieldPlace, Result.andThen]
theorem part_ShadeStore_1 : SubS (α := ShadeStore) 1 ShadeStore.tolerance (fun x y => { x with tolerance := y }) := SubS.of (SubS.comp SubS.snd SubS.id_ rfl) (fun _ => rfl) (fun _ _ => rfl)
theorem at_48_1 (a : Addr) (w : World) : (Instr.fieldAt 48 (.pointer (some a)) 1).run Tryd.prog w = .ok (.pointer (some (a.add 1))) w := by simp [Instr.fieldAt, run_underlying Tryd.underlying48, Instr.sureAddr, fieldPlace, Result.andThen]
structure PayRate where
 From : Int
 Rate : Int
 deriving DecidableEq, Inhabited
instance : GoT PayRate := GoT.struct PayRate (β := Int × Int) (fun x => (x.From, x.Rate))
theorem part_PayRate_0 : SubS (α := PayRate) 0 PayRate.From (fun x y => { x with From := y }) := SubS.of SubS.fst (fun _ => rfl) (fun _ _ => rfl)
theorem at_55_0 (a : Addr) (w : World) : (Instr.fieldAt 55 (.pointer (some a)) 0).run Tryd.prog w = .ok (.pointer (some (a.add 0))) w := by simp [Instr.fieldAt, run_underlying Tryd.underlying55, Instr.sureAddr, fieldPlace, Result.andThen]
theorem part_PayRate_1 : SubS (α := PayRate) 1 PayRate.Rate (fun x y => { x with Rate := y }) := SubS.of (SubS.comp SubS.snd SubS.id_ rfl) (fun _ => rfl) (fun _ _ => rfl)
theorem at_55_1 (a : Addr) (w : World) : (Instr.fieldAt 55 (.pointer (some a)) 1).run Tryd.prog w = .ok (.pointer (some (a.add 1))) w := by simp [Instr.fieldAt, run_underlying Tryd.underlying55, Instr.sureAddr, fieldPlace, Result.andThen]
structure PayList where
 Rates : List PayRate
 Extras : List Int
 Fine : Int
 Cap : Int
 deriving DecidableEq, Inhabited
instance : GoT PayList := GoT.struct PayList (β := (List PayRate) × (List Int) × Int × Int) (fun x => (x.Rates, x.Extras, x.Fine, x.Cap))
theorem part_PayList_0 : SubS (α := PayList) 0 PayList.Rates (fun x y => { x with Rates := y }) := SubS.of SubS.fst (fun _ => rfl) (fun _ _ => rfl)
theorem at_58_0 (a : Addr) (w : World) : (Instr.fieldAt 58 (.pointer (some a)) 0).run Tryd.prog w = .ok (.pointer (some (a.add 0))) w := by simp [Instr.fieldAt, run_underlying Tryd.underlying58, Instr.sureAddr, fieldPlace, Result.andThen]
theorem part_PayList_1 : SubS (α := PayList) 1 PayList.Extras (fun x y => { x with Extras := y }) := SubS.of (SubS.comp SubS.snd SubS.fst rfl) (fun _ => rfl) (fun _ _ => rfl)
theorem at_58_1 (a : Addr) (w : World) : (Instr.fieldAt 58 (.pointer (some a)) 1).run Tryd.prog w = .ok (.pointer (some (a.add 1))) w := by simp [Instr.fieldAt, run_underlying Tryd.underlying58, Instr.sureAddr, fieldPlace, Result.andThen]
theorem part_PayList_2 : SubS (α := PayList) 2 PayList.Fine (fun x y => { x with Fine := y }) := SubS.of (SubS.comp SubS.snd (SubS.comp SubS.snd SubS.fst rfl) rfl) (fun _ => rfl) (fun _ _ => rfl)
theorem at_58_2 (a : Addr) (w : World) : (Instr.fieldAt 58 (.pointer (some a)) 2).run Tryd.prog w = .ok (.pointer (some (a.add 2))) w := by simp [Instr.fieldAt, run_underlying Tryd.underlying58, Instr.sureAddr, fieldPlace, Result.andThen]
theorem part_PayList_3 : SubS (α := PayList) 3 PayList.Cap (fun x y => { x with Cap := y }) := SubS.of (SubS.comp SubS.snd (SubS.comp SubS.snd (SubS.comp SubS.snd SubS.id_ rfl) rfl) rfl) (fun _ => rfl) (fun _ _ => rfl)
theorem at_58_3 (a : Addr) (w : World) : (Instr.fieldAt 58 (.pointer (some a)) 3).run Tryd.prog w = .ok (.pointer (some (a.add 3))) w := by simp [Instr.fieldAt, run_underlying Tryd.underlying58, Instr.sureAddr, fieldPlace, Result.andThen]
structure PayPiece where
 Weaver : Int
 Dense : Int
 Picks : Int
 Extras : List Int
 Faults : Int
 deriving DecidableEq, Inhabited
instance : GoT PayPiece := GoT.struct PayPiece (β := Int × Int × Int × (List Int) × Int) (fun x => (x.Weaver, x.Dense, x.Picks, x.Extras, x.Faults))
theorem part_PayPiece_0 : SubS (α := PayPiece) 0 PayPiece.Weaver (fun x y => { x with Weaver := y }) := SubS.of SubS.fst (fun _ => rfl) (fun _ _ => rfl)
theorem at_63_0 (a : Addr) (w : World) : (Instr.fieldAt 63 (.pointer (some a)) 0).run Tryd.prog w = .ok (.pointer (some (a.add 0))) w := by simp [Instr.fieldAt, run_underlying Tryd.underlying63, Instr.sureAddr, fieldPlace, Result.andThen]
theorem part_PayPiece_1 : SubS (α := PayPiece) 1 PayPiece.Dense (fun x y => { x with Dense := y }) := SubS.of (SubS.comp SubS.snd SubS.fst rfl) (fun _ => rfl) (fun _ _ => rfl)
theorem at_63_1 (a : Addr) (w : World) : (Instr.fieldAt 63 (.pointer (some a)) 1).run Tryd.prog w = .ok (.pointer (some (a.add 1))) w := by simp [Instr.fieldAt, run_underlying Tryd.underlying63, Instr.sureAddr, fieldPlace, Result.andThen]
theorem part_PayPiece_2 : SubS (α := PayPiece) 2 PayPiece.Picks (fun x y => { x with Picks := y }) := SubS.of (SubS.comp SubS.snd (SubS.comp SubS.snd SubS.fst rfl) rfl) (fun _ => rfl) (fun _ _ => rfl)
theorem at_63_2 (a : Addr) (w : World) : (Instr.fieldAt 63 (.pointer (some a)) 2).run Tryd.prog w = .ok (.pointer (some (a.add 2))) w := by simp [Instr.fieldAt, run_underlying Tryd.underlying63, Instr.sureAddr, fieldPlace, Result.andThen]
theorem part_PayPiece_3 : SubS (α := PayPiece) 3 PayPiece.Extras (fun x y => { x with Extras := y }) := SubS.of (SubS.comp SubS.snd (SubS.comp SubS.snd (SubS.comp SubS.snd SubS.fst rfl) rfl) rfl) (fun _ => rfl) (fun _ _ => rfl)
theorem at_63_3 (a : Addr) (w : World) : (Instr.fieldAt 63 (.pointer (some a)) 3).run Tryd.prog w = .ok (.pointer (some (a.add 3))) w := by simp [Instr.fieldAt, run_underlying Tryd.underlying63, Instr.sureAddr, fieldPlace, Result.andThen]
theorem part_PayPiece_4 : SubS (α := PayPiece) 4 PayPiece.Faults (fun x y => { x with Faults := y }) := SubS.of (SubS.comp SubS.snd (SubS.comp SubS.snd (SubS.comp SubS.snd (SubS.comp SubS.snd SubS.id_ rfl) rfl) rfl) rfl) (fun _ => rfl) (fun _ _ => rfl)
theorem at_63_4 (a : Addr) (w : World) : (Instr.fieldAt 63 (.pointer (some a)) 4).run Tryd.prog w = .ok (.pointer (some (a.add 4))) w := by simp [Instr.fieldAt, run_underlying Tryd.underlying63, Instr.sureAddr, fieldPlace, Result.andThen]
structure PayEntry where
 Kind : Int
 Row : Int
 Column : Int
 Number : Int
 deriving DecidableEq, Inhabited
instance : GoT PayEntry := GoT.struct PayEntry (β := Int × Int × Int × Int) (fun x => (x.Kind, x.Row, x.Column, x.Number))
theorem part_PayEntry_3 : SubS (α := PayEntry) 3 PayEntry.Number (fun x y => { x with Number := y }) := SubS.of (SubS.comp SubS.snd (SubS.comp SubS.snd (SubS.comp SubS.snd SubS.id_ rfl) rfl) rfl) (fun _ => rfl) (fun _ _ => rfl)
theorem at_66_3 (a : Addr) (w : World) : (Instr.fieldAt 66 (.pointer (some a)) 3).run Tryd.prog w = .ok (.pointer (some (a.add 3))) w := by simp [Instr.fieldAt, run_underlying Tryd.underlying66, Instr.sureAddr, fieldPlace, Result.andThen]
structure PayTable where
 Rows : List (List Int)
 Across : List Int
 Down : List Int
 Total : Int
 deriving DecidableEq, Inhabited
instance : GoT PayTable := GoT.struct PayTable (β := (List (List Int)) × (List Int) × (List Int) × Int) (fun x => (x.Rows, x.Across, x.Down, x.Total))
theorem part_PayTable_0 : SubS (α := PayTable) 0 PayTable.Rows (fun x y => { x with Rows := y }) := SubS.of SubS.fst (fun _ => rfl) (fun _ _ => rfl)
theorem at_71_0 (a : Addr) (w : World) : (Instr.fieldAt 71 (.pointer (some a)) 0).run Tryd.prog w = .ok (.pointer (some (a.add 0))) w := by simp [Instr.fieldAt, run_underlying Tryd.underlying71, Instr.sureAddr, fieldPlace, Result.andThen]
theorem part_PayTable_1 : SubS (α := PayTable) 1 PayTable.Across (fun x y => { x with Across := y }) := SubS.of (SubS.comp SubS.snd SubS.fst rfl) (fun _ => rfl) (fun _ _ => rfl)
theorem at_71_1 (a : Addr) (w : World) : (Instr.fieldAt 71 (.pointer (some a)) 1).run Tryd.prog w = .ok (.pointer (some (a.add 1))) w := by simp [Instr.fieldAt, run_underlying Tryd.underlying71, Instr.sureAddr, fieldPlace, Result.andThen]
theorem part_PayTable_2 : SubS (α := PayTable) 2 PayTable.Down (fun x y => { x with Down := y }) := SubS.of (SubS.comp SubS.snd (SubS.comp SubS.snd SubS.fst rfl) rfl) (fun _ => rfl) (fun _ _ => rfl)
theorem at_71_2 (a : Addr) (w : World) : (Instr.fieldAt 71 (.pointer (some a)) 2).run Tryd.prog w = .ok (.pointer (some (a.add 2))) w := by simp [Instr.fieldAt, run_underlying Tryd.underlying71, Instr.sureAddr, fieldPlace, Result.andThen]
theorem part_PayTable_3 : SubS (α := PayTable) 3 PayTable.Total (fun x y => { x with Total := y }) := SubS.of (SubS.comp SubS.snd (SubS.comp SubS.snd (SubS.comp SubS.snd SubS.id_ rfl) rfl) rfl) (fun _ => rfl) (fun _ _ => rfl)
theorem at_71_3 (a : Addr) (w : World) : (Instr.fieldAt 71 (.pointer (some a)) 3).run Tryd.prog w = .ok (.pointer (some (a.add 3))) w := by simp [Instr.fieldAt, run_underlying Tryd.underlying71, Instr.sureAddr, fieldPlace, Result.andThen]
structure ShadeBook where
 grams : Int
 scale : Int
 entries : List ShadeEntry
 deriving DecidableEq, Inhabited
instance : GoT ShadeBook := GoT.struct ShadeBook (β := Int × Int × (List ShadeEntry)) (fun x => (x.grams, x.scale, x.entries))
theorem part_ShadeBook_0 : SubS (α := ShadeBook) 0 ShadeBook.grams (fun x y => { x with grams := y }) := SubS.of SubS.fst (fun _ => rfl) (fun _ _ => rfl)
theorem at_76_0 (a : Addr) (w : World) : (Instr.fieldAt 76 (.pointer (some a)) 0).run Tryd.prog w = .ok (.pointer (some (a.add 0))) w := by simp [Instr.fieldAt, run_underlying Tryd.underlying76, Instr.sureAddr, fieldPlace, Result.andThen]
theorem part_ShadeBook_1 : SubS (α := ShadeBook) 1 ShadeBook.scale (fun x y => { x with scale := y }) := SubS.of (SubS.comp SubS.snd SubS.fst rfl) (fun _ => rfl) (fun _ _ => rfl)
theorem at_76_1 (a : Addr) (w : World) : (Instr.fieldAt 76 (.pointer (some a)) 1).run Tryd.prog w = .ok (.pointer (some (a.add 1))) w := by simp [Instr.fieldAt, run_underlying Tryd.underlying76, Instr.sureAddr, fieldPlace, Result.andThen]
theorem part_ShadeBook_2 : SubS (α := ShadeBook) 2 ShadeBook.entries (fun x y => { x with entries := y }) := SubS.of (SubS.comp SubS.snd (SubS.comp SubS.snd SubS.id_ rfl) rfl) (fun _ => rfl) (fun _ _ => rfl)
theorem at_76_2 (a : Addr) (w : World) : (Instr.fieldAt 76 (.pointer (some a)) 2).run Tryd.prog w = .ok (.pointer (some (a.add 2))) w := by simp [Instr.fieldAt, run_underlying Tryd.underlying76, Instr.sureAddr, fieldPlace, Result.andThen]
structure PayPayList where
 PayList : PayList
 deriving DecidableEq, Inhabited
instance : GoT PayPayList := GoT.struct PayPayList (β := PayList) (fun x => x.PayList)
theorem part_PayPayList_0 : SubS (α := PayPayList) 0 PayPayList.PayList (fun x y => { x with PayList := y }) := SubS.of SubS.id_ (fun _ => rfl) (fun _ _ => rfl)
theorem at_91_0 (a : Addr) (w : World) : (Instr.fieldAt 91 (.pointer (some a)) 0).run Tryd.prog w = .ok (.pointer (some (a.add 0))) w := by simp [Instr.fieldAt, run_underlying Tryd.underlying91, Instr.sureAddr, fieldPlace, Result.andThen]
structure PaySheet where
 PayTable : PayTable
 deriving DecidableEq, Inhabited
instance : GoT PaySheet := GoT.struct PaySheet (β := PayTable) (fun x => x.PayTable)
theorem part_PaySheet_0 : SubS (α := PaySheet) 0 PaySheet.PayTable (fun x y => { x with PayTable := y }) := SubS.of SubS.id_ (fun _ => rfl) (fun _ _ => rfl)
theorem at_97_0 (a : Addr) (w : World) : (Instr.fieldAt 97 (.pointer (some a)) 0).run Tryd.prog w = .ok (.pointer (some (a.add 0))) w := by simp [Instr.fieldAt, run_underlying Tryd.underlying97, Instr.sureAddr, fieldPlace, Result.andThen]
structure PayPlace where
 row : Int
 column : Int
 deriving DecidableEq, Inhabited
instance : GoT PayPlace := GoT.struct PayPlace (β := Int × Int) (fun x => (x.row, x.column))
end Go.Proofs.YticdblhibbaojaaDoor
