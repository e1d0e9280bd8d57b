/- The types of this seat, as data: structures, how they lie in memory, their parts. Printed by gtypes.py. -/
import Derived.Test.YtkmbkaoolacofaaGreatCt
import Derived.Test.YtkmbkaoolacofaaGreatProg
namespace Go.Proofs.YtkmbkaoolacofaaGreat
open Go.RowKit
theorem SubS.of {α β γ : Type} [GoT β] [GoT γ] {to : α → β} {off : Nat} {f : α → γ} {st : α → γ → α} {f' : β → γ} {s' : β → γ → β} (h : SubS off f' s') (h1 : ∀ x, f' (to x) = f x) (h2 : ∀ x y, to (st x y) = s' (to x) y) : @SubS α γ (GoT.struct α to) _ off f st := by
 refine ⟨⟨h.1.1, fun m w x cs hr => ?_⟩, fun m w x y cs cy hr hy => ?_⟩
 ·rw [← h1]; exact h.1.2 m w (to x) cs hr
 ·show GoT.rep m w (to (st x y)) _; rw [h2]; exact h.2 m w (to x) y cs cy hr hy
structure PayRate where
 From : Int
 Rate : Int
 deriving DecidableEq, Inhabited
instance : GoT PayRate := GoT.struct PayRate (β := Int × Int) (fun x => (x.From, x.Rate))
structure PayList where
 Rates : List PayRate
 Extras : List Int
 Fine : Int
 Cap : Int
 deriving DecidableEq, Inhabited
instance : GoT PayList := GoT.struct PayList (β := (List PayRate) × (List Int) × Int × Int) (fun x => (x.Rates, x.Extras, x.Fine, x.Cap))
structure PayPiece where
 Weaver : Int
 Dense : Int
 Picks : Int
 Extras : List Int
 Faults : Int
 deriving DecidableEq, Inhabited
instance : GoT PayPiece := GoT.struct PayPiece (β := Int × Int × Int × (List Int) × Int) (fun x => (x.Weaver, x.Dense, x.Picks, x.Extras, x.Faults))
structure Span where
 Low : Int
 High : Int
 deriving DecidableEq, Inhabited
instance : GoT Span := GoT.struct Span (β := Int × Int) (fun x => (x.Low, x.High))
structure PayTable where
 Rows : List (List Int)
 Across : List Int
 Down : List Int
 Total : Int
 deriving DecidableEq, Inhabited
instance : GoT PayTable := GoT.struct PayTable (β := (List (List Int)) × (List Int) × (List Int) × Int) (fun x => (x.Rows, x.Across, x.Down, x.Total))
theorem part_PayTable_0 : SubS (α := PayTable) 0 PayTable.Rows (fun x y => { x with Rows := y }) := SubS.of SubS.fst (fun _ => rfl) (fun _ _ => rfl)
theorem at_58_0 (a : Addr) (w : World) : (Instr.fieldAt 58 (.pointer (some a)) 0).run Tryz.prog w = .ok (.pointer (some (a.add 0))) w := by simp [Instr.fieldAt, run_underlying Tryz.underlying58, Instr.sureAddr, fieldPlace, Result.andThen]
theorem part_PayTable_1 : SubS (α := PayTable) 1 PayTable.Across (fun x y => { x with Across := y }) := SubS.of (SubS.comp SubS.snd SubS.fst rfl) (fun _ => rfl) (fun _ _ => rfl)
theorem at_58_1 (a : Addr) (w : World) : (Instr.fieldAt 58 (.pointer (some a)) 1).run Tryz.prog w = .ok (.pointer (some (a.add 1))) w := by simp [Instr.fieldAt, run_underlying Tryz.underlying58, Instr.sureAddr, fieldPlace, Result.andThen]
theorem part_PayTable_2 : SubS (α := PayTable) 2 PayTable.Down (fun x y => { x with Down := y }) := SubS.of (SubS.comp SubS.snd (SubS.comp SubS.snd SubS.fst rfl) rfl) (fun _ => rfl) (fun _ _ => rfl)
theorem at_58_2 (a : Addr) (w : World) : (Instr.fieldAt 58 (.pointer (some a)) 2).run Tryz.prog w = .ok (.pointer (some (a.add 2))) w := by simp [Instr.fieldAt, run_underlying Tryz.underlying58, Instr.sureAddr, fieldPlace, Result.andThen]
theorem part_PayTable_3 : SubS (α := PayTable) 3 PayTable.Total (fun x y => { x with Total := y }) := SubS.of (SubS.comp SubS.snd (SubS.comp SubS.snd (SubS.comp SubS.snd SubS.id_ rfl) rfl) rfl) (fun _ => rfl) (fun _ _ => rfl)
theorem at_58_3 (a : Addr) (w : World) : (Instr.fieldAt 58 (.pointer (some a)) 3).run Tryz.prog w = .ok (.pointer (some (a.add 3))) w := by simp [Instr.fieldAt, run_underlying Tryz.underlying58, Instr.sureAddr, fieldPlace, Result.andThen]
structure Prices where
 Rates : List (Vector UInt16 2)
 Extras : List UInt8
 Fine : UInt8
 Cap : UInt8
 deriving DecidableEq, Inhabited
instance : GoT Prices := GoT.struct Prices (β := (List (Vector UInt16 2)) × (List UInt8) × UInt8 × UInt8) (fun x => (x.Rates, x.Extras, x.Fine, x.Cap))
structure Cut where
 Weaver : UInt8
 Faults : UInt8
 Extras : UInt8
 Dense : UInt16
 Picks : UInt32
 deriving DecidableEq, Inhabited
instance : GoT Cut := GoT.struct Cut (β := UInt8 × UInt8 × UInt8 × UInt16 × UInt32) (fun x => (x.Weaver, x.Faults, x.Extras, x.Dense, x.Picks))
structure Sheet where
 Rows : UInt8
 Columns : UInt8
 Amounts : List UInt16
 Blots : Vector UInt8 6
 deriving DecidableEq
instance : GoT Sheet := GoT.struct Sheet (β := UInt8 × UInt8 × (List UInt16) × (Vector UInt8 6)) (fun x => (x.Rows, x.Columns, x.Amounts, x.Blots))
theorem part_Sheet_0 : SubS (α := Sheet) 0 Sheet.Rows (fun x y => { x with Rows := y }) := SubS.of SubS.fst (fun _ => rfl) (fun _ _ => rfl)
theorem at_94_0 (a : Addr) (w : World) : (Instr.fieldAt 94 (.pointer (some a)) 0).run Tryz.prog w = .ok (.pointer (some (a.add 0))) w := by simp [Instr.fieldAt, run_underlying Tryz.underlying94, Instr.sureAddr, fieldPlace, Result.andThen]
theorem part_Sheet_1 : SubS (α := Sheet) 1 Sheet.Columns (fun x y => { x with Columns := y }) := SubS.of (SubS.comp SubS.snd SubS.fst rfl) (fun _ => rfl) (fun _ _ => rfl)
theorem at_94_1 (a : Addr) (w : World) : (Instr.fieldAt 94 (.pointer (some a)) 1).run Tryz.prog w = .ok (.pointer (some (a.add 1))) w := by simp [Instr.fieldAt, run_underlying Tryz.underlying94, Instr.sureAddr, fieldPlace, Result.andThen]
theorem part_Sheet_2 : SubS (α := Sheet) 2 Sheet.Amounts (fun x y => { x with Amounts := y }) := SubS.of (SubS.comp SubS.snd (SubS.comp SubS.snd SubS.fst rfl) rfl) (fun _ => rfl) (fun _ _ => rfl)
theorem at_94_2 (a : Addr) (w : World) : (Instr.fieldAt 94 (.pointer (some a)) 2).run Tryz.prog w = .ok (.pointer (some (a.add 2))) w := by simp [Instr.fieldAt, run_underlying Tryz.underlying94, Instr.sureAddr, fieldPlace, Result.andThen]
structure PayEntry where
 Kind : Int
 Row : Int
 Column : Int
 Number : Int
 deriving DecidableEq, Inhabited
instance : GoT PayEntry := GoT.struct PayEntry (β := Int × Int × Int × Int) (fun x => (x.Kind, x.Row, x.Column, x.Number))
theorem part_PayEntry_0 : SubS (α := PayEntry) 0 PayEntry.Kind (fun x y => { x with Kind := y }) := SubS.of SubS.fst (fun _ => rfl) (fun _ _ => rfl)
theorem at_100_0 (a : Addr) (w : World) : (Instr.fieldAt 100 (.pointer (some a)) 0).run Tryz.prog w = .ok (.pointer (some (a.add 0))) w := by simp [Instr.fieldAt, run_underlying Tryz.underlying100, Instr.sureAddr, fieldPlace, Result.andThen]
theorem part_PayEntry_1 : SubS (α := PayEntry) 1 PayEntry.Row (fun x y => { x with Row := y }) := SubS.of (SubS.comp SubS.snd SubS.fst rfl) (fun _ => rfl) (fun _ _ => rfl)
theorem at_100_1 (a : Addr) (w : World) : (Instr.fieldAt 100 (.pointer (some a)) 1).run Tryz.prog w = .ok (.pointer (some (a.add 1))) w := by simp [Instr.fieldAt, run_underlying Tryz.underlying100, Instr.sureAddr, fieldPlace, Result.andThen]
theorem part_PayEntry_2 : SubS (α := PayEntry) 2 PayEntry.Column (fun x y => { x with Column := y }) := SubS.of (SubS.comp SubS.snd (SubS.comp SubS.snd SubS.fst rfl) rfl) (fun _ => rfl) (fun _ _ => rfl)
theorem at_100_2 (a : Addr) (w : World) : (Instr.fieldAt 100 (.pointer (some a)) 2).run Tryz.prog w = .ok (.pointer (some (a.add 2))) w := by simp [Instr.fieldAt, run_underlying Tryz.underlying100, Instr.sureAddr, fieldPlace, Result.andThen]
theorem part_PayEntry_3 : SubS (α := PayEntry) 3 PayEntry.Number (fun x y => { x with Number := y }) := SubS.of (SubS.comp SubS.snd (SubS.comp SubS.snd (SubS.comp SubS.snd SubS.id_ rfl) rfl) rfl) (fun _ => rfl) (fun _ _ => rfl)
theorem at_100_3 (a : Addr) (w : World) : (Instr.fieldAt 100 (.pointer (some a)) 3).run Tryz.prog w = .ok (.pointer (some (a.add 3))) w := by simp [Instr.fieldAt, run_underlying Tryz.underlying100, Instr.sureAddr, fieldPlace, Result.andThen]
structure PayPayList where
 PayList : PayList
 deriving DecidableEq, Inhabited
instance : GoT PayPayList := GoT.struct PayPayList (β := PayList) (fun x => x.PayList)
structure PaySheet where
 PayTable : PayTable
 deriving DecidableEq, Inhabited
instance : GoT PaySheet := GoT.struct PaySheet (β := PayTable) (fun x => x.PayTable)
theorem part_PaySheet_0 : SubS (α := PaySheet) 0 PaySheet.PayTable (fun x y => { x with PayTable := y }) := SubS.of SubS.id_ (fun _ => rfl) (fun _ _ => rfl)
theorem at_132_0 (a : Addr) (w : World) : (Instr.fieldAt 132 (.pointer (some a)) 0).run Tryz.prog w = .ok (.pointer (some (a.add 0))) w := by simp [Instr.fieldAt, run_underlying Tryz.underlying132, Instr.sureAddr, fieldPlace, Result.andThen]
structure PayPlace where
 row : Int
 column : Int
 deriving DecidableEq, Inhabited
instance : GoT PayPlace := GoT.struct PayPlace (β := Int × Int) (fun x => (x.row, x.column))
structure PayFilling where
 sheet : PaySheet
 places : List PayPlace
 amounts : List Int
 deriving DecidableEq, Inhabited
instance : GoT PayFilling := GoT.struct PayFilling (β := PaySheet × (List PayPlace) × (List Int)) (fun x => (x.sheet, x.places, x.amounts))
structure PayEnd where
 at_ : Int
 isDown : Bool
 deriving DecidableEq, Inhabited
instance : GoT PayEnd := GoT.struct PayEnd (β := Int × Bool) (fun x => (x.at_, x.isDown))
structure PayStep where
 blot : Int
 less : Bool
 deriving DecidableEq, Inhabited
instance : GoT PayStep := GoT.struct PayStep (β := Int × Bool) (fun x => (x.blot, x.less))
end Go.Proofs.YtkmbkaoolacofaaGreat
