/- The types of this seat, as data: structures, how they lie in memory, their parts. Printed by gtypes.py. -/
import Derived.Test.YtkmbkaoolacofaaGreatAp
import Derived.Test.YtkmbkaoolacofaaGreatProg
namespace Go.Proofs.YtkmbkaoolacofaaGreat
open Go.RowKit
theorem SubS.of {α β γ : Type} [GoT β] [GoT γ] {to : α → β} {off : Nat} {f : α → γ} {st : α → γ → α} {f' : β → γ} {s' : β → γ → β} (h : SubS off f' s') (h1 : ∀ x, f' (to x) = f x) (h2 : ∀ x y, to (st x y) = s' (to x) y) : @SubS α γ (GoT.struct α to) _ off f st := by
 refine ⟨⟨h.1.1, fun m w x cs hr => ?_⟩, fun m w x y cs cy hr hy => ?_⟩
 ·rw [← h1]; exact h.1.2 m w (to x) cs hr
 ·show GoT.rep m w (to (st x y)) _; rw [h2]; exact h.2 m w (to x) y cs cy hr hy
structure PayRate where
 From : Int
 Rate : Int
 deriving DecidableEq, Inhabited
instance : GoT PayRate := GoT.struct PayRate (β := Int × Int) (fun x => (x.From, x.Rate))
theorem part_PayRate_0 : SubS (α := PayRate) 0 PayRate.From (fun x y => { x with From := y }) := SubS.of SubS.fst (fun _ => rfl) (fun _ _ => rfl)
theorem at_87_0 (a : Addr) (w : World) : (Instr.fieldAt 87 (.pointer (some a)) 0).run Tryz.prog w = .ok (.pointer (some (a.add 0))) w := by simp [Instr.fieldAt, run_underlying Tryz.underlying87, Instr.sureAddr, fieldPlace, Result.andThen]
theorem part_PayRate_1 : SubS (α := PayRate) 1 PayRate.Rate (fun x y => { x with Rate := y }) := SubS.of (SubS.comp SubS.snd SubS.id_ rfl) (fun _ => rfl) (fun _ _ => rfl)
theorem at_87_1 (a : Addr) (w : World) : (Instr.fieldAt 87 (.pointer (some a)) 1).run Tryz.prog w = .ok (.pointer (some (a.add 1))) w := by simp [Instr.fieldAt, run_underlying Tryz.underlying87, Instr.sureAddr, fieldPlace, Result.andThen]
structure PayList where
 Rates : List PayRate
 Extras : List Int
 Fine : Int
 Cap : Int
 deriving DecidableEq, Inhabited
instance : GoT PayList := GoT.struct PayList (β := (List PayRate) × (List Int) × Int × Int) (fun x => (x.Rates, x.Extras, x.Fine, x.Cap))
theorem part_PayList_0 : SubS (α := PayList) 0 PayList.Rates (fun x y => { x with Rates := y }) := SubS.of SubS.fst (fun _ => rfl) (fun _ _ => rfl)
theorem at_25_0 (a : Addr) (w : World) : (Instr.fieldAt 25 (.pointer (some a)) 0).run Tryz.prog w = .ok (.pointer (some (a.add 0))) w := by simp [Instr.fieldAt, run_underlying Tryz.underlying25, Instr.sureAddr, fieldPlace, Result.andThen]
theorem part_PayList_1 : SubS (α := PayList) 1 PayList.Extras (fun x y => { x with Extras := y }) := SubS.of (SubS.comp SubS.snd SubS.fst rfl) (fun _ => rfl) (fun _ _ => rfl)
theorem at_25_1 (a : Addr) (w : World) : (Instr.fieldAt 25 (.pointer (some a)) 1).run Tryz.prog w = .ok (.pointer (some (a.add 1))) w := by simp [Instr.fieldAt, run_underlying Tryz.underlying25, Instr.sureAddr, fieldPlace, Result.andThen]
theorem part_PayList_2 : SubS (α := PayList) 2 PayList.Fine (fun x y => { x with Fine := y }) := SubS.of (SubS.comp SubS.snd (SubS.comp SubS.snd SubS.fst rfl) rfl) (fun _ => rfl) (fun _ _ => rfl)
theorem at_25_2 (a : Addr) (w : World) : (Instr.fieldAt 25 (.pointer (some a)) 2).run Tryz.prog w = .ok (.pointer (some (a.add 2))) w := by simp [Instr.fieldAt, run_underlying Tryz.underlying25, Instr.sureAddr, fieldPlace, Result.andThen]
theorem part_PayList_3 : SubS (α := PayList) 3 PayList.Cap (fun x y => { x with Cap := y }) := SubS.of (SubS.comp SubS.snd (SubS.comp SubS.snd (SubS.comp SubS.snd SubS.id_ rfl) rfl) rfl) (fun _ => rfl) (fun _ _ => rfl)
theorem at_25_3 (a : Addr) (w : World) : (Instr.fieldAt 25 (.pointer (some a)) 3).run Tryz.prog w = .ok (.pointer (some (a.add 3))) w := by simp [Instr.fieldAt, run_underlying Tryz.underlying25, Instr.sureAddr, fieldPlace, Result.andThen]
structure PayPiece where
 Weaver : Int
 Dense : Int
 Picks : Int
 Extras : List Int
 Faults : Int
 deriving DecidableEq, Inhabited
instance : GoT PayPiece := GoT.struct PayPiece (β := Int × Int × Int × (List Int) × Int) (fun x => (x.Weaver, x.Dense, x.Picks, x.Extras, x.Faults))
theorem part_PayPiece_0 : SubS (α := PayPiece) 0 PayPiece.Weaver (fun x y => { x with Weaver := y }) := SubS.of SubS.fst (fun _ => rfl) (fun _ _ => rfl)
theorem at_27_0 (a : Addr) (w : World) : (Instr.fieldAt 27 (.pointer (some a)) 0).run Tryz.prog w = .ok (.pointer (some (a.add 0))) w := by simp [Instr.fieldAt, run_underlying Tryz.underlying27, Instr.sureAddr, fieldPlace, Result.andThen]
theorem part_PayPiece_1 : SubS (α := PayPiece) 1 PayPiece.Dense (fun x y => { x with Dense := y }) := SubS.of (SubS.comp SubS.snd SubS.fst rfl) (fun _ => rfl) (fun _ _ => rfl)
theorem at_27_1 (a : Addr) (w : World) : (Instr.fieldAt 27 (.pointer (some a)) 1).run Tryz.prog w = .ok (.pointer (some (a.add 1))) w := by simp [Instr.fieldAt, run_underlying Tryz.underlying27, Instr.sureAddr, fieldPlace, Result.andThen]
theorem part_PayPiece_2 : SubS (α := PayPiece) 2 PayPiece.Picks (fun x y => { x with Picks := y }) := SubS.of (SubS.comp SubS.snd (SubS.comp SubS.snd SubS.fst rfl) rfl) (fun _ => rfl) (fun _ _ => rfl)
theorem at_27_2 (a : Addr) (w : World) : (Instr.fieldAt 27 (.pointer (some a)) 2).run Tryz.prog w = .ok (.pointer (some (a.add 2))) w := by simp [Instr.fieldAt, run_underlying Tryz.underlying27, Instr.sureAddr, fieldPlace, Result.andThen]
theorem part_PayPiece_3 : SubS (α := PayPiece) 3 PayPiece.Extras (fun x y => { x with Extras := y }) := SubS.of (SubS.comp SubS.snd (SubS.comp SubS.snd (SubS.comp SubS.snd SubS.fst rfl) rfl) rfl) (fun _ => rfl) (fun _ _ => rfl)
theorem at_27_3 (a : Addr) (w : World) : (Instr.fieldAt 27 (.pointer (some a)) 3).run Tryz.prog w = .ok (.pointer (some (a.add 3))) w := by simp [Instr.fieldAt, run_underlying Tryz.underlying27, Instr.sureAddr, fieldPlace, Result.andThen]
theorem part_PayPiece_4 : SubS (α := PayPiece) 4 PayPiece.Faults (fun x y => { x with Faults := y }) := SubS.of (SubS.comp SubS.snd (SubS.comp SubS.snd (SubS.comp SubS.snd (SubS.comp SubS.snd SubS.id_ rfl) rfl) rfl) rfl) (fun _ => rfl) (fun _ _ => rfl)
theorem at_27_4 (a : Addr) (w : World) : (Instr.fieldAt 27 (.pointer (some a)) 4).run Tryz.prog w = .ok (.pointer (some (a.add 4))) w := by simp [Instr.fieldAt, run_underlying Tryz.underlying27, Instr.sureAddr, fieldPlace, Result.andThen]
structure Span where
 Low : Int
 High : Int
 deriving DecidableEq, Inhabited
instance : GoT Span := GoT.struct Span (β := Int × Int) (fun x => (x.Low, x.High))
structure PayTable where
 Rows : List (List Int)
 Across : List Int
 Down : List Int
 Total : Int
 deriving DecidableEq, Inhabited
instance : GoT PayTable := GoT.struct PayTable (β := (List (List Int)) × (List Int) × (List Int) × Int) (fun x => (x.Rows, x.Across, x.Down, x.Total))
structure Prices where
 Rates : List (Vector UInt16 2)
 Extras : List UInt8
 Fine : UInt8
 Cap : UInt8
 deriving DecidableEq, Inhabited
instance : GoT Prices := GoT.struct Prices (β := (List (Vector UInt16 2)) × (List UInt8) × UInt8 × UInt8) (fun x => (x.Rates, x.Extras, x.Fine, x.Cap))
structure Cut where
 Weaver : UInt8
 Faults : UInt8
 Extras : UInt8
 Dense : UInt16
 Picks : UInt32
 deriving DecidableEq, Inhabited
instance : GoT Cut := GoT.struct Cut (β := UInt8 × UInt8 × UInt8 × UInt16 × UInt32) (fun x => (x.Weaver, x.Faults, x.Extras, x.Dense, x.Picks))
structure Sheet where
 Rows : UInt8
 Columns : UInt8
 Amounts : List UInt16
 Blots : Vector UInt8 6
 deriving DecidableEq
instance : GoT Sheet := GoT.struct Sheet (β := UInt8 × UInt8 × (List UInt16) × (Vector UInt8 6)) (fun x => (x.Rows, x.Columns, x.Amounts, x.Blots))
structure PayEntry where
 Kind : Int
 Row : Int
 Column : Int
 Number : Int
 deriving DecidableEq, Inhabited
instance : GoT PayEntry := GoT.struct PayEntry (β := Int × Int × Int × Int) (fun x => (x.Kind, x.Row, x.Column, x.Number))
structure PayPayList where
 PayList : PayList
 deriving DecidableEq, Inhabited
instance : GoT PayPayList := GoT.struct PayPayList (β := PayList) (fun x => x.PayList)
theorem part_PayPayList_0 : SubS (α := PayPayList) 0 PayPayList.PayList (fun x y => { x with PayList := y }) := SubS.of SubS.id_ (fun _ => rfl) (fun _ _ => rfl)
theorem at_117_0 (a : Addr) (w : World) : (Instr.fieldAt 117 (.pointer (some a)) 0).run Tryz.prog w = .ok (.pointer (some (a.add 0))) w := by simp [Instr.fieldAt, run_underlying Tryz.underlying117, Instr.sureAddr, fieldPlace, Result.andThen]
structure PaySheet where
 PayTable : PayTable
 deriving DecidableEq, Inhabited
instance : GoT PaySheet := GoT.struct PaySheet (β := PayTable) (fun x => x.PayTable)
structure PayPlace where
 row : Int
 column : Int
 deriving DecidableEq, Inhabited
instance : GoT PayPlace := GoT.struct PayPlace (β := Int × Int) (fun x => (x.row, x.column))
structure PayFilling where
 sheet : PaySheet
 places : List PayPlace
 amounts : List Int
 deriving DecidableEq, Inhabited
instance : GoT PayFilling := GoT.struct PayFilling (β := PaySheet × (List PayPlace) × (List Int)) (fun x => (x.sheet, x.places, x.amounts))
structure PayEnd where
 at_ : Int
 isDown : Bool
 deriving DecidableEq, Inhabited
instance : GoT PayEnd := GoT.struct PayEnd (β := Int × Bool) (fun x => (x.at_, x.isDown))
structure PayStep where
 blot : Int
 less : Bool
 deriving DecidableEq, Inhabited
instance : GoT PayStep := GoT.struct PayStep (β := Int × Bool) (fun x => (x.blot, x.less))
end Go.Proofs.YtkmbkaoolacofaaGreat
