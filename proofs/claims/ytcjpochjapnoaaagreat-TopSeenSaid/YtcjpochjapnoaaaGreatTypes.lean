/- The types of this seat, as data: structures, how they lie in memory, their parts. Printed by gtypes.py. -/
import Derived.Test.YtcjpochjapnoaaaGreatGrow
import Derived.Test.YtcjpochjapnoaaaGreatProg
namespace Go.Proofs.YtcjpochjapnoaaaGreat
open Go.RowKit
theorem SubS.of {α β γ : Type} [GoT β] [GoT γ] {to : α → β} {off : Nat} {f : α → γ} {st : α → γ → α} {f' : β → γ} {s' : β → γ → β} (h : SubS off f' s') (h1 : ∀ x, f' (to x) = f x) (h2 : ∀ x y, to (st x y) = s' (to x) y) : @SubS α γ (GoT.struct α to) _ off f st := by
 refine ⟨⟨h.1.1, fun m w x cs hr => ?_⟩, fun m w x y cs cy hr hy => ?_⟩
 ·rw [← h1]; exact h.1.2 m w (to x) cs hr
 ·show GoT.rep m w (to (st x y)) _; rw [h2]; exact h.2 m w (to x) y cs cy hr hy
structure TieHarness where
 Hooks : Int
 Warps : List Int
 deriving DecidableEq, Inhabited
instance : GoT TieHarness := GoT.struct TieHarness (β := Int × (List Int)) (fun x => (x.Hooks, x.Warps))
theorem part_TieHarness_0 : SubS (α := TieHarness) 0 TieHarness.Hooks (fun x y => { x with Hooks := y }) := SubS.of SubS.fst (fun _ => rfl) (fun _ _ => rfl)
theorem at_27_0 (a : Addr) (w : World) : (Instr.fieldAt 27 (.pointer (some a)) 0).run Tryz.prog w = .ok (.pointer (some (a.add 0))) w := by simp [Instr.fieldAt, run_underlying Tryz.underlying27, Instr.sureAddr, fieldPlace, Result.andThen]
theorem part_TieHarness_1 : SubS (α := TieHarness) 1 TieHarness.Warps (fun x y => { x with Warps := y }) := SubS.of (SubS.comp SubS.snd SubS.id_ rfl) (fun _ => rfl) (fun _ _ => rfl)
theorem at_27_1 (a : Addr) (w : World) : (Instr.fieldAt 27 (.pointer (some a)) 1).run Tryz.prog w = .ok (.pointer (some (a.add 1))) w := by simp [Instr.fieldAt, run_underlying Tryz.underlying27, Instr.sureAddr, fieldPlace, Result.andThen]
structure Design where
 Hooks : Int
 Rows : List Int
 deriving DecidableEq, Inhabited
instance : GoT Design := GoT.struct Design (β := Int × (List Int)) (fun x => (x.Hooks, x.Rows))
theorem part_Design_0 : SubS (α := Design) 0 Design.Hooks (fun x y => { x with Hooks := y }) := SubS.of SubS.fst (fun _ => rfl) (fun _ _ => rfl)
theorem at_29_0 (a : Addr) (w : World) : (Instr.fieldAt 29 (.pointer (some a)) 0).run Tryz.prog w = .ok (.pointer (some (a.add 0))) w := by simp [Instr.fieldAt, run_underlying Tryz.underlying29, Instr.sureAddr, fieldPlace, Result.andThen]
theorem part_Design_1 : SubS (α := Design) 1 Design.Rows (fun x y => { x with Rows := y }) := SubS.of (SubS.comp SubS.snd SubS.id_ rfl) (fun _ => rfl) (fun _ _ => rfl)
theorem at_29_1 (a : Addr) (w : World) : (Instr.fieldAt 29 (.pointer (some a)) 1).run Tryz.prog w = .ok (.pointer (some (a.add 1))) w := by simp [Instr.fieldAt, run_underlying Tryz.underlying29, Instr.sureAddr, fieldPlace, Result.andThen]
structure FaultLoom where
 Harness : TieHarness
 Design : Design
 deriving DecidableEq, Inhabited
instance : GoT FaultLoom := GoT.struct FaultLoom (β := TieHarness × Design) (fun x => (x.Harness, x.Design))
theorem part_FaultLoom_0 : SubS (α := FaultLoom) 0 FaultLoom.Harness (fun x y => { x with Harness := y }) := SubS.of SubS.fst (fun _ => rfl) (fun _ _ => rfl)
theorem at_31_0 (a : Addr) (w : World) : (Instr.fieldAt 31 (.pointer (some a)) 0).run Tryz.prog w = .ok (.pointer (some (a.add 0))) w := by simp [Instr.fieldAt, run_underlying Tryz.underlying31, Instr.sureAddr, fieldPlace, Result.andThen]
theorem part_FaultLoom_1 : SubS (α := FaultLoom) 2 FaultLoom.Design (fun x y => { x with Design := y }) := SubS.of (SubS.comp SubS.snd SubS.id_ rfl) (fun _ => rfl) (fun _ _ => rfl)
theorem at_31_1 (a : Addr) (w : World) : (Instr.fieldAt 31 (.pointer (some a)) 1).run Tryz.prog w = .ok (.pointer (some (a.add 2))) w := by simp [Instr.fieldAt, run_underlying Tryz.underlying31, Instr.sureAddr, fieldPlace, Result.andThen]
structure PayRate where
 From : Int
 Rate : Int
 deriving DecidableEq, Inhabited
instance : GoT PayRate := GoT.struct PayRate (β := Int × Int) (fun x => (x.From, x.Rate))
theorem part_PayRate_0 : SubS (α := PayRate) 0 PayRate.From (fun x y => { x with From := y }) := SubS.of SubS.fst (fun _ => rfl) (fun _ _ => rfl)
theorem at_82_0 (a : Addr) (w : World) : (Instr.fieldAt 82 (.pointer (some a)) 0).run Tryz.prog w = .ok (.pointer (some (a.add 0))) w := by simp [Instr.fieldAt, run_underlying Tryz.underlying82, Instr.sureAddr, fieldPlace, Result.andThen]
theorem part_PayRate_1 : SubS (α := PayRate) 1 PayRate.Rate (fun x y => { x with Rate := y }) := SubS.of (SubS.comp SubS.snd SubS.id_ rfl) (fun _ => rfl) (fun _ _ => rfl)
theorem at_82_1 (a : Addr) (w : World) : (Instr.fieldAt 82 (.pointer (some a)) 1).run Tryz.prog w = .ok (.pointer (some (a.add 1))) w := by simp [Instr.fieldAt, run_underlying Tryz.underlying82, Instr.sureAddr, fieldPlace, Result.andThen]
structure PayList where
 Rates : List PayRate
 Extras : List Int
 Fine : Int
 Cap : Int
 deriving DecidableEq, Inhabited
instance : GoT PayList := GoT.struct PayList (β := (List PayRate) × (List Int) × Int × Int) (fun x => (x.Rates, x.Extras, x.Fine, x.Cap))
theorem part_PayList_0 : SubS (α := PayList) 0 PayList.Rates (fun x y => { x with Rates := y }) := SubS.of SubS.fst (fun _ => rfl) (fun _ _ => rfl)
theorem at_35_0 (a : Addr) (w : World) : (Instr.fieldAt 35 (.pointer (some a)) 0).run Tryz.prog w = .ok (.pointer (some (a.add 0))) w := by simp [Instr.fieldAt, run_underlying Tryz.underlying35, Instr.sureAddr, fieldPlace, Result.andThen]
theorem part_PayList_1 : SubS (α := PayList) 1 PayList.Extras (fun x y => { x with Extras := y }) := SubS.of (SubS.comp SubS.snd SubS.fst rfl) (fun _ => rfl) (fun _ _ => rfl)
theorem at_35_1 (a : Addr) (w : World) : (Instr.fieldAt 35 (.pointer (some a)) 1).run Tryz.prog w = .ok (.pointer (some (a.add 1))) w := by simp [Instr.fieldAt, run_underlying Tryz.underlying35, Instr.sureAddr, fieldPlace, Result.andThen]
theorem part_PayList_2 : SubS (α := PayList) 2 PayList.Fine (fun x y => { x with Fine := y }) := SubS.of (SubS.comp SubS.snd (SubS.comp SubS.snd SubS.fst rfl) rfl) (fun _ => rfl) (fun _ _ => rfl)
theorem at_35_2 (a : Addr) (w : World) : (Instr.fieldAt 35 (.pointer (some a)) 2).run Tryz.prog w = .ok (.pointer (some (a.add 2))) w := by simp [Instr.fieldAt, run_underlying Tryz.underlying35, Instr.sureAddr, fieldPlace, Result.andThen]
theorem part_PayList_3 : SubS (α := PayList) 3 PayList.Cap (fun x y => { x with Cap := y }) := SubS.of (SubS.comp SubS.snd (SubS.comp SubS.snd (SubS.comp SubS.snd SubS.id_ rfl) rfl) rfl) (fun _ => rfl) (fun _ _ => rfl)
theorem at_35_3 (a : Addr) (w : World) : (Instr.fieldAt 35 (.pointer (some a)) 3).run Tryz.prog w = .ok (.pointer (some (a.add 3))) w := by simp [Instr.fieldAt, run_underlying Tryz.underlying35, Instr.sureAddr, fieldPlace, Result.andThen]
structure FaultDamage where
 Kind : Int
 Pick : Int
 Hook : Int
 Warp : Int
 Up : Bool
 deriving DecidableEq, Inhabited
instance : GoT FaultDamage := GoT.struct FaultDamage (β := Int × Int × Int × Int × Bool) (fun x => (x.Kind, x.Pick, x.Hook, x.Warp, x.Up))
theorem part_FaultDamage_0 : SubS (α := FaultDamage) 0 FaultDamage.Kind (fun x y => { x with Kind := y }) := SubS.of SubS.fst (fun _ => rfl) (fun _ _ => rfl)
theorem at_39_0 (a : Addr) (w : World) : (Instr.fieldAt 39 (.pointer (some a)) 0).run Tryz.prog w = .ok (.pointer (some (a.add 0))) w := by simp [Instr.fieldAt, run_underlying Tryz.underlying39, Instr.sureAddr, fieldPlace, Result.andThen]
theorem part_FaultDamage_1 : SubS (α := FaultDamage) 1 FaultDamage.Pick (fun x y => { x with Pick := y }) := SubS.of (SubS.comp SubS.snd SubS.fst rfl) (fun _ => rfl) (fun _ _ => rfl)
theorem at_39_1 (a : Addr) (w : World) : (Instr.fieldAt 39 (.pointer (some a)) 1).run Tryz.prog w = .ok (.pointer (some (a.add 1))) w := by simp [Instr.fieldAt, run_underlying Tryz.underlying39, Instr.sureAddr, fieldPlace, Result.andThen]
theorem part_FaultDamage_2 : SubS (α := FaultDamage) 2 FaultDamage.Hook (fun x y => { x with Hook := y }) := SubS.of (SubS.comp SubS.snd (SubS.comp SubS.snd SubS.fst rfl) rfl) (fun _ => rfl) (fun _ _ => rfl)
theorem at_39_2 (a : Addr) (w : World) : (Instr.fieldAt 39 (.pointer (some a)) 2).run Tryz.prog w = .ok (.pointer (some (a.add 2))) w := by simp [Instr.fieldAt, run_underlying Tryz.underlying39, Instr.sureAddr, fieldPlace, Result.andThen]
theorem part_FaultDamage_3 : SubS (α := FaultDamage) 3 FaultDamage.Warp (fun x y => { x with Warp := y }) := SubS.of (SubS.comp SubS.snd (SubS.comp SubS.snd (SubS.comp SubS.snd SubS.fst rfl) rfl) rfl) (fun _ => rfl) (fun _ _ => rfl)
theorem at_39_3 (a : Addr) (w : World) : (Instr.fieldAt 39 (.pointer (some a)) 3).run Tryz.prog w = .ok (.pointer (some (a.add 3))) w := by simp [Instr.fieldAt, run_underlying Tryz.underlying39, Instr.sureAddr, fieldPlace, Result.andThen]
theorem part_FaultDamage_4 : SubS (α := FaultDamage) 4 FaultDamage.Up (fun x y => { x with Up := y }) := SubS.of (SubS.comp SubS.snd (SubS.comp SubS.snd (SubS.comp SubS.snd (SubS.comp SubS.snd SubS.id_ rfl) rfl) rfl) rfl) (fun _ => rfl) (fun _ _ => rfl)
theorem at_39_4 (a : Addr) (w : World) : (Instr.fieldAt 39 (.pointer (some a)) 4).run Tryz.prog w = .ok (.pointer (some (a.add 4))) w := by simp [Instr.fieldAt, run_underlying Tryz.underlying39, Instr.sureAddr, fieldPlace, Result.andThen]
structure PayPiece where
 Weaver : Int
 Dense : Int
 Picks : Int
 Extras : List Int
 Faults : Int
 deriving DecidableEq, Inhabited
instance : GoT PayPiece := GoT.struct PayPiece (β := Int × Int × Int × (List Int) × Int) (fun x => (x.Weaver, x.Dense, x.Picks, x.Extras, x.Faults))
theorem part_PayPiece_0 : SubS (α := PayPiece) 0 PayPiece.Weaver (fun x y => { x with Weaver := y }) := SubS.of SubS.fst (fun _ => rfl) (fun _ _ => rfl)
theorem at_53_0 (a : Addr) (w : World) : (Instr.fieldAt 53 (.pointer (some a)) 0).run Tryz.prog w = .ok (.pointer (some (a.add 0))) w := by simp [Instr.fieldAt, run_underlying Tryz.underlying53, Instr.sureAddr, fieldPlace, Result.andThen]
theorem part_PayPiece_1 : SubS (α := PayPiece) 1 PayPiece.Dense (fun x y => { x with Dense := y }) := SubS.of (SubS.comp SubS.snd SubS.fst rfl) (fun _ => rfl) (fun _ _ => rfl)
theorem at_53_1 (a : Addr) (w : World) : (Instr.fieldAt 53 (.pointer (some a)) 1).run Tryz.prog w = .ok (.pointer (some (a.add 1))) w := by simp [Instr.fieldAt, run_underlying Tryz.underlying53, Instr.sureAddr, fieldPlace, Result.andThen]
theorem part_PayPiece_2 : SubS (α := PayPiece) 2 PayPiece.Picks (fun x y => { x with Picks := y }) := SubS.of (SubS.comp SubS.snd (SubS.comp SubS.snd SubS.fst rfl) rfl) (fun _ => rfl) (fun _ _ => rfl)
theorem at_53_2 (a : Addr) (w : World) : (Instr.fieldAt 53 (.pointer (some a)) 2).run Tryz.prog w = .ok (.pointer (some (a.add 2))) w := by simp [Instr.fieldAt, run_underlying Tryz.underlying53, Instr.sureAddr, fieldPlace, Result.andThen]
theorem part_PayPiece_3 : SubS (α := PayPiece) 3 PayPiece.Extras (fun x y => { x with Extras := y }) := SubS.of (SubS.comp SubS.snd (SubS.comp SubS.snd (SubS.comp SubS.snd SubS.fst rfl) rfl) rfl) (fun _ => rfl) (fun _ _ => rfl)
theorem at_53_3 (a : Addr) (w : World) : (Instr.fieldAt 53 (.pointer (some a)) 3).run Tryz.prog w = .ok (.pointer (some (a.add 3))) w := by simp [Instr.fieldAt, run_underlying Tryz.underlying53, Instr.sureAddr, fieldPlace, Result.andThen]
theorem part_PayPiece_4 : SubS (α := PayPiece) 4 PayPiece.Faults (fun x y => { x with Faults := y }) := SubS.of (SubS.comp SubS.snd (SubS.comp SubS.snd (SubS.comp SubS.snd (SubS.comp SubS.snd SubS.id_ rfl) rfl) rfl) rfl) (fun _ => rfl) (fun _ _ => rfl)
theorem at_53_4 (a : Addr) (w : World) : (Instr.fieldAt 53 (.pointer (some a)) 4).run Tryz.prog w = .ok (.pointer (some (a.add 4))) w := by simp [Instr.fieldAt, run_underlying Tryz.underlying53, Instr.sureAddr, fieldPlace, Result.andThen]
structure LoomMill where
 Widths : List Int
 Change : Int
 deriving DecidableEq, Inhabited
instance : GoT LoomMill := GoT.struct LoomMill (β := (List Int) × Int) (fun x => (x.Widths, x.Change))
structure LoomRun where
 Order : Int
 Loom : Int
 From : Int
 deriving DecidableEq, Inhabited
instance : GoT LoomRun := GoT.struct LoomRun (β := Int × Int × Int) (fun x => (x.Order, x.Loom, x.From))
structure LoomOrder where
 Width : Int
 Chain : Int
 Woven : Int
 Early : Int
 Late : Int
 deriving DecidableEq, Inhabited
instance : GoT LoomOrder := GoT.struct LoomOrder (β := Int × Int × Int × Int × Int) (fun x => (x.Width, x.Chain, x.Woven, x.Early, x.Late))
structure FaultFaultLoom where
 FaultLoom : FaultLoom
 deriving DecidableEq, Inhabited
instance : GoT FaultFaultLoom := GoT.struct FaultFaultLoom (β := FaultLoom) (fun x => x.FaultLoom)
theorem part_FaultFaultLoom_0 : SubS (α := FaultFaultLoom) 0 FaultFaultLoom.FaultLoom (fun x y => { x with FaultLoom := y }) := SubS.of SubS.id_ (fun _ => rfl) (fun _ _ => rfl)
theorem at_86_0 (a : Addr) (w : World) : (Instr.fieldAt 86 (.pointer (some a)) 0).run Tryz.prog w = .ok (.pointer (some (a.add 0))) w := by simp [Instr.fieldAt, run_underlying Tryz.underlying86, Instr.sureAddr, fieldPlace, Result.andThen]
structure FaultSight where
 Pick : Int
 Warp : Int
 Lifted : Bool
 deriving DecidableEq, Inhabited
instance : GoT FaultSight := GoT.struct FaultSight (β := Int × Int × Bool) (fun x => (x.Pick, x.Warp, x.Lifted))
structure PayPayList where
 PayList : PayList
 deriving DecidableEq, Inhabited
instance : GoT PayPayList := GoT.struct PayPayList (β := PayList) (fun x => x.PayList)
theorem part_PayPayList_0 : SubS (α := PayPayList) 0 PayPayList.PayList (fun x y => { x with PayList := y }) := SubS.of SubS.id_ (fun _ => rfl) (fun _ _ => rfl)
theorem at_96_0 (a : Addr) (w : World) : (Instr.fieldAt 96 (.pointer (some a)) 0).run Tryz.prog w = .ok (.pointer (some (a.add 0))) w := by simp [Instr.fieldAt, run_underlying Tryz.underlying96, Instr.sureAddr, fieldPlace, Result.andThen]
structure PayEntry where
 Kind : Int
 Row : Int
 Column : Int
 Number : Int
 deriving DecidableEq, Inhabited
instance : GoT PayEntry := GoT.struct PayEntry (β := Int × Int × Int × Int) (fun x => (x.Kind, x.Row, x.Column, x.Number))
theorem part_PayEntry_3 : SubS (α := PayEntry) 3 PayEntry.Number (fun x y => { x with Number := y }) := SubS.of (SubS.comp SubS.snd (SubS.comp SubS.snd (SubS.comp SubS.snd SubS.id_ rfl) rfl) rfl) (fun _ => rfl) (fun _ _ => rfl)
theorem at_107_3 (a : Addr) (w : World) : (Instr.fieldAt 107 (.pointer (some a)) 3).run Tryz.prog w = .ok (.pointer (some (a.add 3))) w := by simp [Instr.fieldAt, run_underlying Tryz.underlying107, Instr.sureAddr, fieldPlace, Result.andThen]
structure PayTable where
 Rows : List (List Int)
 Across : List Int
 Down : List Int
 Total : Int
 deriving DecidableEq, Inhabited
instance : GoT PayTable := GoT.struct PayTable (β := (List (List Int)) × (List Int) × (List Int) × Int) (fun x => (x.Rows, x.Across, x.Down, x.Total))
theorem part_PayTable_0 : SubS (α := PayTable) 0 PayTable.Rows (fun x y => { x with Rows := y }) := SubS.of SubS.fst (fun _ => rfl) (fun _ _ => rfl)
theorem at_112_0 (a : Addr) (w : World) : (Instr.fieldAt 112 (.pointer (some a)) 0).run Tryz.prog w = .ok (.pointer (some (a.add 0))) w := by simp [Instr.fieldAt, run_underlying Tryz.underlying112, Instr.sureAddr, fieldPlace, Result.andThen]
theorem part_PayTable_1 : SubS (α := PayTable) 1 PayTable.Across (fun x y => { x with Across := y }) := SubS.of (SubS.comp SubS.snd SubS.fst rfl) (fun _ => rfl) (fun _ _ => rfl)
theorem at_112_1 (a : Addr) (w : World) : (Instr.fieldAt 112 (.pointer (some a)) 1).run Tryz.prog w = .ok (.pointer (some (a.add 1))) w := by simp [Instr.fieldAt, run_underlying Tryz.underlying112, Instr.sureAddr, fieldPlace, Result.andThen]
theorem part_PayTable_2 : SubS (α := PayTable) 2 PayTable.Down (fun x y => { x with Down := y }) := SubS.of (SubS.comp SubS.snd (SubS.comp SubS.snd SubS.fst rfl) rfl) (fun _ => rfl) (fun _ _ => rfl)
theorem at_112_2 (a : Addr) (w : World) : (Instr.fieldAt 112 (.pointer (some a)) 2).run Tryz.prog w = .ok (.pointer (some (a.add 2))) w := by simp [Instr.fieldAt, run_underlying Tryz.underlying112, Instr.sureAddr, fieldPlace, Result.andThen]
theorem part_PayTable_3 : SubS (α := PayTable) 3 PayTable.Total (fun x y => { x with Total := y }) := SubS.of (SubS.comp SubS.snd (SubS.comp SubS.snd (SubS.comp SubS.snd SubS.id_ rfl) rfl) rfl) (fun _ => rfl) (fun _ _ => rfl)
theorem at_112_3 (a : Addr) (w : World) : (Instr.fieldAt 112 (.pointer (some a)) 3).run Tryz.prog w = .ok (.pointer (some (a.add 3))) w := by simp [Instr.fieldAt, run_underlying Tryz.underlying112, Instr.sureAddr, fieldPlace, Result.andThen]
structure LoomLoomMill where
 LoomMill : LoomMill
 orders : List LoomOrder
 deriving DecidableEq, Inhabited
instance : GoT LoomLoomMill := GoT.struct LoomLoomMill (β := LoomMill × (List LoomOrder)) (fun x => (x.LoomMill, x.orders))
structure PaySheet where
 PayTable : PayTable
 deriving DecidableEq, Inhabited
instance : GoT PaySheet := GoT.struct PaySheet (β := PayTable) (fun x => x.PayTable)
theorem part_PaySheet_0 : SubS (α := PaySheet) 0 PaySheet.PayTable (fun x y => { x with PayTable := y }) := SubS.of SubS.id_ (fun _ => rfl) (fun _ _ => rfl)
theorem at_147_0 (a : Addr) (w : World) : (Instr.fieldAt 147 (.pointer (some a)) 0).run Tryz.prog w = .ok (.pointer (some (a.add 0))) w := by simp [Instr.fieldAt, run_underlying Tryz.underlying147, Instr.sureAddr, fieldPlace, Result.andThen]
structure TieTieHarness where
 TieHarness : TieHarness
 deriving DecidableEq, Inhabited
instance : GoT TieTieHarness := GoT.struct TieTieHarness (β := TieHarness) (fun x => x.TieHarness)
theorem part_TieTieHarness_0 : SubS (α := TieTieHarness) 0 TieTieHarness.TieHarness (fun x y => { x with TieHarness := y }) := SubS.of SubS.id_ (fun _ => rfl) (fun _ _ => rfl)
theorem at_202_0 (a : Addr) (w : World) : (Instr.fieldAt 202 (.pointer (some a)) 0).run Tryz.prog w = .ok (.pointer (some (a.add 0))) w := by simp [Instr.fieldAt, run_underlying Tryz.underlying202, Instr.sureAddr, fieldPlace, Result.andThen]
structure PayPlace where
 row : Int
 column : Int
 deriving DecidableEq, Inhabited
instance : GoT PayPlace := GoT.struct PayPlace (β := Int × Int) (fun x => (x.row, x.column))
end Go.Proofs.YtcjpochjapnoaaaGreat
