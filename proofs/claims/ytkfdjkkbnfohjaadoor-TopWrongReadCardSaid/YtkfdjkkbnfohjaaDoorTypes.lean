/- The types of this seat, as data: structures, how they lie in memory, their parts. Printed by gtypes.py. -/
import Derived.Test.YtkfdjkkbnfohjaaDoorCp
import Derived.Test.YtkfdjkkbnfohjaaDoorProg
namespace Go.Proofs.YtkfdjkkbnfohjaaDoor
open Go.RowKit
theorem SubS.of {α β γ : Type} [GoT β] [GoT γ] {to : α → β} {off : Nat} {f : α → γ} {st : α → γ → α} {f' : β → γ} {s' : β → γ → β} (h : SubS off f' s') (h1 : ∀ x, f' (to x) = f x) (h2 : ∀ x y, to (st x y) = s' (to x) y) : @SubS α γ (GoT.struct α to) _ off f st := by
 refine ⟨⟨h.1.1, fun m w x cs hr => ?_⟩, fun m w x y cs cy hr hy => ?_⟩
 ·rw [← h1]; exact h.1.2 m w (to x) cs hr
 ·show GoT.rep m w (to (st x y)) _; rw [h2]; exact h.2 m w (to x) y cs cy hr hy
structure Span where
 Low : Int
 High : Int
 deriving DecidableEq, Inhabited
instance : GoT Span := GoT.struct Span (β := Int × Int) (fun x => (x.Low, x.High))
structure ShadeLot where
 Colour : Int
 Shade : Span
 Grams : Int
 deriving DecidableEq, Inhabited
instance : GoT ShadeLot := GoT.struct ShadeLot (β := Int × Span × Int) (fun x => (x.Colour, x.Shade, x.Grams))
structure ShadeNeed where
 Colour : Int
 Grams : Int
 deriving DecidableEq, Inhabited
instance : GoT ShadeNeed := GoT.struct ShadeNeed (β := Int × Int) (fun x => (x.Colour, x.Grams))
structure ShadeEntry where
 Kind : Int
 Grams : Int
 deriving DecidableEq, Inhabited
instance : GoT ShadeEntry := GoT.struct ShadeEntry (β := Int × Int) (fun x => (x.Kind, x.Grams))
structure Loom where
 Hooks : UInt8
 Warps : List UInt8
 Rows : List UInt16
 Cards : List UInt8
 deriving DecidableEq, Inhabited
instance : GoT Loom := GoT.struct Loom (β := UInt8 × (List UInt8) × (List UInt16) × (List UInt8)) (fun x => (x.Hooks, x.Warps, x.Rows, x.Cards))
theorem part_Loom_0 : SubS (α := Loom) 0 Loom.Hooks (fun x y => { x with Hooks := y }) := SubS.of SubS.fst (fun _ => rfl) (fun _ _ => rfl)
theorem at_50_0 (a : Addr) (w : World) : (Instr.fieldAt 50 (.pointer (some a)) 0).run Tryd.prog w = .ok (.pointer (some (a.add 0))) w := by simp [Instr.fieldAt, run_underlying Tryd.underlying50, Instr.sureAddr, fieldPlace, Result.andThen]
theorem part_Loom_1 : SubS (α := Loom) 1 Loom.Warps (fun x y => { x with Warps := y }) := SubS.of (SubS.comp SubS.snd SubS.fst rfl) (fun _ => rfl) (fun _ _ => rfl)
theorem at_50_1 (a : Addr) (w : World) : (Instr.fieldAt 50 (.pointer (some a)) 1).run Tryd.prog w = .ok (.pointer (some (a.add 1))) w := by simp [Instr.fieldAt, run_underlying Tryd.underlying50, Instr.sureAddr, fieldPlace, Result.andThen]
theorem part_Loom_2 : SubS (α := Loom) 2 Loom.Rows (fun x y => { x with Rows := y }) := SubS.of (SubS.comp SubS.snd (SubS.comp SubS.snd SubS.fst rfl) rfl) (fun _ => rfl) (fun _ _ => rfl)
theorem at_50_2 (a : Addr) (w : World) : (Instr.fieldAt 50 (.pointer (some a)) 2).run Tryd.prog w = .ok (.pointer (some (a.add 2))) w := by simp [Instr.fieldAt, run_underlying Tryd.underlying50, Instr.sureAddr, fieldPlace, Result.andThen]
theorem part_Loom_3 : SubS (α := Loom) 3 Loom.Cards (fun x y => { x with Cards := y }) := SubS.of (SubS.comp SubS.snd (SubS.comp SubS.snd (SubS.comp SubS.snd SubS.id_ rfl) rfl) rfl) (fun _ => rfl) (fun _ _ => rfl)
theorem at_50_3 (a : Addr) (w : World) : (Instr.fieldAt 50 (.pointer (some a)) 3).run Tryd.prog w = .ok (.pointer (some (a.add 3))) w := by simp [Instr.fieldAt, run_underlying Tryd.underlying50, Instr.sureAddr, fieldPlace, Result.andThen]
structure TieHarness where
 Hooks : Int
 Warps : List Int
 deriving DecidableEq, Inhabited
instance : GoT TieHarness := GoT.struct TieHarness (β := Int × (List Int)) (fun x => (x.Hooks, x.Warps))
theorem part_TieHarness_0 : SubS (α := TieHarness) 0 TieHarness.Hooks (fun x y => { x with Hooks := y }) := SubS.of SubS.fst (fun _ => rfl) (fun _ _ => rfl)
theorem at_52_0 (a : Addr) (w : World) : (Instr.fieldAt 52 (.pointer (some a)) 0).run Tryd.prog w = .ok (.pointer (some (a.add 0))) w := by simp [Instr.fieldAt, run_underlying Tryd.underlying52, Instr.sureAddr, fieldPlace, Result.andThen]
theorem part_TieHarness_1 : SubS (α := TieHarness) 1 TieHarness.Warps (fun x y => { x with Warps := y }) := SubS.of (SubS.comp SubS.snd SubS.id_ rfl) (fun _ => rfl) (fun _ _ => rfl)
theorem at_52_1 (a : Addr) (w : World) : (Instr.fieldAt 52 (.pointer (some a)) 1).run Tryd.prog w = .ok (.pointer (some (a.add 1))) w := by simp [Instr.fieldAt, run_underlying Tryd.underlying52, Instr.sureAddr, fieldPlace, Result.andThen]
structure Design where
 Hooks : Int
 Rows : List Int
 deriving DecidableEq, Inhabited
instance : GoT Design := GoT.struct Design (β := Int × (List Int)) (fun x => (x.Hooks, x.Rows))
theorem part_Design_0 : SubS (α := Design) 0 Design.Hooks (fun x y => { x with Hooks := y }) := SubS.of SubS.fst (fun _ => rfl) (fun _ _ => rfl)
theorem at_55_0 (a : Addr) (w : World) : (Instr.fieldAt 55 (.pointer (some a)) 0).run Tryd.prog w = .ok (.pointer (some (a.add 0))) w := by simp [Instr.fieldAt, run_underlying Tryd.underlying55, Instr.sureAddr, fieldPlace, Result.andThen]
theorem part_Design_1 : SubS (α := Design) 1 Design.Rows (fun x y => { x with Rows := y }) := SubS.of (SubS.comp SubS.snd SubS.id_ rfl) (fun _ => rfl) (fun _ _ => rfl)
theorem at_55_1 (a : Addr) (w : World) : (Instr.fieldAt 55 (.pointer (some a)) 1).run Tryd.prog w = .ok (.pointer (some (a.add 1))) w := by simp [Instr.fieldAt, run_underlying Tryd.underlying55, Instr.sureAddr, fieldPlace, Result.andThen]
structure ChainCard where
 Number : Int
 Row : Int
 Turned : Bool
 deriving DecidableEq, Inhabited
instance : GoT ChainCard := GoT.struct ChainCard (β := Int × Int × Bool) (fun x => (x.Number, x.Row, x.Turned))
structure ChainBelt where
 Hooks : Int
 Cards : List ChainCard
 deriving DecidableEq, Inhabited
instance : GoT ChainBelt := GoT.struct ChainBelt (β := Int × (List ChainCard)) (fun x => (x.Hooks, x.Cards))
structure ShadeStore where
 lots : List ShadeLot
 tolerance : Int
 deriving DecidableEq, Inhabited
instance : GoT ShadeStore := GoT.struct ShadeStore (β := (List ShadeLot) × Int) (fun x => (x.lots, x.tolerance))
structure PayRate where
 From : Int
 Rate : Int
 deriving DecidableEq, Inhabited
instance : GoT PayRate := GoT.struct PayRate (β := Int × Int) (fun x => (x.From, x.Rate))
structure PayList where
 Rates : List PayRate
 Extras : List Int
 Fine : Int
 Cap : Int
 deriving DecidableEq, Inhabited
instance : GoT PayList := GoT.struct PayList (β := (List PayRate) × (List Int) × Int × Int) (fun x => (x.Rates, x.Extras, x.Fine, x.Cap))
structure PayPiece where
 Weaver : Int
 Dense : Int
 Picks : Int
 Extras : List Int
 Faults : Int
 deriving DecidableEq, Inhabited
instance : GoT PayPiece := GoT.struct PayPiece (β := Int × Int × Int × (List Int) × Int) (fun x => (x.Weaver, x.Dense, x.Picks, x.Extras, x.Faults))
structure PayEntry where
 Kind : Int
 Row : Int
 Column : Int
 Number : Int
 deriving DecidableEq, Inhabited
instance : GoT PayEntry := GoT.struct PayEntry (β := Int × Int × Int × Int) (fun x => (x.Kind, x.Row, x.Column, x.Number))
structure PayTable where
 Rows : List (List Int)
 Across : List Int
 Down : List Int
 Total : Int
 deriving DecidableEq, Inhabited
instance : GoT PayTable := GoT.struct PayTable (β := (List (List Int)) × (List Int) × (List Int) × Int) (fun x => (x.Rows, x.Across, x.Down, x.Total))
structure ShadeBook where
 grams : Int
 scale : Int
 entries : List ShadeEntry
 deriving DecidableEq, Inhabited
instance : GoT ShadeBook := GoT.struct ShadeBook (β := Int × Int × (List ShadeEntry)) (fun x => (x.grams, x.scale, x.entries))
structure TieTieHarness where
 TieHarness : TieHarness
 deriving DecidableEq, Inhabited
instance : GoT TieTieHarness := GoT.struct TieTieHarness (β := TieHarness) (fun x => x.TieHarness)
theorem part_TieTieHarness_0 : SubS (α := TieTieHarness) 0 TieTieHarness.TieHarness (fun x y => { x with TieHarness := y }) := SubS.of SubS.id_ (fun _ => rfl) (fun _ _ => rfl)
theorem at_129_0 (a : Addr) (w : World) : (Instr.fieldAt 129 (.pointer (some a)) 0).run Tryd.prog w = .ok (.pointer (some (a.add 0))) w := by simp [Instr.fieldAt, run_underlying Tryd.underlying129, Instr.sureAddr, fieldPlace, Result.andThen]
structure ChainChainBelt where
 ChainBelt : ChainBelt
 frame : Int
 deriving DecidableEq, Inhabited
instance : GoT ChainChainBelt := GoT.struct ChainChainBelt (β := ChainBelt × Int) (fun x => (x.ChainBelt, x.frame))
structure TieGroup where
 First : Int
 Last : Int
 Way : Int
 Times : Int
 deriving DecidableEq, Inhabited
instance : GoT TieGroup := GoT.struct TieGroup (β := Int × Int × Int × Int) (fun x => (x.First, x.Last, x.Way, x.Times))
theorem part_TieGroup_0 : SubS (α := TieGroup) 0 TieGroup.First (fun x y => { x with First := y }) := SubS.of SubS.fst (fun _ => rfl) (fun _ _ => rfl)
theorem at_148_0 (a : Addr) (w : World) : (Instr.fieldAt 148 (.pointer (some a)) 0).run Tryd.prog w = .ok (.pointer (some (a.add 0))) w := by simp [Instr.fieldAt, run_underlying Tryd.underlying148, Instr.sureAddr, fieldPlace, Result.andThen]
theorem part_TieGroup_1 : SubS (α := TieGroup) 1 TieGroup.Last (fun x y => { x with Last := y }) := SubS.of (SubS.comp SubS.snd SubS.fst rfl) (fun _ => rfl) (fun _ _ => rfl)
theorem at_148_1 (a : Addr) (w : World) : (Instr.fieldAt 148 (.pointer (some a)) 1).run Tryd.prog w = .ok (.pointer (some (a.add 1))) w := by simp [Instr.fieldAt, run_underlying Tryd.underlying148, Instr.sureAddr, fieldPlace, Result.andThen]
theorem part_TieGroup_2 : SubS (α := TieGroup) 2 TieGroup.Way (fun x y => { x with Way := y }) := SubS.of (SubS.comp SubS.snd (SubS.comp SubS.snd SubS.fst rfl) rfl) (fun _ => rfl) (fun _ _ => rfl)
theorem at_148_2 (a : Addr) (w : World) : (Instr.fieldAt 148 (.pointer (some a)) 2).run Tryd.prog w = .ok (.pointer (some (a.add 2))) w := by simp [Instr.fieldAt, run_underlying Tryd.underlying148, Instr.sureAddr, fieldPlace, Result.andThen]
theorem part_TieGroup_3 : SubS (α := TieGroup) 3 TieGroup.Times (fun x y => { x with Times := y }) := SubS.of (SubS.comp SubS.snd (SubS.comp SubS.snd (SubS.comp SubS.snd SubS.id_ rfl) rfl) rfl) (fun _ => rfl) (fun _ _ => rfl)
theorem at_148_3 (a : Addr) (w : World) : (Instr.fieldAt 148 (.pointer (some a)) 3).run Tryd.prog w = .ok (.pointer (some (a.add 3))) w := by simp [Instr.fieldAt, run_underlying Tryd.underlying148, Instr.sureAddr, fieldPlace, Result.andThen]
structure EyeBoard where
 TieHarness : TieHarness
 drawing : List Int
 deriving DecidableEq, Inhabited
instance : GoT EyeBoard := GoT.struct EyeBoard (β := TieHarness × (List Int)) (fun x => (x.TieHarness, x.drawing))
theorem part_EyeBoard_0 : SubS (α := EyeBoard) 0 EyeBoard.TieHarness (fun x y => { x with TieHarness := y }) := SubS.of SubS.fst (fun _ => rfl) (fun _ _ => rfl)
theorem at_152_0 (a : Addr) (w : World) : (Instr.fieldAt 152 (.pointer (some a)) 0).run Tryd.prog w = .ok (.pointer (some (a.add 0))) w := by simp [Instr.fieldAt, run_underlying Tryd.underlying152, Instr.sureAddr, fieldPlace, Result.andThen]
theorem part_EyeBoard_1 : SubS (α := EyeBoard) 2 EyeBoard.drawing (fun x y => { x with drawing := y }) := SubS.of (SubS.comp SubS.snd SubS.id_ rfl) (fun _ => rfl) (fun _ _ => rfl)
theorem at_152_1 (a : Addr) (w : World) : (Instr.fieldAt 152 (.pointer (some a)) 1).run Tryd.prog w = .ok (.pointer (some (a.add 2))) w := by simp [Instr.fieldAt, run_underlying Tryd.underlying152, Instr.sureAddr, fieldPlace, Result.andThen]
structure EyeFinder where
 TieHarness : TieHarness
 eyes : List Str
 warps : List Str
 deriving DecidableEq, Inhabited
instance : GoT EyeFinder := GoT.struct EyeFinder (β := TieHarness × (List Str) × (List Str)) (fun x => (x.TieHarness, x.eyes, x.warps))
structure PointBinder where
 row : Int
 fixed : Int
 hooks : Int
 bound : Int
 top : Bool
 known : MapRef
 deriving DecidableEq, Inhabited
instance : GoT PointBinder := GoT.struct PointBinder (β := Int × Int × Int × Int × Bool × MapRef) (fun x => (x.row, x.fixed, x.hooks, x.bound, x.top, x.known))
structure PayPayList where
 PayList : PayList
 deriving DecidableEq, Inhabited
instance : GoT PayPayList := GoT.struct PayPayList (β := PayList) (fun x => x.PayList)
structure PaySheet where
 PayTable : PayTable
 deriving DecidableEq, Inhabited
instance : GoT PaySheet := GoT.struct PaySheet (β := PayTable) (fun x => x.PayTable)
structure TieTieGroup where
 TieGroup : TieGroup
 deriving DecidableEq, Inhabited
instance : GoT TieTieGroup := GoT.struct TieTieGroup (β := TieGroup) (fun x => x.TieGroup)
theorem part_TieTieGroup_0 : SubS (α := TieTieGroup) 0 TieTieGroup.TieGroup (fun x y => { x with TieGroup := y }) := SubS.of SubS.id_ (fun _ => rfl) (fun _ _ => rfl)
theorem at_218_0 (a : Addr) (w : World) : (Instr.fieldAt 218 (.pointer (some a)) 0).run Tryd.prog w = .ok (.pointer (some (a.add 0))) w := by simp [Instr.fieldAt, run_underlying Tryd.underlying218, Instr.sureAddr, fieldPlace, Result.andThen]
structure EyeThread where
 warp : Int
 eye : Int
 deriving DecidableEq, Inhabited
instance : GoT EyeThread := GoT.struct EyeThread (β := Int × Int) (fun x => (x.warp, x.eye))
theorem part_EyeThread_0 : SubS (α := EyeThread) 0 EyeThread.warp (fun x y => { x with warp := y }) := SubS.of SubS.fst (fun _ => rfl) (fun _ _ => rfl)
theorem at_231_0 (a : Addr) (w : World) : (Instr.fieldAt 231 (.pointer (some a)) 0).run Tryd.prog w = .ok (.pointer (some (a.add 0))) w := by simp [Instr.fieldAt, run_underlying Tryd.underlying231, Instr.sureAddr, fieldPlace, Result.andThen]
theorem part_EyeThread_1 : SubS (α := EyeThread) 1 EyeThread.eye (fun x y => { x with eye := y }) := SubS.of (SubS.comp SubS.snd SubS.id_ rfl) (fun _ => rfl) (fun _ _ => rfl)
theorem at_231_1 (a : Addr) (w : World) : (Instr.fieldAt 231 (.pointer (some a)) 1).run Tryd.prog w = .ok (.pointer (some (a.add 1))) w := by simp [Instr.fieldAt, run_underlying Tryd.underlying231, Instr.sureAddr, fieldPlace, Result.andThen]
structure PointState where
 left : Int
 length : Int
 first : Int
 lifted : Bool
 deriving DecidableEq, Inhabited
instance : GoT PointState := GoT.struct PointState (β := Int × Int × Int × Bool) (fun x => (x.left, x.length, x.first, x.lifted))
structure PayPlace where
 row : Int
 column : Int
 deriving DecidableEq, Inhabited
instance : GoT PayPlace := GoT.struct PayPlace (β := Int × Int) (fun x => (x.row, x.column))
structure Utf8AcceptRange where
 lo : UInt8
 hi : UInt8
 deriving DecidableEq, Inhabited
instance : GoT Utf8AcceptRange := GoT.struct Utf8AcceptRange (β := UInt8 × UInt8) (fun x => (x.lo, x.hi))
end Go.Proofs.YtkfdjkkbnfohjaaDoor
