/- The types of this seat, as data: structures, how they lie in memory, their parts. Printed by gtypes.py. -/
import Derived.Test.YtjoniingnbmljaaCp
import Derived.Test.YtjoniingnbmljaaProg
namespace Go.Proofs.Ytjoniingnbmljaa
open Go.RowKit
theorem SubS.of {α β γ : Type} [GoT β] [GoT γ] {to : α → β} {off : Nat} {f : α → γ} {st : α → γ → α} {f' : β → γ} {s' : β → γ → β} (h : SubS off f' s') (h1 : ∀ x, f' (to x) = f x) (h2 : ∀ x y, to (st x y) = s' (to x) y) : @SubS α γ (GoT.struct α to) _ off f st := by
 refine ⟨⟨h.1.1, fun m w x cs hr => ?_⟩, fun m w x y cs cy hr hy => ?_⟩
 ·rw [← h1]; exact h.1.2 m w (to x) cs hr
 ·show GoT.rep m w (to (st x y)) _; rw [h2]; exact h.2 m w (to x) y cs cy hr hy
structure Loom where
 Hooks : UInt8
 Warps : List UInt8
 Rows : List UInt16
 Cards : List UInt8
 deriving DecidableEq, Inhabited
instance : GoT Loom := GoT.struct Loom (β := UInt8 × (List UInt8) × (List UInt16) × (List UInt8)) (fun x => (x.Hooks, x.Warps, x.Rows, x.Cards))
theorem part_Loom_0 : SubS (α := Loom) 0 Loom.Hooks (fun x y => { x with Hooks := y }) := SubS.of SubS.fst (fun _ => rfl) (fun _ _ => rfl)
theorem at_25_0 (a : Addr) (w : World) : (Instr.fieldAt 25 (.pointer (some a)) 0).run Try.prog w = .ok (.pointer (some (a.add 0))) w := by simp [Instr.fieldAt, run_underlying Try.underlying25, Instr.sureAddr, fieldPlace, Result.andThen]
theorem part_Loom_1 : SubS (α := Loom) 1 Loom.Warps (fun x y => { x with Warps := y }) := SubS.of (SubS.comp SubS.snd SubS.fst rfl) (fun _ => rfl) (fun _ _ => rfl)
theorem at_25_1 (a : Addr) (w : World) : (Instr.fieldAt 25 (.pointer (some a)) 1).run Try.prog w = .ok (.pointer (some (a.add 1))) w := by simp [Instr.fieldAt, run_underlying Try.underlying25, Instr.sureAddr, fieldPlace, Result.andThen]
theorem part_Loom_2 : SubS (α := Loom) 2 Loom.Rows (fun x y => { x with Rows := y }) := SubS.of (SubS.comp SubS.snd (SubS.comp SubS.snd SubS.fst rfl) rfl) (fun _ => rfl) (fun _ _ => rfl)
theorem at_25_2 (a : Addr) (w : World) : (Instr.fieldAt 25 (.pointer (some a)) 2).run Try.prog w = .ok (.pointer (some (a.add 2))) w := by simp [Instr.fieldAt, run_underlying Try.underlying25, Instr.sureAddr, fieldPlace, Result.andThen]
theorem part_Loom_3 : SubS (α := Loom) 3 Loom.Cards (fun x y => { x with Cards := y }) := SubS.of (SubS.comp SubS.snd (SubS.comp SubS.snd (SubS.comp SubS.snd SubS.id_ rfl) rfl) rfl) (fun _ => rfl) (fun _ _ => rfl)
theorem at_25_3 (a : Addr) (w : World) : (Instr.fieldAt 25 (.pointer (some a)) 3).run Try.prog w = .ok (.pointer (some (a.add 3))) w := by simp [Instr.fieldAt, run_underlying Try.underlying25, Instr.sureAddr, fieldPlace, Result.andThen]
structure TieHarness where
 Hooks : Int
 Warps : List Int
 deriving DecidableEq, Inhabited
instance : GoT TieHarness := GoT.struct TieHarness (β := Int × (List Int)) (fun x => (x.Hooks, x.Warps))
theorem part_TieHarness_0 : SubS (α := TieHarness) 0 TieHarness.Hooks (fun x y => { x with Hooks := y }) := SubS.of SubS.fst (fun _ => rfl) (fun _ _ => rfl)
theorem at_28_0 (a : Addr) (w : World) : (Instr.fieldAt 28 (.pointer (some a)) 0).run Try.prog w = .ok (.pointer (some (a.add 0))) w := by simp [Instr.fieldAt, run_underlying Try.underlying28, Instr.sureAddr, fieldPlace, Result.andThen]
theorem part_TieHarness_1 : SubS (α := TieHarness) 1 TieHarness.Warps (fun x y => { x with Warps := y }) := SubS.of (SubS.comp SubS.snd SubS.id_ rfl) (fun _ => rfl) (fun _ _ => rfl)
theorem at_28_1 (a : Addr) (w : World) : (Instr.fieldAt 28 (.pointer (some a)) 1).run Try.prog w = .ok (.pointer (some (a.add 1))) w := by simp [Instr.fieldAt, run_underlying Try.underlying28, Instr.sureAddr, fieldPlace, Result.andThen]
structure Design where
 Hooks : Int
 Rows : List Int
 deriving DecidableEq, Inhabited
instance : GoT Design := GoT.struct Design (β := Int × (List Int)) (fun x => (x.Hooks, x.Rows))
theorem part_Design_0 : SubS (α := Design) 0 Design.Hooks (fun x y => { x with Hooks := y }) := SubS.of SubS.fst (fun _ => rfl) (fun _ _ => rfl)
theorem at_30_0 (a : Addr) (w : World) : (Instr.fieldAt 30 (.pointer (some a)) 0).run Try.prog w = .ok (.pointer (some (a.add 0))) w := by simp [Instr.fieldAt, run_underlying Try.underlying30, Instr.sureAddr, fieldPlace, Result.andThen]
theorem part_Design_1 : SubS (α := Design) 1 Design.Rows (fun x y => { x with Rows := y }) := SubS.of (SubS.comp SubS.snd SubS.id_ rfl) (fun _ => rfl) (fun _ _ => rfl)
theorem at_30_1 (a : Addr) (w : World) : (Instr.fieldAt 30 (.pointer (some a)) 1).run Try.prog w = .ok (.pointer (some (a.add 1))) w := by simp [Instr.fieldAt, run_underlying Try.underlying30, Instr.sureAddr, fieldPlace, Result.andThen]
structure FaultLoom where
 Harness : TieHarness
 Design : Design
 deriving DecidableEq, Inhabited
instance : GoT FaultLoom := GoT.struct FaultLoom (β := TieHarness × Design) (fun x => (x.Harness, x.Design))
structure Span where
 Low : Int
 High : Int
 deriving DecidableEq, Inhabited
instance : GoT Span := GoT.struct Span (β := Int × Int) (fun x => (x.Low, x.High))
structure BoxShuttle where
 Colour : Int
 Side : Int
 Box : Int
 Yarn : Span
 deriving DecidableEq, Inhabited
instance : GoT BoxShuttle := GoT.struct BoxShuttle (β := Int × Int × Int × Span) (fun x => (x.Colour, x.Side, x.Box, x.Yarn))
structure BoxLoom where
 Boxes : List Int
 At : List Int
 Shuttles : List BoxShuttle
 deriving DecidableEq, Inhabited
instance : GoT BoxLoom := GoT.struct BoxLoom (β := (List Int) × (List Int) × (List BoxShuttle)) (fun x => (x.Boxes, x.At, x.Shuttles))
structure FaultDamage where
 Kind : Int
 Pick : Int
 Hook : Int
 Warp : Int
 Up : Bool
 deriving DecidableEq, Inhabited
instance : GoT FaultDamage := GoT.struct FaultDamage (β := Int × Int × Int × Int × Bool) (fun x => (x.Kind, x.Pick, x.Hook, x.Warp, x.Up))
structure Race where
 Boxes : Vector UInt8 2
 Shuttles : Vector (Vector UInt8 2) 3
 deriving DecidableEq
instance : GoT Race := GoT.struct Race (β := (Vector UInt8 2) × (Vector (Vector UInt8 2) 3)) (fun x => (x.Boxes, x.Shuttles))
structure BeamPair where
 Driver : Int
 Driven : Int
 deriving DecidableEq, Inhabited
instance : GoT BeamPair := GoT.struct BeamPair (β := Int × Int) (fun x => (x.Driver, x.Driven))
structure BeamTake where
 Ratchet : Int
 Step : Int
 Pairs : List BeamPair
 Round : Int
 deriving DecidableEq, Inhabited
instance : GoT BeamTake := GoT.struct BeamTake (β := Int × Int × (List BeamPair) × Int) (fun x => (x.Ratchet, x.Step, x.Pairs, x.Round))
structure FaultSight where
 Pick : Int
 Warp : Int
 Lifted : Bool
 deriving DecidableEq, Inhabited
instance : GoT FaultSight := GoT.struct FaultSight (β := Int × Int × Bool) (fun x => (x.Pick, x.Warp, x.Lifted))
structure PointLongest where
 WeftFace : Int
 WeftBack : Int
 WarpFace : Int
 WarpBack : Int
 deriving DecidableEq, Inhabited
instance : GoT PointLongest := GoT.struct PointLongest (β := Int × Int × Int × Int) (fun x => (x.WeftFace, x.WeftBack, x.WarpFace, x.WarpBack))
structure PointFloat where
 Pick : Int
 Hook : Int
 Length : Int
 Lifted : Bool
 deriving DecidableEq, Inhabited
instance : GoT PointFloat := GoT.struct PointFloat (β := Int × Int × Int × Bool) (fun x => (x.Pick, x.Hook, x.Length, x.Lifted))
structure ChainCard where
 Number : Int
 Row : Int
 Turned : Bool
 deriving DecidableEq, Inhabited
instance : GoT ChainCard := GoT.struct ChainCard (β := Int × Int × Bool) (fun x => (x.Number, x.Row, x.Turned))
theorem part_ChainCard_0 : SubS (α := ChainCard) 0 ChainCard.Number (fun x y => { x with Number := y }) := SubS.of SubS.fst (fun _ => rfl) (fun _ _ => rfl)
theorem at_137_0 (a : Addr) (w : World) : (Instr.fieldAt 137 (.pointer (some a)) 0).run Try.prog w = .ok (.pointer (some (a.add 0))) w := by simp [Instr.fieldAt, run_underlying Try.underlying137, Instr.sureAddr, fieldPlace, Result.andThen]
theorem part_ChainCard_1 : SubS (α := ChainCard) 1 ChainCard.Row (fun x y => { x with Row := y }) := SubS.of (SubS.comp SubS.snd SubS.fst rfl) (fun _ => rfl) (fun _ _ => rfl)
theorem at_137_1 (a : Addr) (w : World) : (Instr.fieldAt 137 (.pointer (some a)) 1).run Try.prog w = .ok (.pointer (some (a.add 1))) w := by simp [Instr.fieldAt, run_underlying Try.underlying137, Instr.sureAddr, fieldPlace, Result.andThen]
theorem part_ChainCard_2 : SubS (α := ChainCard) 2 ChainCard.Turned (fun x y => { x with Turned := y }) := SubS.of (SubS.comp SubS.snd (SubS.comp SubS.snd SubS.id_ rfl) rfl) (fun _ => rfl) (fun _ _ => rfl)
theorem at_137_2 (a : Addr) (w : World) : (Instr.fieldAt 137 (.pointer (some a)) 2).run Try.prog w = .ok (.pointer (some (a.add 2))) w := by simp [Instr.fieldAt, run_underlying Try.underlying137, Instr.sureAddr, fieldPlace, Result.andThen]
structure ChainBelt where
 Hooks : Int
 Cards : List ChainCard
 deriving DecidableEq, Inhabited
instance : GoT ChainBelt := GoT.struct ChainBelt (β := Int × (List ChainCard)) (fun x => (x.Hooks, x.Cards))
theorem part_ChainBelt_0 : SubS (α := ChainBelt) 0 ChainBelt.Hooks (fun x y => { x with Hooks := y }) := SubS.of SubS.fst (fun _ => rfl) (fun _ _ => rfl)
theorem at_110_0 (a : Addr) (w : World) : (Instr.fieldAt 110 (.pointer (some a)) 0).run Try.prog w = .ok (.pointer (some (a.add 0))) w := by simp [Instr.fieldAt, run_underlying Try.underlying110, Instr.sureAddr, fieldPlace, Result.andThen]
theorem part_ChainBelt_1 : SubS (α := ChainBelt) 1 ChainBelt.Cards (fun x y => { x with Cards := y }) := SubS.of (SubS.comp SubS.snd SubS.id_ rfl) (fun _ => rfl) (fun _ _ => rfl)
theorem at_110_1 (a : Addr) (w : World) : (Instr.fieldAt 110 (.pointer (some a)) 1).run Try.prog w = .ok (.pointer (some (a.add 1))) w := by simp [Instr.fieldAt, run_underlying Try.underlying110, Instr.sureAddr, fieldPlace, Result.andThen]
structure PayRate where
 From : Int
 Rate : Int
 deriving DecidableEq, Inhabited
instance : GoT PayRate := GoT.struct PayRate (β := Int × Int) (fun x => (x.From, x.Rate))
structure PayList where
 Rates : List PayRate
 Extras : List Int
 Fine : Int
 Cap : Int
 deriving DecidableEq, Inhabited
instance : GoT PayList := GoT.struct PayList (β := (List PayRate) × (List Int) × Int × Int) (fun x => (x.Rates, x.Extras, x.Fine, x.Cap))
structure PayPiece where
 Weaver : Int
 Dense : Int
 Picks : Int
 Extras : List Int
 Faults : Int
 deriving DecidableEq, Inhabited
instance : GoT PayPiece := GoT.struct PayPiece (β := Int × Int × Int × (List Int) × Int) (fun x => (x.Weaver, x.Dense, x.Picks, x.Extras, x.Faults))
structure BoxBoxLoom where
 BoxLoom : BoxLoom
 deriving DecidableEq, Inhabited
instance : GoT BoxBoxLoom := GoT.struct BoxBoxLoom (β := BoxLoom) (fun x => x.BoxLoom)
structure BoxPick where
 Left : Int
 Right : Int
 deriving DecidableEq, Inhabited
instance : GoT BoxPick := GoT.struct BoxPick (β := Int × Int) (fun x => (x.Left, x.Right))
structure BoxRace where
 boxes : Vector (Vector Int 4) 2
 at_ : BoxPick
 deriving DecidableEq
instance : GoT BoxRace := GoT.struct BoxRace (β := (Vector (Vector Int 4) 2) × BoxPick) (fun x => (x.boxes, x.at_))
structure BoxPoint where
 group : Int
 done : Int
 race : BoxRace
 deriving DecidableEq
instance : GoT BoxPoint := GoT.struct BoxPoint (β := Int × Int × BoxRace) (fun x => (x.group, x.done, x.race))
structure BoxRun where
 thrown : List Int
 last : BoxRace
 moves : Int
 deriving DecidableEq
instance : GoT BoxRun := GoT.struct BoxRun (β := (List Int) × BoxRace × Int) (fun x => (x.thrown, x.last, x.moves))
structure FaultFaultLoom where
 FaultLoom : FaultLoom
 deriving DecidableEq, Inhabited
instance : GoT FaultFaultLoom := GoT.struct FaultFaultLoom (β := FaultLoom) (fun x => x.FaultLoom)
structure Ratio where
 Num : Int
 Den : Int
 deriving DecidableEq, Inhabited
instance : GoT Ratio := GoT.struct Ratio (β := Int × Int) (fun x => (x.Num, x.Den))
structure BeamRatio where
 Ratio : Ratio
 deriving DecidableEq, Inhabited
instance : GoT BeamRatio := GoT.struct BeamRatio (β := Ratio) (fun x => x.Ratio)
structure BeamWarp where
 Length : Span
 Stretch : Span
 Crimp : Span
 Waste : Span
 deriving DecidableEq, Inhabited
instance : GoT BeamWarp := GoT.struct BeamWarp (β := Span × Span × Span × Span) (fun x => (x.Length, x.Stretch, x.Crimp, x.Waste))
structure EyeBoard where
 TieHarness : TieHarness
 drawing : List Int
 deriving DecidableEq, Inhabited
instance : GoT EyeBoard := GoT.struct EyeBoard (β := TieHarness × (List Int)) (fun x => (x.TieHarness, x.drawing))
structure PointPaper where
 Design : Design
 deriving DecidableEq, Inhabited
instance : GoT PointPaper := GoT.struct PointPaper (β := Design) (fun x => x.Design)
structure TieTieHarness where
 TieHarness : TieHarness
 deriving DecidableEq, Inhabited
instance : GoT TieTieHarness := GoT.struct TieTieHarness (β := TieHarness) (fun x => x.TieHarness)
theorem part_TieTieHarness_0 : SubS (α := TieTieHarness) 0 TieTieHarness.TieHarness (fun x y => { x with TieHarness := y }) := SubS.of SubS.id_ (fun _ => rfl) (fun _ _ => rfl)
theorem at_221_0 (a : Addr) (w : World) : (Instr.fieldAt 221 (.pointer (some a)) 0).run Try.prog w = .ok (.pointer (some (a.add 0))) w := by simp [Instr.fieldAt, run_underlying Try.underlying221, Instr.sureAddr, fieldPlace, Result.andThen]
structure TieGroup where
 First : Int
 Last : Int
 Way : Int
 Times : Int
 deriving DecidableEq, Inhabited
instance : GoT TieGroup := GoT.struct TieGroup (β := Int × Int × Int × Int) (fun x => (x.First, x.Last, x.Way, x.Times))
theorem part_TieGroup_0 : SubS (α := TieGroup) 0 TieGroup.First (fun x y => { x with First := y }) := SubS.of SubS.fst (fun _ => rfl) (fun _ _ => rfl)
theorem at_229_0 (a : Addr) (w : World) : (Instr.fieldAt 229 (.pointer (some a)) 0).run Try.prog w = .ok (.pointer (some (a.add 0))) w := by simp [Instr.fieldAt, run_underlying Try.underlying229, Instr.sureAddr, fieldPlace, Result.andThen]
theorem part_TieGroup_1 : SubS (α := TieGroup) 1 TieGroup.Last (fun x y => { x with Last := y }) := SubS.of (SubS.comp SubS.snd SubS.fst rfl) (fun _ => rfl) (fun _ _ => rfl)
theorem at_229_1 (a : Addr) (w : World) : (Instr.fieldAt 229 (.pointer (some a)) 1).run Try.prog w = .ok (.pointer (some (a.add 1))) w := by simp [Instr.fieldAt, run_underlying Try.underlying229, Instr.sureAddr, fieldPlace, Result.andThen]
theorem part_TieGroup_2 : SubS (α := TieGroup) 2 TieGroup.Way (fun x y => { x with Way := y }) := SubS.of (SubS.comp SubS.snd (SubS.comp SubS.snd SubS.fst rfl) rfl) (fun _ => rfl) (fun _ _ => rfl)
theorem at_229_2 (a : Addr) (w : World) : (Instr.fieldAt 229 (.pointer (some a)) 2).run Try.prog w = .ok (.pointer (some (a.add 2))) w := by simp [Instr.fieldAt, run_underlying Try.underlying229, Instr.sureAddr, fieldPlace, Result.andThen]
theorem part_TieGroup_3 : SubS (α := TieGroup) 3 TieGroup.Times (fun x y => { x with Times := y }) := SubS.of (SubS.comp SubS.snd (SubS.comp SubS.snd (SubS.comp SubS.snd SubS.id_ rfl) rfl) rfl) (fun _ => rfl) (fun _ _ => rfl)
theorem at_229_3 (a : Addr) (w : World) : (Instr.fieldAt 229 (.pointer (some a)) 3).run Try.prog w = .ok (.pointer (some (a.add 3))) w := by simp [Instr.fieldAt, run_underlying Try.underlying229, Instr.sureAddr, fieldPlace, Result.andThen]
structure ChainChainBelt where
 ChainBelt : ChainBelt
 frame : Int
 deriving DecidableEq, Inhabited
instance : GoT ChainChainBelt := GoT.struct ChainChainBelt (β := ChainBelt × Int) (fun x => (x.ChainBelt, x.frame))
theorem part_ChainChainBelt_0 : SubS (α := ChainChainBelt) 0 ChainChainBelt.ChainBelt (fun x y => { x with ChainBelt := y }) := SubS.of SubS.fst (fun _ => rfl) (fun _ _ => rfl)
theorem at_236_0 (a : Addr) (w : World) : (Instr.fieldAt 236 (.pointer (some a)) 0).run Try.prog w = .ok (.pointer (some (a.add 0))) w := by simp [Instr.fieldAt, run_underlying Try.underlying236, Instr.sureAddr, fieldPlace, Result.andThen]
theorem part_ChainChainBelt_1 : SubS (α := ChainChainBelt) 2 ChainChainBelt.frame (fun x y => { x with frame := y }) := SubS.of (SubS.comp SubS.snd SubS.id_ rfl) (fun _ => rfl) (fun _ _ => rfl)
theorem at_236_1 (a : Addr) (w : World) : (Instr.fieldAt 236 (.pointer (some a)) 1).run Try.prog w = .ok (.pointer (some (a.add 2))) w := by simp [Instr.fieldAt, run_underlying Try.underlying236, Instr.sureAddr, fieldPlace, Result.andThen]
structure ChainCylinder where
 belt : ChainChainBelt
 cloth : List Int
 deriving DecidableEq, Inhabited
instance : GoT ChainCylinder := GoT.struct ChainCylinder (β := ChainChainBelt × (List Int)) (fun x => (x.belt, x.cloth))
structure PayPayList where
 PayList : PayList
 deriving DecidableEq, Inhabited
instance : GoT PayPayList := GoT.struct PayPayList (β := PayList) (fun x => x.PayList)
structure PayEntry where
 Kind : Int
 Row : Int
 Column : Int
 Number : Int
 deriving DecidableEq, Inhabited
instance : GoT PayEntry := GoT.struct PayEntry (β := Int × Int × Int × Int) (fun x => (x.Kind, x.Row, x.Column, x.Number))
structure PayTable where
 Rows : List (List Int)
 Across : List Int
 Down : List Int
 Total : Int
 deriving DecidableEq, Inhabited
instance : GoT PayTable := GoT.struct PayTable (β := (List (List Int)) × (List Int) × (List Int) × Int) (fun x => (x.Rows, x.Across, x.Down, x.Total))
structure BoxMill where
 left : Int
 right : Int
 known : MapRef
 deriving DecidableEq, Inhabited
instance : GoT BoxMill := GoT.struct BoxMill (β := Int × Int × MapRef) (fun x => (x.left, x.right, x.known))
structure BoxStep where
 next : BoxRace
 colour : Int
 moves : Int
 deriving DecidableEq
instance : GoT BoxStep := GoT.struct BoxStep (β := BoxRace × Int × Int) (fun x => (x.next, x.colour, x.moves))
structure BeamYields where
 stretch : Int
 crimp : Int
 waste : Int
 deriving DecidableEq, Inhabited
instance : GoT BeamYields := GoT.struct BeamYields (β := Int × Int × Int) (fun x => (x.stretch, x.crimp, x.waste))
structure EyeThread where
 warp : Int
 eye : Int
 deriving DecidableEq, Inhabited
instance : GoT EyeThread := GoT.struct EyeThread (β := Int × Int) (fun x => (x.warp, x.eye))
structure PointRun where
 first : Int
 length : Int
 lifted : Bool
 deriving DecidableEq, Inhabited
instance : GoT PointRun := GoT.struct PointRun (β := Int × Int × Bool) (fun x => (x.first, x.length, x.lifted))
structure PointBinder where
 row : Int
 fixed : Int
 hooks : Int
 bound : Int
 top : Bool
 known : MapRef
 deriving DecidableEq, Inhabited
instance : GoT PointBinder := GoT.struct PointBinder (β := Int × Int × Int × Int × Bool × MapRef) (fun x => (x.row, x.fixed, x.hooks, x.bound, x.top, x.known))
structure TieTieGroup where
 TieGroup : TieGroup
 deriving DecidableEq, Inhabited
instance : GoT TieTieGroup := GoT.struct TieTieGroup (β := TieGroup) (fun x => x.TieGroup)
theorem part_TieTieGroup_0 : SubS (α := TieTieGroup) 0 TieTieGroup.TieGroup (fun x y => { x with TieGroup := y }) := SubS.of SubS.id_ (fun _ => rfl) (fun _ _ => rfl)
theorem at_343_0 (a : Addr) (w : World) : (Instr.fieldAt 343 (.pointer (some a)) 0).run Try.prog w = .ok (.pointer (some (a.add 0))) w := by simp [Instr.fieldAt, run_underlying Try.underlying343, Instr.sureAddr, fieldPlace, Result.andThen]
structure ChainState where
 at_ : Int
 faults : Int
 deriving DecidableEq, Inhabited
instance : GoT ChainState := GoT.struct ChainState (β := Int × Int) (fun x => (x.at_, x.faults))
structure PaySheet where
 PayTable : PayTable
 deriving DecidableEq, Inhabited
instance : GoT PaySheet := GoT.struct PaySheet (β := PayTable) (fun x => x.PayTable)
structure PointState where
 left : Int
 length : Int
 first : Int
 lifted : Bool
 deriving DecidableEq, Inhabited
instance : GoT PointState := GoT.struct PointState (β := Int × Int × Int × Bool) (fun x => (x.left, x.length, x.first, x.lifted))
structure PayPlace where
 row : Int
 column : Int
 deriving DecidableEq, Inhabited
instance : GoT PayPlace := GoT.struct PayPlace (β := Int × Int) (fun x => (x.row, x.column))
end Go.Proofs.Ytjoniingnbmljaa
