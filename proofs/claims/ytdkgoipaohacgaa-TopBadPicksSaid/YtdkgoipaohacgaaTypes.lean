/- The types of this seat, as data: structures, how they lie in memory, their parts. Printed by gtypes.py. -/
import Derived.Test.YtdkgoipaohacgaaShort
import Derived.Test.YtdkgoipaohacgaaProg
namespace Go.Proofs.Ytdkgoipaohacgaa
open Go.RowKit
theorem SubS.of {α β γ : Type} [GoT β] [GoT γ] {to : α → β} {off : Nat} {f : α → γ} {st : α → γ → α} {f' : β → γ} {s' : β → γ → β} (h : SubS off f' s') (h1 : ∀ x, f' (to x) = f x) (h2 : ∀ x y, to (st x y) = s' (to x) y) : @SubS α γ (GoT.struct α to) _ off f st := by
 refine ⟨⟨h.1.1, fun m w x cs hr => ?_⟩, fun m w x y cs cy hr hy => ?_⟩
 ·rw [← h1]; exact h.1.2 m w (to x) cs hr
 ·show GoT.rep m w (to (st x y)) _; rw [h2]; exact h.2 m w (to x) y cs cy hr hy
structure Loom where
 Hooks : UInt8
 Warps : List UInt8
 Rows : List UInt16
 Cards : List UInt8
 deriving DecidableEq, Inhabited
instance : GoT Loom := GoT.struct Loom (β := UInt8 × (List UInt8) × (List UInt16) × (List UInt8)) (fun x => (x.Hooks, x.Warps, x.Rows, x.Cards))
theorem part_Loom_0 : SubS (α := Loom) 0 Loom.Hooks (fun x y => { x with Hooks := y }) := SubS.of SubS.fst (fun _ => rfl) (fun _ _ => rfl)
theorem at_25_0 (a : Addr) (w : World) : (Instr.fieldAt 25 (.pointer (some a)) 0).run Try.prog w = .ok (.pointer (some (a.add 0))) w := by simp [Instr.fieldAt, run_underlying Try.underlying25, Instr.sureAddr, fieldPlace, Result.andThen]
theorem part_Loom_1 : SubS (α := Loom) 1 Loom.Warps (fun x y => { x with Warps := y }) := SubS.of (SubS.comp SubS.snd SubS.fst rfl) (fun _ => rfl) (fun _ _ => rfl)
theorem at_25_1 (a : Addr) (w : World) : (Instr.fieldAt 25 (.pointer (some a)) 1).run Try.prog w = .ok (.pointer (some (a.add 1))) w := by simp [Instr.fieldAt, run_underlying Try.underlying25, Instr.sureAddr, fieldPlace, Result.andThen]
theorem part_Loom_2 : SubS (α := Loom) 2 Loom.Rows (fun x y => { x with Rows := y }) := SubS.of (SubS.comp SubS.snd (SubS.comp SubS.snd SubS.fst rfl) rfl) (fun _ => rfl) (fun _ _ => rfl)
theorem at_25_2 (a : Addr) (w : World) : (Instr.fieldAt 25 (.pointer (some a)) 2).run Try.prog w = .ok (.pointer (some (a.add 2))) w := by simp [Instr.fieldAt, run_underlying Try.underlying25, Instr.sureAddr, fieldPlace, Result.andThen]
structure TieHarness where
 Hooks : Int
 Warps : List Int
 deriving DecidableEq, Inhabited
instance : GoT TieHarness := GoT.struct TieHarness (β := Int × (List Int)) (fun x => (x.Hooks, x.Warps))
theorem part_TieHarness_0 : SubS (α := TieHarness) 0 TieHarness.Hooks (fun x y => { x with Hooks := y }) := SubS.of SubS.fst (fun _ => rfl) (fun _ _ => rfl)
theorem at_28_0 (a : Addr) (w : World) : (Instr.fieldAt 28 (.pointer (some a)) 0).run Try.prog w = .ok (.pointer (some (a.add 0))) w := by simp [Instr.fieldAt, run_underlying Try.underlying28, Instr.sureAddr, fieldPlace, Result.andThen]
theorem part_TieHarness_1 : SubS (α := TieHarness) 1 TieHarness.Warps (fun x y => { x with Warps := y }) := SubS.of (SubS.comp SubS.snd SubS.id_ rfl) (fun _ => rfl) (fun _ _ => rfl)
theorem at_28_1 (a : Addr) (w : World) : (Instr.fieldAt 28 (.pointer (some a)) 1).run Try.prog w = .ok (.pointer (some (a.add 1))) w := by simp [Instr.fieldAt, run_underlying Try.underlying28, Instr.sureAddr, fieldPlace, Result.andThen]
structure Design where
 Hooks : Int
 Rows : List Int
 deriving DecidableEq, Inhabited
instance : GoT Design := GoT.struct Design (β := Int × (List Int)) (fun x => (x.Hooks, x.Rows))
theorem part_Design_0 : SubS (α := Design) 0 Design.Hooks (fun x y => { x with Hooks := y }) := SubS.of SubS.fst (fun _ => rfl) (fun _ _ => rfl)
theorem at_30_0 (a : Addr) (w : World) : (Instr.fieldAt 30 (.pointer (some a)) 0).run Try.prog w = .ok (.pointer (some (a.add 0))) w := by simp [Instr.fieldAt, run_underlying Try.underlying30, Instr.sureAddr, fieldPlace, Result.andThen]
theorem part_Design_1 : SubS (α := Design) 1 Design.Rows (fun x y => { x with Rows := y }) := SubS.of (SubS.comp SubS.snd SubS.id_ rfl) (fun _ => rfl) (fun _ _ => rfl)
theorem at_30_1 (a : Addr) (w : World) : (Instr.fieldAt 30 (.pointer (some a)) 1).run Try.prog w = .ok (.pointer (some (a.add 1))) w := by simp [Instr.fieldAt, run_underlying Try.underlying30, Instr.sureAddr, fieldPlace, Result.andThen]
structure FaultLoom where
 Harness : TieHarness
 Design : Design
 deriving DecidableEq, Inhabited
instance : GoT FaultLoom := GoT.struct FaultLoom (β := TieHarness × Design) (fun x => (x.Harness, x.Design))
theorem part_FaultLoom_0 : SubS (α := FaultLoom) 0 FaultLoom.Harness (fun x y => { x with Harness := y }) := SubS.of SubS.fst (fun _ => rfl) (fun _ _ => rfl)
theorem at_32_0 (a : Addr) (w : World) : (Instr.fieldAt 32 (.pointer (some a)) 0).run Try.prog w = .ok (.pointer (some (a.add 0))) w := by simp [Instr.fieldAt, run_underlying Try.underlying32, Instr.sureAddr, fieldPlace, Result.andThen]
theorem part_FaultLoom_1 : SubS (α := FaultLoom) 2 FaultLoom.Design (fun x y => { x with Design := y }) := SubS.of (SubS.comp SubS.snd SubS.id_ rfl) (fun _ => rfl) (fun _ _ => rfl)
theorem at_32_1 (a : Addr) (w : World) : (Instr.fieldAt 32 (.pointer (some a)) 1).run Try.prog w = .ok (.pointer (some (a.add 2))) w := by simp [Instr.fieldAt, run_underlying Try.underlying32, Instr.sureAddr, fieldPlace, Result.andThen]
structure FaultDamage where
 Kind : Int
 Pick : Int
 Hook : Int
 Warp : Int
 Up : Bool
 deriving DecidableEq, Inhabited
instance : GoT FaultDamage := GoT.struct FaultDamage (β := Int × Int × Int × Int × Bool) (fun x => (x.Kind, x.Pick, x.Hook, x.Warp, x.Up))
theorem part_FaultDamage_0 : SubS (α := FaultDamage) 0 FaultDamage.Kind (fun x y => { x with Kind := y }) := SubS.of SubS.fst (fun _ => rfl) (fun _ _ => rfl)
theorem at_37_0 (a : Addr) (w : World) : (Instr.fieldAt 37 (.pointer (some a)) 0).run Try.prog w = .ok (.pointer (some (a.add 0))) w := by simp [Instr.fieldAt, run_underlying Try.underlying37, Instr.sureAddr, fieldPlace, Result.andThen]
theorem part_FaultDamage_1 : SubS (α := FaultDamage) 1 FaultDamage.Pick (fun x y => { x with Pick := y }) := SubS.of (SubS.comp SubS.snd SubS.fst rfl) (fun _ => rfl) (fun _ _ => rfl)
theorem at_37_1 (a : Addr) (w : World) : (Instr.fieldAt 37 (.pointer (some a)) 1).run Try.prog w = .ok (.pointer (some (a.add 1))) w := by simp [Instr.fieldAt, run_underlying Try.underlying37, Instr.sureAddr, fieldPlace, Result.andThen]
theorem part_FaultDamage_2 : SubS (α := FaultDamage) 2 FaultDamage.Hook (fun x y => { x with Hook := y }) := SubS.of (SubS.comp SubS.snd (SubS.comp SubS.snd SubS.fst rfl) rfl) (fun _ => rfl) (fun _ _ => rfl)
theorem at_37_2 (a : Addr) (w : World) : (Instr.fieldAt 37 (.pointer (some a)) 2).run Try.prog w = .ok (.pointer (some (a.add 2))) w := by simp [Instr.fieldAt, run_underlying Try.underlying37, Instr.sureAddr, fieldPlace, Result.andThen]
theorem part_FaultDamage_3 : SubS (α := FaultDamage) 3 FaultDamage.Warp (fun x y => { x with Warp := y }) := SubS.of (SubS.comp SubS.snd (SubS.comp SubS.snd (SubS.comp SubS.snd SubS.fst rfl) rfl) rfl) (fun _ => rfl) (fun _ _ => rfl)
theorem at_37_3 (a : Addr) (w : World) : (Instr.fieldAt 37 (.pointer (some a)) 3).run Try.prog w = .ok (.pointer (some (a.add 3))) w := by simp [Instr.fieldAt, run_underlying Try.underlying37, Instr.sureAddr, fieldPlace, Result.andThen]
theorem part_FaultDamage_4 : SubS (α := FaultDamage) 4 FaultDamage.Up (fun x y => { x with Up := y }) := SubS.of (SubS.comp SubS.snd (SubS.comp SubS.snd (SubS.comp SubS.snd (SubS.comp SubS.snd SubS.id_ rfl) rfl) rfl) rfl) (fun _ => rfl) (fun _ _ => rfl)
theorem at_37_4 (a : Addr) (w : World) : (Instr.fieldAt 37 (.pointer (some a)) 4).run Try.prog w = .ok (.pointer (some (a.add 4))) w := by simp [Instr.fieldAt, run_underlying Try.underlying37, Instr.sureAddr, fieldPlace, Result.andThen]
structure FaultSight where
 Pick : Int
 Warp : Int
 Lifted : Bool
 deriving DecidableEq, Inhabited
instance : GoT FaultSight := GoT.struct FaultSight (β := Int × Int × Bool) (fun x => (x.Pick, x.Warp, x.Lifted))
theorem part_FaultSight_0 : SubS (α := FaultSight) 0 FaultSight.Pick (fun x y => { x with Pick := y }) := SubS.of SubS.fst (fun _ => rfl) (fun _ _ => rfl)
theorem at_51_0 (a : Addr) (w : World) : (Instr.fieldAt 51 (.pointer (some a)) 0).run Try.prog w = .ok (.pointer (some (a.add 0))) w := by simp [Instr.fieldAt, run_underlying Try.underlying51, Instr.sureAddr, fieldPlace, Result.andThen]
theorem part_FaultSight_1 : SubS (α := FaultSight) 1 FaultSight.Warp (fun x y => { x with Warp := y }) := SubS.of (SubS.comp SubS.snd SubS.fst rfl) (fun _ => rfl) (fun _ _ => rfl)
theorem at_51_1 (a : Addr) (w : World) : (Instr.fieldAt 51 (.pointer (some a)) 1).run Try.prog w = .ok (.pointer (some (a.add 1))) w := by simp [Instr.fieldAt, run_underlying Try.underlying51, Instr.sureAddr, fieldPlace, Result.andThen]
theorem part_FaultSight_2 : SubS (α := FaultSight) 2 FaultSight.Lifted (fun x y => { x with Lifted := y }) := SubS.of (SubS.comp SubS.snd (SubS.comp SubS.snd SubS.id_ rfl) rfl) (fun _ => rfl) (fun _ _ => rfl)
theorem at_51_2 (a : Addr) (w : World) : (Instr.fieldAt 51 (.pointer (some a)) 2).run Try.prog w = .ok (.pointer (some (a.add 2))) w := by simp [Instr.fieldAt, run_underlying Try.underlying51, Instr.sureAddr, fieldPlace, Result.andThen]
structure SeamCut where
 Begin : Int
 Picks : Int
 deriving DecidableEq, Inhabited
instance : GoT SeamCut := GoT.struct SeamCut (β := Int × Int) (fun x => (x.Begin, x.Picks))
theorem part_SeamCut_0 : SubS (α := SeamCut) 0 SeamCut.Begin (fun x y => { x with Begin := y }) := SubS.of SubS.fst (fun _ => rfl) (fun _ _ => rfl)
theorem at_68_0 (a : Addr) (w : World) : (Instr.fieldAt 68 (.pointer (some a)) 0).run Try.prog w = .ok (.pointer (some (a.add 0))) w := by simp [Instr.fieldAt, run_underlying Try.underlying68, Instr.sureAddr, fieldPlace, Result.andThen]
theorem part_SeamCut_1 : SubS (α := SeamCut) 1 SeamCut.Picks (fun x y => { x with Picks := y }) := SubS.of (SubS.comp SubS.snd SubS.id_ rfl) (fun _ => rfl) (fun _ _ => rfl)
theorem at_68_1 (a : Addr) (w : World) : (Instr.fieldAt 68 (.pointer (some a)) 1).run Try.prog w = .ok (.pointer (some (a.add 1))) w := by simp [Instr.fieldAt, run_underlying Try.underlying68, Instr.sureAddr, fieldPlace, Result.andThen]
structure PointLongest where
 WeftFace : Int
 WeftBack : Int
 WarpFace : Int
 WarpBack : Int
 deriving DecidableEq, Inhabited
instance : GoT PointLongest := GoT.struct PointLongest (β := Int × Int × Int × Int) (fun x => (x.WeftFace, x.WeftBack, x.WarpFace, x.WarpBack))
structure PointFloat where
 Pick : Int
 Hook : Int
 Length : Int
 Lifted : Bool
 deriving DecidableEq, Inhabited
instance : GoT PointFloat := GoT.struct PointFloat (β := Int × Int × Int × Bool) (fun x => (x.Pick, x.Hook, x.Length, x.Lifted))
structure ChainCard where
 Number : Int
 Row : Int
 Turned : Bool
 deriving DecidableEq, Inhabited
instance : GoT ChainCard := GoT.struct ChainCard (β := Int × Int × Bool) (fun x => (x.Number, x.Row, x.Turned))
structure ChainBelt where
 Hooks : Int
 Cards : List ChainCard
 deriving DecidableEq, Inhabited
instance : GoT ChainBelt := GoT.struct ChainBelt (β := Int × (List ChainCard)) (fun x => (x.Hooks, x.Cards))
structure FaultFaultLoom where
 FaultLoom : FaultLoom
 deriving DecidableEq, Inhabited
instance : GoT FaultFaultLoom := GoT.struct FaultFaultLoom (β := FaultLoom) (fun x => x.FaultLoom)
theorem part_FaultFaultLoom_0 : SubS (α := FaultFaultLoom) 0 FaultFaultLoom.FaultLoom (fun x y => { x with FaultLoom := y }) := SubS.of SubS.id_ (fun _ => rfl) (fun _ _ => rfl)
theorem at_104_0 (a : Addr) (w : World) : (Instr.fieldAt 104 (.pointer (some a)) 0).run Try.prog w = .ok (.pointer (some (a.add 0))) w := by simp [Instr.fieldAt, run_underlying Try.underlying104, Instr.sureAddr, fieldPlace, Result.andThen]
structure EyeBoard where
 TieHarness : TieHarness
 drawing : List Int
 deriving DecidableEq, Inhabited
instance : GoT EyeBoard := GoT.struct EyeBoard (β := TieHarness × (List Int)) (fun x => (x.TieHarness, x.drawing))
structure SeamTailor where
 repeat_ : Int
 bad : List Int
 cuts : List SeamCut
 deriving DecidableEq, Inhabited
instance : GoT SeamTailor := GoT.struct SeamTailor (β := Int × (List Int) × (List SeamCut)) (fun x => (x.repeat_, x.bad, x.cuts))
theorem part_SeamTailor_0 : SubS (α := SeamTailor) 0 SeamTailor.repeat_ (fun x y => { x with repeat_ := y }) := SubS.of SubS.fst (fun _ => rfl) (fun _ _ => rfl)
theorem at_129_0 (a : Addr) (w : World) : (Instr.fieldAt 129 (.pointer (some a)) 0).run Try.prog w = .ok (.pointer (some (a.add 0))) w := by simp [Instr.fieldAt, run_underlying Try.underlying129, Instr.sureAddr, fieldPlace, Result.andThen]
theorem part_SeamTailor_1 : SubS (α := SeamTailor) 1 SeamTailor.bad (fun x y => { x with bad := y }) := SubS.of (SubS.comp SubS.snd SubS.fst rfl) (fun _ => rfl) (fun _ _ => rfl)
theorem at_129_1 (a : Addr) (w : World) : (Instr.fieldAt 129 (.pointer (some a)) 1).run Try.prog w = .ok (.pointer (some (a.add 1))) w := by simp [Instr.fieldAt, run_underlying Try.underlying129, Instr.sureAddr, fieldPlace, Result.andThen]
theorem part_SeamTailor_2 : SubS (α := SeamTailor) 2 SeamTailor.cuts (fun x y => { x with cuts := y }) := SubS.of (SubS.comp SubS.snd (SubS.comp SubS.snd SubS.id_ rfl) rfl) (fun _ => rfl) (fun _ _ => rfl)
theorem at_129_2 (a : Addr) (w : World) : (Instr.fieldAt 129 (.pointer (some a)) 2).run Try.prog w = .ok (.pointer (some (a.add 2))) w := by simp [Instr.fieldAt, run_underlying Try.underlying129, Instr.sureAddr, fieldPlace, Result.andThen]
structure SeamPlan where
 last : Int
 start : Int
 end_ : Int
 deriving DecidableEq, Inhabited
instance : GoT SeamPlan := GoT.struct SeamPlan (β := Int × Int × Int) (fun x => (x.last, x.start, x.end_))
theorem part_SeamPlan_0 : SubS (α := SeamPlan) 0 SeamPlan.last (fun x y => { x with last := y }) := SubS.of SubS.fst (fun _ => rfl) (fun _ _ => rfl)
theorem at_135_0 (a : Addr) (w : World) : (Instr.fieldAt 135 (.pointer (some a)) 0).run Try.prog w = .ok (.pointer (some (a.add 0))) w := by simp [Instr.fieldAt, run_underlying Try.underlying135, Instr.sureAddr, fieldPlace, Result.andThen]
theorem part_SeamPlan_1 : SubS (α := SeamPlan) 1 SeamPlan.start (fun x y => { x with start := y }) := SubS.of (SubS.comp SubS.snd SubS.fst rfl) (fun _ => rfl) (fun _ _ => rfl)
theorem at_135_1 (a : Addr) (w : World) : (Instr.fieldAt 135 (.pointer (some a)) 1).run Try.prog w = .ok (.pointer (some (a.add 1))) w := by simp [Instr.fieldAt, run_underlying Try.underlying135, Instr.sureAddr, fieldPlace, Result.andThen]
theorem part_SeamPlan_2 : SubS (α := SeamPlan) 2 SeamPlan.end_ (fun x y => { x with end_ := y }) := SubS.of (SubS.comp SubS.snd (SubS.comp SubS.snd SubS.id_ rfl) rfl) (fun _ => rfl) (fun _ _ => rfl)
theorem at_135_2 (a : Addr) (w : World) : (Instr.fieldAt 135 (.pointer (some a)) 2).run Try.prog w = .ok (.pointer (some (a.add 2))) w := by simp [Instr.fieldAt, run_underlying Try.underlying135, Instr.sureAddr, fieldPlace, Result.andThen]
structure Span where
 Low : Int
 High : Int
 deriving DecidableEq, Inhabited
instance : GoT Span := GoT.struct Span (β := Int × Int) (fun x => (x.Low, x.High))
theorem part_Span_0 : SubS (α := Span) 0 Span.Low (fun x y => { x with Low := y }) := SubS.of SubS.fst (fun _ => rfl) (fun _ _ => rfl)
theorem at_137_0 (a : Addr) (w : World) : (Instr.fieldAt 137 (.pointer (some a)) 0).run Try.prog w = .ok (.pointer (some (a.add 0))) w := by simp [Instr.fieldAt, run_underlying Try.underlying137, Instr.sureAddr, fieldPlace, Result.andThen]
theorem part_Span_1 : SubS (α := Span) 1 Span.High (fun x y => { x with High := y }) := SubS.of (SubS.comp SubS.snd SubS.id_ rfl) (fun _ => rfl) (fun _ _ => rfl)
theorem at_137_1 (a : Addr) (w : World) : (Instr.fieldAt 137 (.pointer (some a)) 1).run Try.prog w = .ok (.pointer (some (a.add 1))) w := by simp [Instr.fieldAt, run_underlying Try.underlying137, Instr.sureAddr, fieldPlace, Result.andThen]
structure SeamPart where
 Picks : Int
 Width : Span
 deriving DecidableEq, Inhabited
instance : GoT SeamPart := GoT.struct SeamPart (β := Int × Span) (fun x => (x.Picks, x.Width))
theorem part_SeamPart_0 : SubS (α := SeamPart) 0 SeamPart.Picks (fun x y => { x with Picks := y }) := SubS.of SubS.fst (fun _ => rfl) (fun _ _ => rfl)
theorem at_140_0 (a : Addr) (w : World) : (Instr.fieldAt 140 (.pointer (some a)) 0).run Try.prog w = .ok (.pointer (some (a.add 0))) w := by simp [Instr.fieldAt, run_underlying Try.underlying140, Instr.sureAddr, fieldPlace, Result.andThen]
theorem part_SeamPart_1 : SubS (α := SeamPart) 1 SeamPart.Width (fun x y => { x with Width := y }) := SubS.of (SubS.comp SubS.snd SubS.id_ rfl) (fun _ => rfl) (fun _ _ => rfl)
theorem at_140_1 (a : Addr) (w : World) : (Instr.fieldAt 140 (.pointer (some a)) 1).run Try.prog w = .ok (.pointer (some (a.add 1))) w := by simp [Instr.fieldAt, run_underlying Try.underlying140, Instr.sureAddr, fieldPlace, Result.andThen]
structure PointPaper where
 Design : Design
 deriving DecidableEq, Inhabited
instance : GoT PointPaper := GoT.struct PointPaper (β := Design) (fun x => x.Design)
structure TieTieHarness where
 TieHarness : TieHarness
 deriving DecidableEq, Inhabited
instance : GoT TieTieHarness := GoT.struct TieTieHarness (β := TieHarness) (fun x => x.TieHarness)
theorem part_TieTieHarness_0 : SubS (α := TieTieHarness) 0 TieTieHarness.TieHarness (fun x y => { x with TieHarness := y }) := SubS.of SubS.id_ (fun _ => rfl) (fun _ _ => rfl)
theorem at_155_0 (a : Addr) (w : World) : (Instr.fieldAt 155 (.pointer (some a)) 0).run Try.prog w = .ok (.pointer (some (a.add 0))) w := by simp [Instr.fieldAt, run_underlying Try.underlying155, Instr.sureAddr, fieldPlace, Result.andThen]
structure TieGroup where
 First : Int
 Last : Int
 Way : Int
 Times : Int
 deriving DecidableEq, Inhabited
instance : GoT TieGroup := GoT.struct TieGroup (β := Int × Int × Int × Int) (fun x => (x.First, x.Last, x.Way, x.Times))
structure ChainChainBelt where
 ChainBelt : ChainBelt
 frame : Int
 deriving DecidableEq, Inhabited
instance : GoT ChainChainBelt := GoT.struct ChainChainBelt (β := ChainBelt × Int) (fun x => (x.ChainBelt, x.frame))
structure EyeThread where
 warp : Int
 eye : Int
 deriving DecidableEq, Inhabited
instance : GoT EyeThread := GoT.struct EyeThread (β := Int × Int) (fun x => (x.warp, x.eye))
structure SeamPair where
 a : List Span
 b : List Span
 more : List Span
 deriving DecidableEq, Inhabited
instance : GoT SeamPair := GoT.struct SeamPair (β := (List Span) × (List Span) × (List Span)) (fun x => (x.a, x.b, x.more))
theorem part_SeamPair_0 : SubS (α := SeamPair) 0 SeamPair.a (fun x y => { x with a := y }) := SubS.of SubS.fst (fun _ => rfl) (fun _ _ => rfl)
theorem at_209_0 (a : Addr) (w : World) : (Instr.fieldAt 209 (.pointer (some a)) 0).run Try.prog w = .ok (.pointer (some (a.add 0))) w := by simp [Instr.fieldAt, run_underlying Try.underlying209, Instr.sureAddr, fieldPlace, Result.andThen]
theorem part_SeamPair_1 : SubS (α := SeamPair) 1 SeamPair.b (fun x y => { x with b := y }) := SubS.of (SubS.comp SubS.snd SubS.fst rfl) (fun _ => rfl) (fun _ _ => rfl)
theorem at_209_1 (a : Addr) (w : World) : (Instr.fieldAt 209 (.pointer (some a)) 1).run Try.prog w = .ok (.pointer (some (a.add 1))) w := by simp [Instr.fieldAt, run_underlying Try.underlying209, Instr.sureAddr, fieldPlace, Result.andThen]
theorem part_SeamPair_2 : SubS (α := SeamPair) 2 SeamPair.more (fun x y => { x with more := y }) := SubS.of (SubS.comp SubS.snd (SubS.comp SubS.snd SubS.id_ rfl) rfl) (fun _ => rfl) (fun _ _ => rfl)
theorem at_209_2 (a : Addr) (w : World) : (Instr.fieldAt 209 (.pointer (some a)) 2).run Try.prog w = .ok (.pointer (some (a.add 2))) w := by simp [Instr.fieldAt, run_underlying Try.underlying209, Instr.sureAddr, fieldPlace, Result.andThen]
structure PointRun where
 first : Int
 length : Int
 lifted : Bool
 deriving DecidableEq, Inhabited
instance : GoT PointRun := GoT.struct PointRun (β := Int × Int × Bool) (fun x => (x.first, x.length, x.lifted))
structure TieTieGroup where
 TieGroup : TieGroup
 deriving DecidableEq, Inhabited
instance : GoT TieTieGroup := GoT.struct TieTieGroup (β := TieGroup) (fun x => x.TieGroup)
structure PointState where
 left : Int
 length : Int
 first : Int
 lifted : Bool
 deriving DecidableEq, Inhabited
instance : GoT PointState := GoT.struct PointState (β := Int × Int × Int × Bool) (fun x => (x.left, x.length, x.first, x.lifted))
end Go.Proofs.Ytdkgoipaohacgaa
