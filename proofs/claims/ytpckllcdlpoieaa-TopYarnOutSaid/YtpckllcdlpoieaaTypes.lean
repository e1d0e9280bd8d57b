/- The types of this seat, as data: structures, how they lie in memory, their parts. Printed by gtypes.py. -/
import Derived.Test.YtpckllcdlpoieaaVr
import Derived.Test.YtpckllcdlpoieaaProg
namespace Go.Proofs.Ytpckllcdlpoieaa
open Go.RowKit
theorem SubS.of {α β γ:Type} [GoT β] [GoT γ] {to:α→β} {off:Nat} {f:α→γ} {st:α→γ→α} {f':β→γ} {s':β→γ→β} (h:SubS off f' s') (h1:∀ x,f' (to x)=f x) (h2:∀ x y,to (st x y)=s' (to x) y):@SubS α γ (GoT.struct α to) _ off f st:=by
 refine ⟨⟨h.1.1,fun m w x cs hr=>?_⟩,fun m w x y cs cy hr hy=>?_⟩
 ·rw [← h1]; exact h.1.2 m w (to x) cs hr
 ·show GoT.rep m w (to (st x y)) _; rw [h2]; exact h.2 m w (to x) y cs cy hr hy
structure Loom where
 Hooks:UInt8
 Warps:List UInt8
 Rows:List UInt16
 Cards:List UInt8
 deriving DecidableEq,Inhabited
instance:GoT Loom:=GoT.struct Loom (β:=UInt8 × (List UInt8) × (List UInt16) × (List UInt8)) (fun x=>(x.Hooks,x.Warps,x.Rows,x.Cards))
structure TieHarness where
 Hooks:Int
 Warps:List Int
 deriving DecidableEq,Inhabited
instance:GoT TieHarness:=GoT.struct TieHarness (β:=Int × (List Int)) (fun x=>(x.Hooks,x.Warps))
structure Design where
 Hooks:Int
 Rows:List Int
 deriving DecidableEq,Inhabited
instance:GoT Design:=GoT.struct Design (β:=Int × (List Int)) (fun x=>(x.Hooks,x.Rows))
structure FaultLoom where
 Harness:TieHarness
 Design:Design
 deriving DecidableEq,Inhabited
instance:GoT FaultLoom:=GoT.struct FaultLoom (β:=TieHarness × Design) (fun x=>(x.Harness,x.Design))
structure Span where
 Low:Int
 High:Int
 deriving DecidableEq,Inhabited
instance:GoT Span:=GoT.struct Span (β:=Int × Int) (fun x=>(x.Low,x.High))
theorem part_Span_0:SubS (α:=Span) 0 Span.Low (fun x y=>{ x with Low:=y }):=SubS.of SubS.fst (fun _=>rfl) (fun _ _=>rfl)
theorem at_35_0 (a:Addr) (w:World):(Instr.fieldAt 35 (.pointer (some a)) 0).run Try.prog w=.ok (.pointer (some (a.add 0))) w:=by simp [Instr.fieldAt,run_underlying Try.underlying35,Instr.sureAddr,fieldPlace,Result.andThen]
theorem part_Span_1:SubS (α:=Span) 1 Span.High (fun x y=>{ x with High:=y }):=SubS.of (SubS.comp SubS.snd SubS.id_ rfl) (fun _=>rfl) (fun _ _=>rfl)
theorem at_35_1 (a:Addr) (w:World):(Instr.fieldAt 35 (.pointer (some a)) 1).run Try.prog w=.ok (.pointer (some (a.add 1))) w:=by simp [Instr.fieldAt,run_underlying Try.underlying35,Instr.sureAddr,fieldPlace,Result.andThen]
structure BoxShuttle where
 Colour:Int
 Side:Int
 Box:Int
 Yarn:Span
 deriving DecidableEq,Inhabited
instance:GoT BoxShuttle:=GoT.struct BoxShuttle (β:=Int × Int × Int × Span) (fun x=>(x.Colour,x.Side,x.Box,x.Yarn))
theorem part_BoxShuttle_0:SubS (α:=BoxShuttle) 0 BoxShuttle.Colour (fun x y=>{ x with Colour:=y }):=SubS.of SubS.fst (fun _=>rfl) (fun _ _=>rfl)
theorem at_37_0 (a:Addr) (w:World):(Instr.fieldAt 37 (.pointer (some a)) 0).run Try.prog w=.ok (.pointer (some (a.add 0))) w:=by simp [Instr.fieldAt,run_underlying Try.underlying37,Instr.sureAddr,fieldPlace,Result.andThen]
theorem part_BoxShuttle_1:SubS (α:=BoxShuttle) 1 BoxShuttle.Side (fun x y=>{ x with Side:=y }):=SubS.of (SubS.comp SubS.snd SubS.fst rfl) (fun _=>rfl) (fun _ _=>rfl)
theorem at_37_1 (a:Addr) (w:World):(Instr.fieldAt 37 (.pointer (some a)) 1).run Try.prog w=.ok (.pointer (some (a.add 1))) w:=by simp [Instr.fieldAt,run_underlying Try.underlying37,Instr.sureAddr,fieldPlace,Result.andThen]
theorem part_BoxShuttle_2:SubS (α:=BoxShuttle) 2 BoxShuttle.Box (fun x y=>{ x with Box:=y }):=SubS.of (SubS.comp SubS.snd (SubS.comp SubS.snd SubS.fst rfl) rfl) (fun _=>rfl) (fun _ _=>rfl)
theorem at_37_2 (a:Addr) (w:World):(Instr.fieldAt 37 (.pointer (some a)) 2).run Try.prog w=.ok (.pointer (some (a.add 2))) w:=by simp [Instr.fieldAt,run_underlying Try.underlying37,Instr.sureAddr,fieldPlace,Result.andThen]
theorem part_BoxShuttle_3:SubS (α:=BoxShuttle) 3 BoxShuttle.Yarn (fun x y=>{ x with Yarn:=y }):=SubS.of (SubS.comp SubS.snd (SubS.comp SubS.snd (SubS.comp SubS.snd SubS.id_ rfl) rfl) rfl) (fun _=>rfl) (fun _ _=>rfl)
theorem at_37_3 (a:Addr) (w:World):(Instr.fieldAt 37 (.pointer (some a)) 3).run Try.prog w=.ok (.pointer (some (a.add 3))) w:=by simp [Instr.fieldAt,run_underlying Try.underlying37,Instr.sureAddr,fieldPlace,Result.andThen]
structure BoxLoom where
 Boxes:List Int
 At:List Int
 Shuttles:List BoxShuttle
 deriving DecidableEq,Inhabited
instance:GoT BoxLoom:=GoT.struct BoxLoom (β:=(List Int) × (List Int) × (List BoxShuttle)) (fun x=>(x.Boxes,x.At,x.Shuttles))
theorem part_BoxLoom_0:SubS (α:=BoxLoom) 0 BoxLoom.Boxes (fun x y=>{ x with Boxes:=y }):=SubS.of SubS.fst (fun _=>rfl) (fun _ _=>rfl)
theorem at_40_0 (a:Addr) (w:World):(Instr.fieldAt 40 (.pointer (some a)) 0).run Try.prog w=.ok (.pointer (some (a.add 0))) w:=by simp [Instr.fieldAt,run_underlying Try.underlying40,Instr.sureAddr,fieldPlace,Result.andThen]
theorem part_BoxLoom_1:SubS (α:=BoxLoom) 1 BoxLoom.At (fun x y=>{ x with At:=y }):=SubS.of (SubS.comp SubS.snd SubS.fst rfl) (fun _=>rfl) (fun _ _=>rfl)
theorem at_40_1 (a:Addr) (w:World):(Instr.fieldAt 40 (.pointer (some a)) 1).run Try.prog w=.ok (.pointer (some (a.add 1))) w:=by simp [Instr.fieldAt,run_underlying Try.underlying40,Instr.sureAddr,fieldPlace,Result.andThen]
theorem part_BoxLoom_2:SubS (α:=BoxLoom) 2 BoxLoom.Shuttles (fun x y=>{ x with Shuttles:=y }):=SubS.of (SubS.comp SubS.snd (SubS.comp SubS.snd SubS.id_ rfl) rfl) (fun _=>rfl) (fun _ _=>rfl)
theorem at_40_2 (a:Addr) (w:World):(Instr.fieldAt 40 (.pointer (some a)) 2).run Try.prog w=.ok (.pointer (some (a.add 2))) w:=by simp [Instr.fieldAt,run_underlying Try.underlying40,Instr.sureAddr,fieldPlace,Result.andThen]
structure FaultDamage where
 Kind:Int
 Pick:Int
 Hook:Int
 Warp:Int
 Up:Bool
 deriving DecidableEq,Inhabited
instance:GoT FaultDamage:=GoT.struct FaultDamage (β:=Int × Int × Int × Int × Bool) (fun x=>(x.Kind,x.Pick,x.Hook,x.Warp,x.Up))
structure Race where
 Boxes:Vector UInt8 2
 Shuttles:Vector (Vector UInt8 2) 3
 deriving DecidableEq
instance:GoT Race:=GoT.struct Race (β:=(Vector UInt8 2) × (Vector (Vector UInt8 2) 3)) (fun x=>(x.Boxes,x.Shuttles))
theorem part_Race_0:SubS (α:=Race) 0 Race.Boxes (fun x y=>{ x with Boxes:=y }):=SubS.of SubS.fst (fun _=>rfl) (fun _ _=>rfl)
theorem at_63_0 (a:Addr) (w:World):(Instr.fieldAt 63 (.pointer (some a)) 0).run Try.prog w=.ok (.pointer (some (a.add 0))) w:=by simp [Instr.fieldAt,run_underlying Try.underlying63,Instr.sureAddr,fieldPlace,Result.andThen]
theorem part_Race_1:SubS (α:=Race) 2 Race.Shuttles (fun x y=>{ x with Shuttles:=y }):=SubS.of (SubS.comp SubS.snd SubS.id_ rfl) (fun _=>rfl) (fun _ _=>rfl)
theorem at_63_1 (a:Addr) (w:World):(Instr.fieldAt 63 (.pointer (some a)) 1).run Try.prog w=.ok (.pointer (some (a.add 2))) w:=by simp [Instr.fieldAt,run_underlying Try.underlying63,Instr.sureAddr,fieldPlace,Result.andThen]
structure BeamPair where
 Driver:Int
 Driven:Int
 deriving DecidableEq,Inhabited
instance:GoT BeamPair:=GoT.struct BeamPair (β:=Int × Int) (fun x=>(x.Driver,x.Driven))
theorem part_BeamPair_0:SubS (α:=BeamPair) 0 BeamPair.Driver (fun x y=>{ x with Driver:=y }):=SubS.of SubS.fst (fun _=>rfl) (fun _ _=>rfl)
theorem at_175_0 (a:Addr) (w:World):(Instr.fieldAt 175 (.pointer (some a)) 0).run Try.prog w=.ok (.pointer (some (a.add 0))) w:=by simp [Instr.fieldAt,run_underlying Try.underlying175,Instr.sureAddr,fieldPlace,Result.andThen]
theorem part_BeamPair_1:SubS (α:=BeamPair) 1 BeamPair.Driven (fun x y=>{ x with Driven:=y }):=SubS.of (SubS.comp SubS.snd SubS.id_ rfl) (fun _=>rfl) (fun _ _=>rfl)
theorem at_175_1 (a:Addr) (w:World):(Instr.fieldAt 175 (.pointer (some a)) 1).run Try.prog w=.ok (.pointer (some (a.add 1))) w:=by simp [Instr.fieldAt,run_underlying Try.underlying175,Instr.sureAddr,fieldPlace,Result.andThen]
structure BeamTake where
 Ratchet:Int
 Step:Int
 Pairs:List BeamPair
 Round:Int
 deriving DecidableEq,Inhabited
instance:GoT BeamTake:=GoT.struct BeamTake (β:=Int × Int × (List BeamPair) × Int) (fun x=>(x.Ratchet,x.Step,x.Pairs,x.Round))
theorem part_BeamTake_0:SubS (α:=BeamTake) 0 BeamTake.Ratchet (fun x y=>{ x with Ratchet:=y }):=SubS.of SubS.fst (fun _=>rfl) (fun _ _=>rfl)
theorem at_68_0 (a:Addr) (w:World):(Instr.fieldAt 68 (.pointer (some a)) 0).run Try.prog w=.ok (.pointer (some (a.add 0))) w:=by simp [Instr.fieldAt,run_underlying Try.underlying68,Instr.sureAddr,fieldPlace,Result.andThen]
theorem part_BeamTake_1:SubS (α:=BeamTake) 1 BeamTake.Step (fun x y=>{ x with Step:=y }):=SubS.of (SubS.comp SubS.snd SubS.fst rfl) (fun _=>rfl) (fun _ _=>rfl)
theorem at_68_1 (a:Addr) (w:World):(Instr.fieldAt 68 (.pointer (some a)) 1).run Try.prog w=.ok (.pointer (some (a.add 1))) w:=by simp [Instr.fieldAt,run_underlying Try.underlying68,Instr.sureAddr,fieldPlace,Result.andThen]
theorem part_BeamTake_2:SubS (α:=BeamTake) 2 BeamTake.Pairs (fun x y=>{ x with Pairs:=y }):=SubS.of (SubS.comp SubS.snd (SubS.comp SubS.snd SubS.fst rfl) rfl) (fun _=>rfl) (fun _ _=>rfl)
theorem at_68_2 (a:Addr) (w:World):(Instr.fieldAt 68 (.pointer (some a)) 2).run Try.prog w=.ok (.pointer (some (a.add 2))) w:=by simp [Instr.fieldAt,run_underlying Try.underlying68,Instr.sureAddr,fieldPlace,Result.andThen]
theorem part_BeamTake_3:SubS (α:=BeamTake) 3 BeamTake.Round (fun x y=>{ x with Round:=y }):=SubS.of (SubS.comp SubS.snd (SubS.comp SubS.snd (SubS.comp SubS.snd SubS.id_ rfl) rfl) rfl) (fun _=>rfl) (fun _ _=>rfl)
theorem at_68_3 (a:Addr) (w:World):(Instr.fieldAt 68 (.pointer (some a)) 3).run Try.prog w=.ok (.pointer (some (a.add 3))) w:=by simp [Instr.fieldAt,run_underlying Try.underlying68,Instr.sureAddr,fieldPlace,Result.andThen]
structure FaultSight where
 Pick:Int
 Warp:Int
 Lifted:Bool
 deriving DecidableEq,Inhabited
instance:GoT FaultSight:=GoT.struct FaultSight (β:=Int × Int × Bool) (fun x=>(x.Pick,x.Warp,x.Lifted))
structure PointLongest where
 WeftFace:Int
 WeftBack:Int
 WarpFace:Int
 WarpBack:Int
 deriving DecidableEq,Inhabited
instance:GoT PointLongest:=GoT.struct PointLongest (β:=Int × Int × Int × Int) (fun x=>(x.WeftFace,x.WeftBack,x.WarpFace,x.WarpBack))
structure PointFloat where
 Pick:Int
 Hook:Int
 Length:Int
 Lifted:Bool
 deriving DecidableEq,Inhabited
instance:GoT PointFloat:=GoT.struct PointFloat (β:=Int × Int × Int × Bool) (fun x=>(x.Pick,x.Hook,x.Length,x.Lifted))
structure ChainCard where
 Number:Int
 Row:Int
 Turned:Bool
 deriving DecidableEq,Inhabited
instance:GoT ChainCard:=GoT.struct ChainCard (β:=Int × Int × Bool) (fun x=>(x.Number,x.Row,x.Turned))
structure ChainBelt where
 Hooks:Int
 Cards:List ChainCard
 deriving DecidableEq,Inhabited
instance:GoT ChainBelt:=GoT.struct ChainBelt (β:=Int × (List ChainCard)) (fun x=>(x.Hooks,x.Cards))
structure PayRate where
 From:Int
 Rate:Int
 deriving DecidableEq,Inhabited
instance:GoT PayRate:=GoT.struct PayRate (β:=Int × Int) (fun x=>(x.From,x.Rate))
structure PayList where
 Rates:List PayRate
 Extras:List Int
 Fine:Int
 Cap:Int
 deriving DecidableEq,Inhabited
instance:GoT PayList:=GoT.struct PayList (β:=(List PayRate) × (List Int) × Int × Int) (fun x=>(x.Rates,x.Extras,x.Fine,x.Cap))
structure PayPiece where
 Weaver:Int
 Dense:Int
 Picks:Int
 Extras:List Int
 Faults:Int
 deriving DecidableEq,Inhabited
instance:GoT PayPiece:=GoT.struct PayPiece (β:=Int × Int × Int × (List Int) × Int) (fun x=>(x.Weaver,x.Dense,x.Picks,x.Extras,x.Faults))
structure BoxBoxLoom where
 BoxLoom:BoxLoom
 deriving DecidableEq,Inhabited
instance:GoT BoxBoxLoom:=GoT.struct BoxBoxLoom (β:=BoxLoom) (fun x=>x.BoxLoom)
theorem part_BoxBoxLoom_0:SubS (α:=BoxBoxLoom) 0 BoxBoxLoom.BoxLoom (fun x y=>{ x with BoxLoom:=y }):=SubS.of SubS.id_ (fun _=>rfl) (fun _ _=>rfl)
theorem at_142_0 (a:Addr) (w:World):(Instr.fieldAt 142 (.pointer (some a)) 0).run Try.prog w=.ok (.pointer (some (a.add 0))) w:=by simp [Instr.fieldAt,run_underlying Try.underlying142,Instr.sureAddr,fieldPlace,Result.andThen]
structure BoxPick where
 Left:Int
 Right:Int
 deriving DecidableEq,Inhabited
instance:GoT BoxPick:=GoT.struct BoxPick (β:=Int × Int) (fun x=>(x.Left,x.Right))
theorem part_BoxPick_0:SubS (α:=BoxPick) 0 BoxPick.Left (fun x y=>{ x with Left:=y }):=SubS.of SubS.fst (fun _=>rfl) (fun _ _=>rfl)
theorem at_151_0 (a:Addr) (w:World):(Instr.fieldAt 151 (.pointer (some a)) 0).run Try.prog w=.ok (.pointer (some (a.add 0))) w:=by simp [Instr.fieldAt,run_underlying Try.underlying151,Instr.sureAddr,fieldPlace,Result.andThen]
theorem part_BoxPick_1:SubS (α:=BoxPick) 1 BoxPick.Right (fun x y=>{ x with Right:=y }):=SubS.of (SubS.comp SubS.snd SubS.id_ rfl) (fun _=>rfl) (fun _ _=>rfl)
theorem at_151_1 (a:Addr) (w:World):(Instr.fieldAt 151 (.pointer (some a)) 1).run Try.prog w=.ok (.pointer (some (a.add 1))) w:=by simp [Instr.fieldAt,run_underlying Try.underlying151,Instr.sureAddr,fieldPlace,Result.andThen]
structure BoxRace where
 boxes:Vector (Vector Int 4) 2
 at_:BoxPick
 deriving DecidableEq
instance:GoT BoxRace:=GoT.struct BoxRace (β:=(Vector (Vector Int 4) 2) × BoxPick) (fun x=>(x.boxes,x.at_))
theorem part_BoxRace_0:SubS (α:=BoxRace) 0 BoxRace.boxes (fun x y=>{ x with boxes:=y }):=SubS.of SubS.fst (fun _=>rfl) (fun _ _=>rfl)
theorem at_153_0 (a:Addr) (w:World):(Instr.fieldAt 153 (.pointer (some a)) 0).run Try.prog w=.ok (.pointer (some (a.add 0))) w:=by simp [Instr.fieldAt,run_underlying Try.underlying153,Instr.sureAddr,fieldPlace,Result.andThen]
theorem part_BoxRace_1:SubS (α:=BoxRace) 8 BoxRace.at_ (fun x y=>{ x with at_:=y }):=SubS.of (SubS.comp SubS.snd SubS.id_ rfl) (fun _=>rfl) (fun _ _=>rfl)
theorem at_153_1 (a:Addr) (w:World):(Instr.fieldAt 153 (.pointer (some a)) 1).run Try.prog w=.ok (.pointer (some (a.add 8))) w:=by simp [Instr.fieldAt,run_underlying Try.underlying153,Instr.sureAddr,fieldPlace,Result.andThen]
structure BoxPoint where
 group:Int
 done:Int
 race:BoxRace
 deriving DecidableEq
instance:GoT BoxPoint:=GoT.struct BoxPoint (β:=Int × Int × BoxRace) (fun x=>(x.group,x.done,x.race))
theorem part_BoxPoint_0:SubS (α:=BoxPoint) 0 BoxPoint.group (fun x y=>{ x with group:=y }):=SubS.of SubS.fst (fun _=>rfl) (fun _ _=>rfl)
theorem at_157_0 (a:Addr) (w:World):(Instr.fieldAt 157 (.pointer (some a)) 0).run Try.prog w=.ok (.pointer (some (a.add 0))) w:=by simp [Instr.fieldAt,run_underlying Try.underlying157,Instr.sureAddr,fieldPlace,Result.andThen]
theorem part_BoxPoint_1:SubS (α:=BoxPoint) 1 BoxPoint.done (fun x y=>{ x with done:=y }):=SubS.of (SubS.comp SubS.snd SubS.fst rfl) (fun _=>rfl) (fun _ _=>rfl)
theorem at_157_1 (a:Addr) (w:World):(Instr.fieldAt 157 (.pointer (some a)) 1).run Try.prog w=.ok (.pointer (some (a.add 1))) w:=by simp [Instr.fieldAt,run_underlying Try.underlying157,Instr.sureAddr,fieldPlace,Result.andThen]
theorem part_BoxPoint_2:SubS (α:=BoxPoint) 2 BoxPoint.race (fun x y=>{ x with race:=y }):=SubS.of (SubS.comp SubS.snd (SubS.comp SubS.snd SubS.id_ rfl) rfl) (fun _=>rfl) (fun _ _=>rfl)
theorem at_157_2 (a:Addr) (w:World):(Instr.fieldAt 157 (.pointer (some a)) 2).run Try.prog w=.ok (.pointer (some (a.add 2))) w:=by simp [Instr.fieldAt,run_underlying Try.underlying157,Instr.sureAddr,fieldPlace,Result.andThen]
structure BoxRun where
 thrown:List Int
 last:BoxRace
 moves:Int
 deriving DecidableEq
instance:GoT BoxRun:=GoT.struct BoxRun (β:=(List Int) × BoxRace × Int) (fun x=>(x.thrown,x.last,x.moves))
theorem part_BoxRun_0:SubS (α:=BoxRun) 0 BoxRun.thrown (fun x y=>{ x with thrown:=y }):=SubS.of SubS.fst (fun _=>rfl) (fun _ _=>rfl)
theorem at_164_0 (a:Addr) (w:World):(Instr.fieldAt 164 (.pointer (some a)) 0).run Try.prog w=.ok (.pointer (some (a.add 0))) w:=by simp [Instr.fieldAt,run_underlying Try.underlying164,Instr.sureAddr,fieldPlace,Result.andThen]
theorem part_BoxRun_1:SubS (α:=BoxRun) 1 BoxRun.last (fun x y=>{ x with last:=y }):=SubS.of (SubS.comp SubS.snd SubS.fst rfl) (fun _=>rfl) (fun _ _=>rfl)
theorem at_164_1 (a:Addr) (w:World):(Instr.fieldAt 164 (.pointer (some a)) 1).run Try.prog w=.ok (.pointer (some (a.add 1))) w:=by simp [Instr.fieldAt,run_underlying Try.underlying164,Instr.sureAddr,fieldPlace,Result.andThen]
theorem part_BoxRun_2:SubS (α:=BoxRun) 11 BoxRun.moves (fun x y=>{ x with moves:=y }):=SubS.of (SubS.comp SubS.snd (SubS.comp SubS.snd SubS.id_ rfl) rfl) (fun _=>rfl) (fun _ _=>rfl)
theorem at_164_2 (a:Addr) (w:World):(Instr.fieldAt 164 (.pointer (some a)) 2).run Try.prog w=.ok (.pointer (some (a.add 11))) w:=by simp [Instr.fieldAt,run_underlying Try.underlying164,Instr.sureAddr,fieldPlace,Result.andThen]
structure FaultFaultLoom where
 FaultLoom:FaultLoom
 deriving DecidableEq,Inhabited
instance:GoT FaultFaultLoom:=GoT.struct FaultFaultLoom (β:=FaultLoom) (fun x=>x.FaultLoom)
structure Ratio where
 Num:Int
 Den:Int
 deriving DecidableEq,Inhabited
instance:GoT Ratio:=GoT.struct Ratio (β:=Int × Int) (fun x=>(x.Num,x.Den))
theorem part_Ratio_0:SubS (α:=Ratio) 0 Ratio.Num (fun x y=>{ x with Num:=y }):=SubS.of SubS.fst (fun _=>rfl) (fun _ _=>rfl)
theorem at_180_0 (a:Addr) (w:World):(Instr.fieldAt 180 (.pointer (some a)) 0).run Try.prog w=.ok (.pointer (some (a.add 0))) w:=by simp [Instr.fieldAt,run_underlying Try.underlying180,Instr.sureAddr,fieldPlace,Result.andThen]
theorem part_Ratio_1:SubS (α:=Ratio) 1 Ratio.Den (fun x y=>{ x with Den:=y }):=SubS.of (SubS.comp SubS.snd SubS.id_ rfl) (fun _=>rfl) (fun _ _=>rfl)
theorem at_180_1 (a:Addr) (w:World):(Instr.fieldAt 180 (.pointer (some a)) 1).run Try.prog w=.ok (.pointer (some (a.add 1))) w:=by simp [Instr.fieldAt,run_underlying Try.underlying180,Instr.sureAddr,fieldPlace,Result.andThen]
structure BeamRatio where
 Ratio:Ratio
 deriving DecidableEq,Inhabited
instance:GoT BeamRatio:=GoT.struct BeamRatio (β:=Ratio) (fun x=>x.Ratio)
theorem part_BeamRatio_0:SubS (α:=BeamRatio) 0 BeamRatio.Ratio (fun x y=>{ x with Ratio:=y }):=SubS.of SubS.id_ (fun _=>rfl) (fun _ _=>rfl)
theorem at_182_0 (a:Addr) (w:World):(Instr.fieldAt 182 (.pointer (some a)) 0).run Try.prog w=.ok (.pointer (some (a.add 0))) w:=by simp [Instr.fieldAt,run_underlying Try.underlying182,Instr.sureAddr,fieldPlace,Result.andThen]
structure BeamWarp where
 Length:Span
 Stretch:Span
 Crimp:Span
 Waste:Span
 deriving DecidableEq,Inhabited
instance:GoT BeamWarp:=GoT.struct BeamWarp (β:=Span × Span × Span × Span) (fun x=>(x.Length,x.Stretch,x.Crimp,x.Waste))
structure EyeBoard where
 TieHarness:TieHarness
 drawing:List Int
 deriving DecidableEq,Inhabited
instance:GoT EyeBoard:=GoT.struct EyeBoard (β:=TieHarness × (List Int)) (fun x=>(x.TieHarness,x.drawing))
structure PointPaper where
 Design:Design
 deriving DecidableEq,Inhabited
instance:GoT PointPaper:=GoT.struct PointPaper (β:=Design) (fun x=>x.Design)
structure TieTieHarness where
 TieHarness:TieHarness
 deriving DecidableEq,Inhabited
instance:GoT TieTieHarness:=GoT.struct TieTieHarness (β:=TieHarness) (fun x=>x.TieHarness)
structure TieGroup where
 First:Int
 Last:Int
 Way:Int
 Times:Int
 deriving DecidableEq,Inhabited
instance:GoT TieGroup:=GoT.struct TieGroup (β:=Int × Int × Int × Int) (fun x=>(x.First,x.Last,x.Way,x.Times))
structure ChainChainBelt where
 ChainBelt:ChainBelt
 frame:Int
 deriving DecidableEq,Inhabited
instance:GoT ChainChainBelt:=GoT.struct ChainChainBelt (β:=ChainBelt × Int) (fun x=>(x.ChainBelt,x.frame))
structure ChainCylinder where
 belt:ChainChainBelt
 cloth:List Int
 deriving DecidableEq,Inhabited
instance:GoT ChainCylinder:=GoT.struct ChainCylinder (β:=ChainChainBelt × (List Int)) (fun x=>(x.belt,x.cloth))
structure PayPayList where
 PayList:PayList
 deriving DecidableEq,Inhabited
instance:GoT PayPayList:=GoT.struct PayPayList (β:=PayList) (fun x=>x.PayList)
structure PayEntry where
 Kind:Int
 Row:Int
 Column:Int
 Number:Int
 deriving DecidableEq,Inhabited
instance:GoT PayEntry:=GoT.struct PayEntry (β:=Int × Int × Int × Int) (fun x=>(x.Kind,x.Row,x.Column,x.Number))
structure PayTable where
 Rows:List (List Int)
 Across:List Int
 Down:List Int
 Total:Int
 deriving DecidableEq,Inhabited
instance:GoT PayTable:=GoT.struct PayTable (β:=(List (List Int)) × (List Int) × (List Int) × Int) (fun x=>(x.Rows,x.Across,x.Down,x.Total))
structure BoxMill where
 left:Int
 right:Int
 known:MapRef
 deriving DecidableEq,Inhabited
instance:GoT BoxMill:=GoT.struct BoxMill (β:=Int × Int × MapRef) (fun x=>(x.left,x.right,x.known))
theorem part_BoxMill_0:SubS (α:=BoxMill) 0 BoxMill.left (fun x y=>{ x with left:=y }):=SubS.of SubS.fst (fun _=>rfl) (fun _ _=>rfl)
theorem at_274_0 (a:Addr) (w:World):(Instr.fieldAt 274 (.pointer (some a)) 0).run Try.prog w=.ok (.pointer (some (a.add 0))) w:=by simp [Instr.fieldAt,run_underlying Try.underlying274,Instr.sureAddr,fieldPlace,Result.andThen]
theorem part_BoxMill_1:SubS (α:=BoxMill) 1 BoxMill.right (fun x y=>{ x with right:=y }):=SubS.of (SubS.comp SubS.snd SubS.fst rfl) (fun _=>rfl) (fun _ _=>rfl)
theorem at_274_1 (a:Addr) (w:World):(Instr.fieldAt 274 (.pointer (some a)) 1).run Try.prog w=.ok (.pointer (some (a.add 1))) w:=by simp [Instr.fieldAt,run_underlying Try.underlying274,Instr.sureAddr,fieldPlace,Result.andThen]
theorem at_274_2 (a:Addr) (w:World):(Instr.fieldAt 274 (.pointer (some a)) 2).run Try.prog w=.ok (.pointer (some (a.add 2))) w:=by simp [Instr.fieldAt,run_underlying Try.underlying274,Instr.sureAddr,fieldPlace,Result.andThen]
structure BoxStep where
 next:BoxRace
 colour:Int
 moves:Int
 deriving DecidableEq
instance:GoT BoxStep:=GoT.struct BoxStep (β:=BoxRace × Int × Int) (fun x=>(x.next,x.colour,x.moves))
theorem part_BoxStep_0:SubS (α:=BoxStep) 0 BoxStep.next (fun x y=>{ x with next:=y }):=SubS.of SubS.fst (fun _=>rfl) (fun _ _=>rfl)
theorem at_279_0 (a:Addr) (w:World):(Instr.fieldAt 279 (.pointer (some a)) 0).run Try.prog w=.ok (.pointer (some (a.add 0))) w:=by simp [Instr.fieldAt,run_underlying Try.underlying279,Instr.sureAddr,fieldPlace,Result.andThen]
theorem part_BoxStep_1:SubS (α:=BoxStep) 10 BoxStep.colour (fun x y=>{ x with colour:=y }):=SubS.of (SubS.comp SubS.snd SubS.fst rfl) (fun _=>rfl) (fun _ _=>rfl)
theorem at_279_1 (a:Addr) (w:World):(Instr.fieldAt 279 (.pointer (some a)) 1).run Try.prog w=.ok (.pointer (some (a.add 10))) w:=by simp [Instr.fieldAt,run_underlying Try.underlying279,Instr.sureAddr,fieldPlace,Result.andThen]
theorem part_BoxStep_2:SubS (α:=BoxStep) 11 BoxStep.moves (fun x y=>{ x with moves:=y }):=SubS.of (SubS.comp SubS.snd (SubS.comp SubS.snd SubS.id_ rfl) rfl) (fun _=>rfl) (fun _ _=>rfl)
theorem at_279_2 (a:Addr) (w:World):(Instr.fieldAt 279 (.pointer (some a)) 2).run Try.prog w=.ok (.pointer (some (a.add 11))) w:=by simp [Instr.fieldAt,run_underlying Try.underlying279,Instr.sureAddr,fieldPlace,Result.andThen]
structure BeamYields where
 stretch:Int
 crimp:Int
 waste:Int
 deriving DecidableEq,Inhabited
instance:GoT BeamYields:=GoT.struct BeamYields (β:=Int × Int × Int) (fun x=>(x.stretch,x.crimp,x.waste))
structure EyeThread where
 warp:Int
 eye:Int
 deriving DecidableEq,Inhabited
instance:GoT EyeThread:=GoT.struct EyeThread (β:=Int × Int) (fun x=>(x.warp,x.eye))
structure PointRun where
 first:Int
 length:Int
 lifted:Bool
 deriving DecidableEq,Inhabited
instance:GoT PointRun:=GoT.struct PointRun (β:=Int × Int × Bool) (fun x=>(x.first,x.length,x.lifted))
structure PointBinder where
 row:Int
 fixed:Int
 hooks:Int
 bound:Int
 top:Bool
 known:MapRef
 deriving DecidableEq,Inhabited
instance:GoT PointBinder:=GoT.struct PointBinder (β:=Int × Int × Int × Int × Bool × MapRef) (fun x=>(x.row,x.fixed,x.hooks,x.bound,x.top,x.known))
structure TieTieGroup where
 TieGroup:TieGroup
 deriving DecidableEq,Inhabited
instance:GoT TieTieGroup:=GoT.struct TieTieGroup (β:=TieGroup) (fun x=>x.TieGroup)
structure ChainState where
 at_:Int
 faults:Int
 deriving DecidableEq,Inhabited
instance:GoT ChainState:=GoT.struct ChainState (β:=Int × Int) (fun x=>(x.at_,x.faults))
structure PaySheet where
 PayTable:PayTable
 deriving DecidableEq,Inhabited
instance:GoT PaySheet:=GoT.struct PaySheet (β:=PayTable) (fun x=>x.PayTable)
structure PointState where
 left:Int
 length:Int
 first:Int
 lifted:Bool
 deriving DecidableEq,Inhabited
instance:GoT PointState:=GoT.struct PointState (β:=Int × Int × Int × Bool) (fun x=>(x.left,x.length,x.first,x.lifted))
structure PayPlace where
 row:Int
 column:Int
 deriving DecidableEq,Inhabited
instance:GoT PayPlace:=GoT.struct PayPlace (β:=Int × Int) (fun x=>(x.row,x.column))
end Go.Proofs.Ytpckllcdlpoieaa
