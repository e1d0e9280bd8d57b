/- The types of this seat, as data: structures, how they lie in memory, their parts. Printed by gtypes.py. -/
import Derived.Test.YtkfdjkkbnfohjaaGreatCp
import Derived.Test.YtkfdjkkbnfohjaaGreatProg
namespace Go.Proofs.YtkfdjkkbnfohjaaGreat
open Go.RowKit
theorem SubS.of {α β γ:Type} [GoT β] [GoT γ] {to:α→β} {off:Nat} {f:α→γ} {st:α→γ→α} {f':β→γ} {s':β→γ→β} (h:SubS off f' s') (h1:∀ x,f' (to x)=f x) (h2:∀ x y,to (st x y)=s' (to x) y):@SubS α γ (GoT.struct α to) _ off f st:=by
 refine ⟨⟨h.1.1,fun m w x cs hr=>?_⟩,fun m w x y cs cy hr hy=>?_⟩
 ·rw [← h1]; exact h.1.2 m w (to x) cs hr
 ·show GoT.rep m w (to (st x y)) _; rw [h2]; exact h.2 m w (to x) y cs cy hr hy
structure Race where
 Boxes:Vector UInt8 2
 Shuttles:Vector (Vector UInt8 2) 3
 deriving DecidableEq
instance:GoT Race:=GoT.struct Race (β:=(Vector UInt8 2) × (Vector (Vector UInt8 2) 3)) (fun x=>(x.Boxes,x.Shuttles))
theorem part_Race_0:SubS (α:=Race) 0 Race.Boxes (fun x y=>{ x with Boxes:=y }):=SubS.of SubS.fst (fun _=>rfl) (fun _ _=>rfl)
theorem at_26_0 (a:Addr) (w:World):(Instr.fieldAt 26 (.pointer (some a)) 0).run Tryz.prog w=.ok (.pointer (some (a.add 0))) w:=by simp [Instr.fieldAt,run_underlying Tryz.underlying26,Instr.sureAddr,fieldPlace,Result.andThen]
theorem part_Race_1:SubS (α:=Race) 2 Race.Shuttles (fun x y=>{ x with Shuttles:=y }):=SubS.of (SubS.comp SubS.snd SubS.id_ rfl) (fun _=>rfl) (fun _ _=>rfl)
theorem at_26_1 (a:Addr) (w:World):(Instr.fieldAt 26 (.pointer (some a)) 1).run Tryz.prog w=.ok (.pointer (some (a.add 2))) w:=by simp [Instr.fieldAt,run_underlying Tryz.underlying26,Instr.sureAddr,fieldPlace,Result.andThen]
structure Design where
 Hooks:Int
 Rows:List Int
 deriving DecidableEq,Inhabited
instance:GoT Design:=GoT.struct Design (β:=Int × (List Int)) (fun x=>(x.Hooks,x.Rows))
theorem part_Design_0:SubS (α:=Design) 0 Design.Hooks (fun x y=>{ x with Hooks:=y }):=SubS.of SubS.fst (fun _=>rfl) (fun _ _=>rfl)
theorem at_29_0 (a:Addr) (w:World):(Instr.fieldAt 29 (.pointer (some a)) 0).run Tryz.prog w=.ok (.pointer (some (a.add 0))) w:=by simp [Instr.fieldAt,run_underlying Tryz.underlying29,Instr.sureAddr,fieldPlace,Result.andThen]
theorem part_Design_1:SubS (α:=Design) 1 Design.Rows (fun x y=>{ x with Rows:=y }):=SubS.of (SubS.comp SubS.snd SubS.id_ rfl) (fun _=>rfl) (fun _ _=>rfl)
theorem at_29_1 (a:Addr) (w:World):(Instr.fieldAt 29 (.pointer (some a)) 1).run Tryz.prog w=.ok (.pointer (some (a.add 1))) w:=by simp [Instr.fieldAt,run_underlying Tryz.underlying29,Instr.sureAddr,fieldPlace,Result.andThen]
structure Span where
 Low:Int
 High:Int
 deriving DecidableEq,Inhabited
instance:GoT Span:=GoT.struct Span (β:=Int × Int) (fun x=>(x.Low,x.High))
theorem part_Span_0:SubS (α:=Span) 0 Span.Low (fun x y=>{ x with Low:=y }):=SubS.of SubS.fst (fun _=>rfl) (fun _ _=>rfl)
theorem at_63_0 (a:Addr) (w:World):(Instr.fieldAt 63 (.pointer (some a)) 0).run Tryz.prog w=.ok (.pointer (some (a.add 0))) w:=by simp [Instr.fieldAt,run_underlying Tryz.underlying63,Instr.sureAddr,fieldPlace,Result.andThen]
theorem part_Span_1:SubS (α:=Span) 1 Span.High (fun x y=>{ x with High:=y }):=SubS.of (SubS.comp SubS.snd SubS.id_ rfl) (fun _=>rfl) (fun _ _=>rfl)
theorem at_63_1 (a:Addr) (w:World):(Instr.fieldAt 63 (.pointer (some a)) 1).run Tryz.prog w=.ok (.pointer (some (a.add 1))) w:=by simp [Instr.fieldAt,run_underlying Tryz.underlying63,Instr.sureAddr,fieldPlace,Result.andThen]
structure BoxShuttle where
 Colour:Int
 Side:Int
 Box:Int
 Yarn:Span
 deriving DecidableEq,Inhabited
instance:GoT BoxShuttle:=GoT.struct BoxShuttle (β:=Int × Int × Int × Span) (fun x=>(x.Colour,x.Side,x.Box,x.Yarn))
theorem part_BoxShuttle_0:SubS (α:=BoxShuttle) 0 BoxShuttle.Colour (fun x y=>{ x with Colour:=y }):=SubS.of SubS.fst (fun _=>rfl) (fun _ _=>rfl)
theorem at_65_0 (a:Addr) (w:World):(Instr.fieldAt 65 (.pointer (some a)) 0).run Tryz.prog w=.ok (.pointer (some (a.add 0))) w:=by simp [Instr.fieldAt,run_underlying Tryz.underlying65,Instr.sureAddr,fieldPlace,Result.andThen]
theorem part_BoxShuttle_1:SubS (α:=BoxShuttle) 1 BoxShuttle.Side (fun x y=>{ x with Side:=y }):=SubS.of (SubS.comp SubS.snd SubS.fst rfl) (fun _=>rfl) (fun _ _=>rfl)
theorem at_65_1 (a:Addr) (w:World):(Instr.fieldAt 65 (.pointer (some a)) 1).run Tryz.prog w=.ok (.pointer (some (a.add 1))) w:=by simp [Instr.fieldAt,run_underlying Tryz.underlying65,Instr.sureAddr,fieldPlace,Result.andThen]
theorem part_BoxShuttle_2:SubS (α:=BoxShuttle) 2 BoxShuttle.Box (fun x y=>{ x with Box:=y }):=SubS.of (SubS.comp SubS.snd (SubS.comp SubS.snd SubS.fst rfl) rfl) (fun _=>rfl) (fun _ _=>rfl)
theorem at_65_2 (a:Addr) (w:World):(Instr.fieldAt 65 (.pointer (some a)) 2).run Tryz.prog w=.ok (.pointer (some (a.add 2))) w:=by simp [Instr.fieldAt,run_underlying Tryz.underlying65,Instr.sureAddr,fieldPlace,Result.andThen]
theorem part_BoxShuttle_3:SubS (α:=BoxShuttle) 3 BoxShuttle.Yarn (fun x y=>{ x with Yarn:=y }):=SubS.of (SubS.comp SubS.snd (SubS.comp SubS.snd (SubS.comp SubS.snd SubS.id_ rfl) rfl) rfl) (fun _=>rfl) (fun _ _=>rfl)
theorem at_65_3 (a:Addr) (w:World):(Instr.fieldAt 65 (.pointer (some a)) 3).run Tryz.prog w=.ok (.pointer (some (a.add 3))) w:=by simp [Instr.fieldAt,run_underlying Tryz.underlying65,Instr.sureAddr,fieldPlace,Result.andThen]
structure BoxLoom where
 Boxes:List Int
 At:List Int
 Shuttles:List BoxShuttle
 deriving DecidableEq,Inhabited
instance:GoT BoxLoom:=GoT.struct BoxLoom (β:=(List Int) × (List Int) × (List BoxShuttle)) (fun x=>(x.Boxes,x.At,x.Shuttles))
theorem part_BoxLoom_0:SubS (α:=BoxLoom) 0 BoxLoom.Boxes (fun x y=>{ x with Boxes:=y }):=SubS.of SubS.fst (fun _=>rfl) (fun _ _=>rfl)
theorem at_33_0 (a:Addr) (w:World):(Instr.fieldAt 33 (.pointer (some a)) 0).run Tryz.prog w=.ok (.pointer (some (a.add 0))) w:=by simp [Instr.fieldAt,run_underlying Tryz.underlying33,Instr.sureAddr,fieldPlace,Result.andThen]
theorem part_BoxLoom_1:SubS (α:=BoxLoom) 1 BoxLoom.At (fun x y=>{ x with At:=y }):=SubS.of (SubS.comp SubS.snd SubS.fst rfl) (fun _=>rfl) (fun _ _=>rfl)
theorem at_33_1 (a:Addr) (w:World):(Instr.fieldAt 33 (.pointer (some a)) 1).run Tryz.prog w=.ok (.pointer (some (a.add 1))) w:=by simp [Instr.fieldAt,run_underlying Tryz.underlying33,Instr.sureAddr,fieldPlace,Result.andThen]
theorem part_BoxLoom_2:SubS (α:=BoxLoom) 2 BoxLoom.Shuttles (fun x y=>{ x with Shuttles:=y }):=SubS.of (SubS.comp SubS.snd (SubS.comp SubS.snd SubS.id_ rfl) rfl) (fun _=>rfl) (fun _ _=>rfl)
theorem at_33_2 (a:Addr) (w:World):(Instr.fieldAt 33 (.pointer (some a)) 2).run Tryz.prog w=.ok (.pointer (some (a.add 2))) w:=by simp [Instr.fieldAt,run_underlying Tryz.underlying33,Instr.sureAddr,fieldPlace,Result.andThen]
structure TieHarness where
 Hooks:Int
 Warps:List Int
 deriving DecidableEq,Inhabited
instance:GoT TieHarness:=GoT.struct TieHarness (β:=Int × (List Int)) (fun x=>(x.Hooks,x.Warps))
theorem part_TieHarness_0:SubS (α:=TieHarness) 0 TieHarness.Hooks (fun x y=>{ x with Hooks:=y }):=SubS.of SubS.fst (fun _=>rfl) (fun _ _=>rfl)
theorem at_36_0 (a:Addr) (w:World):(Instr.fieldAt 36 (.pointer (some a)) 0).run Tryz.prog w=.ok (.pointer (some (a.add 0))) w:=by simp [Instr.fieldAt,run_underlying Tryz.underlying36,Instr.sureAddr,fieldPlace,Result.andThen]
theorem part_TieHarness_1:SubS (α:=TieHarness) 1 TieHarness.Warps (fun x y=>{ x with Warps:=y }):=SubS.of (SubS.comp SubS.snd SubS.id_ rfl) (fun _=>rfl) (fun _ _=>rfl)
theorem at_36_1 (a:Addr) (w:World):(Instr.fieldAt 36 (.pointer (some a)) 1).run Tryz.prog w=.ok (.pointer (some (a.add 1))) w:=by simp [Instr.fieldAt,run_underlying Tryz.underlying36,Instr.sureAddr,fieldPlace,Result.andThen]
structure TieGroup where
 First:Int
 Last:Int
 Way:Int
 Times:Int
 deriving DecidableEq,Inhabited
instance:GoT TieGroup:=GoT.struct TieGroup (β:=Int × Int × Int × Int) (fun x=>(x.First,x.Last,x.Way,x.Times))
theorem part_TieGroup_0:SubS (α:=TieGroup) 0 TieGroup.First (fun x y=>{ x with First:=y }):=SubS.of SubS.fst (fun _=>rfl) (fun _ _=>rfl)
theorem at_42_0 (a:Addr) (w:World):(Instr.fieldAt 42 (.pointer (some a)) 0).run Tryz.prog w=.ok (.pointer (some (a.add 0))) w:=by simp [Instr.fieldAt,run_underlying Tryz.underlying42,Instr.sureAddr,fieldPlace,Result.andThen]
theorem part_TieGroup_1:SubS (α:=TieGroup) 1 TieGroup.Last (fun x y=>{ x with Last:=y }):=SubS.of (SubS.comp SubS.snd SubS.fst rfl) (fun _=>rfl) (fun _ _=>rfl)
theorem at_42_1 (a:Addr) (w:World):(Instr.fieldAt 42 (.pointer (some a)) 1).run Tryz.prog w=.ok (.pointer (some (a.add 1))) w:=by simp [Instr.fieldAt,run_underlying Tryz.underlying42,Instr.sureAddr,fieldPlace,Result.andThen]
theorem part_TieGroup_2:SubS (α:=TieGroup) 2 TieGroup.Way (fun x y=>{ x with Way:=y }):=SubS.of (SubS.comp SubS.snd (SubS.comp SubS.snd SubS.fst rfl) rfl) (fun _=>rfl) (fun _ _=>rfl)
theorem at_42_2 (a:Addr) (w:World):(Instr.fieldAt 42 (.pointer (some a)) 2).run Tryz.prog w=.ok (.pointer (some (a.add 2))) w:=by simp [Instr.fieldAt,run_underlying Tryz.underlying42,Instr.sureAddr,fieldPlace,Result.andThen]
theorem part_TieGroup_3:SubS (α:=TieGroup) 3 TieGroup.Times (fun x y=>{ x with Times:=y }):=SubS.of (SubS.comp SubS.snd (SubS.comp SubS.snd (SubS.comp SubS.snd SubS.id_ rfl) rfl) rfl) (fun _=>rfl) (fun _ _=>rfl)
theorem at_42_3 (a:Addr) (w:World):(Instr.fieldAt 42 (.pointer (some a)) 3).run Tryz.prog w=.ok (.pointer (some (a.add 3))) w:=by simp [Instr.fieldAt,run_underlying Tryz.underlying42,Instr.sureAddr,fieldPlace,Result.andThen]
structure TieTieGroup where
 TieGroup:TieGroup
 deriving DecidableEq,Inhabited
instance:GoT TieTieGroup:=GoT.struct TieTieGroup (β:=TieGroup) (fun x=>x.TieGroup)
theorem part_TieTieGroup_0:SubS (α:=TieTieGroup) 0 TieTieGroup.TieGroup (fun x y=>{ x with TieGroup:=y }):=SubS.of SubS.id_ (fun _=>rfl) (fun _ _=>rfl)
theorem at_74_0 (a:Addr) (w:World):(Instr.fieldAt 74 (.pointer (some a)) 0).run Tryz.prog w=.ok (.pointer (some (a.add 0))) w:=by simp [Instr.fieldAt,run_underlying Tryz.underlying74,Instr.sureAddr,fieldPlace,Result.andThen]
structure TieTieHarness where
 TieHarness:TieHarness
 deriving DecidableEq,Inhabited
instance:GoT TieTieHarness:=GoT.struct TieTieHarness (β:=TieHarness) (fun x=>x.TieHarness)
theorem part_TieTieHarness_0:SubS (α:=TieTieHarness) 0 TieTieHarness.TieHarness (fun x y=>{ x with TieHarness:=y }):=SubS.of SubS.id_ (fun _=>rfl) (fun _ _=>rfl)
theorem at_79_0 (a:Addr) (w:World):(Instr.fieldAt 79 (.pointer (some a)) 0).run Tryz.prog w=.ok (.pointer (some (a.add 0))) w:=by simp [Instr.fieldAt,run_underlying Tryz.underlying79,Instr.sureAddr,fieldPlace,Result.andThen]
structure BoxBoxLoom where
 BoxLoom:BoxLoom
 deriving DecidableEq,Inhabited
instance:GoT BoxBoxLoom:=GoT.struct BoxBoxLoom (β:=BoxLoom) (fun x=>x.BoxLoom)
theorem part_BoxBoxLoom_0:SubS (α:=BoxBoxLoom) 0 BoxBoxLoom.BoxLoom (fun x y=>{ x with BoxLoom:=y }):=SubS.of SubS.id_ (fun _=>rfl) (fun _ _=>rfl)
theorem at_83_0 (a:Addr) (w:World):(Instr.fieldAt 83 (.pointer (some a)) 0).run Tryz.prog w=.ok (.pointer (some (a.add 0))) w:=by simp [Instr.fieldAt,run_underlying Tryz.underlying83,Instr.sureAddr,fieldPlace,Result.andThen]
structure BoxPick where
 Left:Int
 Right:Int
 deriving DecidableEq,Inhabited
instance:GoT BoxPick:=GoT.struct BoxPick (β:=Int × Int) (fun x=>(x.Left,x.Right))
theorem part_BoxPick_0:SubS (α:=BoxPick) 0 BoxPick.Left (fun x y=>{ x with Left:=y }):=SubS.of SubS.fst (fun _=>rfl) (fun _ _=>rfl)
theorem at_92_0 (a:Addr) (w:World):(Instr.fieldAt 92 (.pointer (some a)) 0).run Tryz.prog w=.ok (.pointer (some (a.add 0))) w:=by simp [Instr.fieldAt,run_underlying Tryz.underlying92,Instr.sureAddr,fieldPlace,Result.andThen]
theorem part_BoxPick_1:SubS (α:=BoxPick) 1 BoxPick.Right (fun x y=>{ x with Right:=y }):=SubS.of (SubS.comp SubS.snd SubS.id_ rfl) (fun _=>rfl) (fun _ _=>rfl)
theorem at_92_1 (a:Addr) (w:World):(Instr.fieldAt 92 (.pointer (some a)) 1).run Tryz.prog w=.ok (.pointer (some (a.add 1))) w:=by simp [Instr.fieldAt,run_underlying Tryz.underlying92,Instr.sureAddr,fieldPlace,Result.andThen]
structure BoxRace where
 boxes:Vector (Vector Int 4) 2
 at_:BoxPick
 deriving DecidableEq
instance:GoT BoxRace:=GoT.struct BoxRace (β:=(Vector (Vector Int 4) 2) × BoxPick) (fun x=>(x.boxes,x.at_))
theorem part_BoxRace_0:SubS (α:=BoxRace) 0 BoxRace.boxes (fun x y=>{ x with boxes:=y }):=SubS.of SubS.fst (fun _=>rfl) (fun _ _=>rfl)
theorem at_94_0 (a:Addr) (w:World):(Instr.fieldAt 94 (.pointer (some a)) 0).run Tryz.prog w=.ok (.pointer (some (a.add 0))) w:=by simp [Instr.fieldAt,run_underlying Tryz.underlying94,Instr.sureAddr,fieldPlace,Result.andThen]
theorem part_BoxRace_1:SubS (α:=BoxRace) 8 BoxRace.at_ (fun x y=>{ x with at_:=y }):=SubS.of (SubS.comp SubS.snd SubS.id_ rfl) (fun _=>rfl) (fun _ _=>rfl)
theorem at_94_1 (a:Addr) (w:World):(Instr.fieldAt 94 (.pointer (some a)) 1).run Tryz.prog w=.ok (.pointer (some (a.add 8))) w:=by simp [Instr.fieldAt,run_underlying Tryz.underlying94,Instr.sureAddr,fieldPlace,Result.andThen]
structure BoxPoint where
 group:Int
 done:Int
 race:BoxRace
 deriving DecidableEq
instance:GoT BoxPoint:=GoT.struct BoxPoint (β:=Int × Int × BoxRace) (fun x=>(x.group,x.done,x.race))
theorem part_BoxPoint_0:SubS (α:=BoxPoint) 0 BoxPoint.group (fun x y=>{ x with group:=y }):=SubS.of SubS.fst (fun _=>rfl) (fun _ _=>rfl)
theorem at_98_0 (a:Addr) (w:World):(Instr.fieldAt 98 (.pointer (some a)) 0).run Tryz.prog w=.ok (.pointer (some (a.add 0))) w:=by simp [Instr.fieldAt,run_underlying Tryz.underlying98,Instr.sureAddr,fieldPlace,Result.andThen]
theorem part_BoxPoint_1:SubS (α:=BoxPoint) 1 BoxPoint.done (fun x y=>{ x with done:=y }):=SubS.of (SubS.comp SubS.snd SubS.fst rfl) (fun _=>rfl) (fun _ _=>rfl)
theorem at_98_1 (a:Addr) (w:World):(Instr.fieldAt 98 (.pointer (some a)) 1).run Tryz.prog w=.ok (.pointer (some (a.add 1))) w:=by simp [Instr.fieldAt,run_underlying Tryz.underlying98,Instr.sureAddr,fieldPlace,Result.andThen]
theorem part_BoxPoint_2:SubS (α:=BoxPoint) 2 BoxPoint.race (fun x y=>{ x with race:=y }):=SubS.of (SubS.comp SubS.snd (SubS.comp SubS.snd SubS.id_ rfl) rfl) (fun _=>rfl) (fun _ _=>rfl)
theorem at_98_2 (a:Addr) (w:World):(Instr.fieldAt 98 (.pointer (some a)) 2).run Tryz.prog w=.ok (.pointer (some (a.add 2))) w:=by simp [Instr.fieldAt,run_underlying Tryz.underlying98,Instr.sureAddr,fieldPlace,Result.andThen]
structure BoxRun where
 thrown:List Int
 last:BoxRace
 moves:Int
 deriving DecidableEq
instance:GoT BoxRun:=GoT.struct BoxRun (β:=(List Int) × BoxRace × Int) (fun x=>(x.thrown,x.last,x.moves))
theorem part_BoxRun_0:SubS (α:=BoxRun) 0 BoxRun.thrown (fun x y=>{ x with thrown:=y }):=SubS.of SubS.fst (fun _=>rfl) (fun _ _=>rfl)
theorem at_105_0 (a:Addr) (w:World):(Instr.fieldAt 105 (.pointer (some a)) 0).run Tryz.prog w=.ok (.pointer (some (a.add 0))) w:=by simp [Instr.fieldAt,run_underlying Tryz.underlying105,Instr.sureAddr,fieldPlace,Result.andThen]
theorem part_BoxRun_1:SubS (α:=BoxRun) 1 BoxRun.last (fun x y=>{ x with last:=y }):=SubS.of (SubS.comp SubS.snd SubS.fst rfl) (fun _=>rfl) (fun _ _=>rfl)
theorem at_105_1 (a:Addr) (w:World):(Instr.fieldAt 105 (.pointer (some a)) 1).run Tryz.prog w=.ok (.pointer (some (a.add 1))) w:=by simp [Instr.fieldAt,run_underlying Tryz.underlying105,Instr.sureAddr,fieldPlace,Result.andThen]
theorem part_BoxRun_2:SubS (α:=BoxRun) 11 BoxRun.moves (fun x y=>{ x with moves:=y }):=SubS.of (SubS.comp SubS.snd (SubS.comp SubS.snd SubS.id_ rfl) rfl) (fun _=>rfl) (fun _ _=>rfl)
theorem at_105_2 (a:Addr) (w:World):(Instr.fieldAt 105 (.pointer (some a)) 2).run Tryz.prog w=.ok (.pointer (some (a.add 11))) w:=by simp [Instr.fieldAt,run_underlying Tryz.underlying105,Instr.sureAddr,fieldPlace,Result.andThen]
structure BoxMill where
 left:Int
 right:Int
 known:MapRef
 deriving DecidableEq,Inhabited
instance:GoT BoxMill:=GoT.struct BoxMill (β:=Int × Int × MapRef) (fun x=>(x.left,x.right,x.known))
theorem part_BoxMill_0:SubS (α:=BoxMill) 0 BoxMill.left (fun x y=>{ x with left:=y }):=SubS.of SubS.fst (fun _=>rfl) (fun _ _=>rfl)
theorem at_136_0 (a:Addr) (w:World):(Instr.fieldAt 136 (.pointer (some a)) 0).run Tryz.prog w=.ok (.pointer (some (a.add 0))) w:=by simp [Instr.fieldAt,run_underlying Tryz.underlying136,Instr.sureAddr,fieldPlace,Result.andThen]
theorem part_BoxMill_1:SubS (α:=BoxMill) 1 BoxMill.right (fun x y=>{ x with right:=y }):=SubS.of (SubS.comp SubS.snd SubS.fst rfl) (fun _=>rfl) (fun _ _=>rfl)
theorem at_136_1 (a:Addr) (w:World):(Instr.fieldAt 136 (.pointer (some a)) 1).run Tryz.prog w=.ok (.pointer (some (a.add 1))) w:=by simp [Instr.fieldAt,run_underlying Tryz.underlying136,Instr.sureAddr,fieldPlace,Result.andThen]
theorem at_136_2 (a:Addr) (w:World):(Instr.fieldAt 136 (.pointer (some a)) 2).run Tryz.prog w=.ok (.pointer (some (a.add 2))) w:=by simp [Instr.fieldAt,run_underlying Tryz.underlying136,Instr.sureAddr,fieldPlace,Result.andThen]
structure BoxStep where
 next:BoxRace
 colour:Int
 moves:Int
 deriving DecidableEq
instance:GoT BoxStep:=GoT.struct BoxStep (β:=BoxRace × Int × Int) (fun x=>(x.next,x.colour,x.moves))
theorem part_BoxStep_0:SubS (α:=BoxStep) 0 BoxStep.next (fun x y=>{ x with next:=y }):=SubS.of SubS.fst (fun _=>rfl) (fun _ _=>rfl)
theorem at_141_0 (a:Addr) (w:World):(Instr.fieldAt 141 (.pointer (some a)) 0).run Tryz.prog w=.ok (.pointer (some (a.add 0))) w:=by simp [Instr.fieldAt,run_underlying Tryz.underlying141,Instr.sureAddr,fieldPlace,Result.andThen]
theorem part_BoxStep_1:SubS (α:=BoxStep) 10 BoxStep.colour (fun x y=>{ x with colour:=y }):=SubS.of (SubS.comp SubS.snd SubS.fst rfl) (fun _=>rfl) (fun _ _=>rfl)
theorem at_141_1 (a:Addr) (w:World):(Instr.fieldAt 141 (.pointer (some a)) 1).run Tryz.prog w=.ok (.pointer (some (a.add 10))) w:=by simp [Instr.fieldAt,run_underlying Tryz.underlying141,Instr.sureAddr,fieldPlace,Result.andThen]
theorem part_BoxStep_2:SubS (α:=BoxStep) 11 BoxStep.moves (fun x y=>{ x with moves:=y }):=SubS.of (SubS.comp SubS.snd (SubS.comp SubS.snd SubS.id_ rfl) rfl) (fun _=>rfl) (fun _ _=>rfl)
theorem at_141_2 (a:Addr) (w:World):(Instr.fieldAt 141 (.pointer (some a)) 2).run Tryz.prog w=.ok (.pointer (some (a.add 11))) w:=by simp [Instr.fieldAt,run_underlying Tryz.underlying141,Instr.sureAddr,fieldPlace,Result.andThen]
end Go.Proofs.YtkfdjkkbnfohjaaGreat
