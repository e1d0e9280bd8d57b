/- The types of this seat, as data: structures, how they lie in memory, their parts. Printed by gtypes.py. -/
import Derived.Test.YtmpjooneiaiffaaCh
import Derived.Test.YtmpjooneiaiffaaProg
namespace Go.Proofs.Ytmpjooneiaiffaa
open Go.RowKit
theorem SubS.of {α β γ:Type} [GoT β] [GoT γ] {to:α→β} {off:Nat} {f:α→γ} {st:α→γ→α} {f':β→γ} {s':β→γ→β} (h:SubS off f' s') (h1:∀ x,f' (to x)=f x) (h2:∀ x y,to (st x y)=s' (to x) y):@SubS α γ (GoT.struct α to) _ off f st:=by
 refine ⟨⟨h.1.1,fun m w x cs hr=>?_⟩,fun m w x y cs cy hr hy=>?_⟩
 ·rw [← h1]; exact h.1.2 m w (to x) cs hr
 ·show GoT.rep m w (to (st x y)) _; rw [h2]; exact h.2 m w (to x) y cs cy hr hy
structure Span where
 Low:Int
 High:Int
 deriving DecidableEq,Inhabited
instance:GoT Span:=GoT.struct Span (β:=Int × Int) (fun x=>(x.Low,x.High))
theorem part_Span_0:SubS (α:=Span) 0 Span.Low (fun x y=>{ x with Low:=y }):=SubS.of SubS.fst (fun _=>rfl) (fun _ _=>rfl)
theorem at_85_0 (a:Addr) (w:World):(Instr.fieldAt 85 (.pointer (some a)) 0).run Try.prog w=.ok (.pointer (some (a.add 0))) w:=by simp [Instr.fieldAt,run_underlying Try.underlying85,Instr.sureAddr,fieldPlace,Result.andThen]
theorem part_Span_1:SubS (α:=Span) 1 Span.High (fun x y=>{ x with High:=y }):=SubS.of (SubS.comp SubS.snd SubS.id_ rfl) (fun _=>rfl) (fun _ _=>rfl)
theorem at_85_1 (a:Addr) (w:World):(Instr.fieldAt 85 (.pointer (some a)) 1).run Try.prog w=.ok (.pointer (some (a.add 1))) w:=by simp [Instr.fieldAt,run_underlying Try.underlying85,Instr.sureAddr,fieldPlace,Result.andThen]
structure BoxShuttle where
 Colour:Int
 Side:Int
 Box:Int
 Yarn:Span
 deriving DecidableEq,Inhabited
instance:GoT BoxShuttle:=GoT.struct BoxShuttle (β:=Int × Int × Int × Span) (fun x=>(x.Colour,x.Side,x.Box,x.Yarn))
theorem part_BoxShuttle_0:SubS (α:=BoxShuttle) 0 BoxShuttle.Colour (fun x y=>{ x with Colour:=y }):=SubS.of SubS.fst (fun _=>rfl) (fun _ _=>rfl)
theorem at_87_0 (a:Addr) (w:World):(Instr.fieldAt 87 (.pointer (some a)) 0).run Try.prog w=.ok (.pointer (some (a.add 0))) w:=by simp [Instr.fieldAt,run_underlying Try.underlying87,Instr.sureAddr,fieldPlace,Result.andThen]
theorem part_BoxShuttle_1:SubS (α:=BoxShuttle) 1 BoxShuttle.Side (fun x y=>{ x with Side:=y }):=SubS.of (SubS.comp SubS.snd SubS.fst rfl) (fun _=>rfl) (fun _ _=>rfl)
theorem at_87_1 (a:Addr) (w:World):(Instr.fieldAt 87 (.pointer (some a)) 1).run Try.prog w=.ok (.pointer (some (a.add 1))) w:=by simp [Instr.fieldAt,run_underlying Try.underlying87,Instr.sureAddr,fieldPlace,Result.andThen]
theorem part_BoxShuttle_2:SubS (α:=BoxShuttle) 2 BoxShuttle.Box (fun x y=>{ x with Box:=y }):=SubS.of (SubS.comp SubS.snd (SubS.comp SubS.snd SubS.fst rfl) rfl) (fun _=>rfl) (fun _ _=>rfl)
theorem at_87_2 (a:Addr) (w:World):(Instr.fieldAt 87 (.pointer (some a)) 2).run Try.prog w=.ok (.pointer (some (a.add 2))) w:=by simp [Instr.fieldAt,run_underlying Try.underlying87,Instr.sureAddr,fieldPlace,Result.andThen]
theorem part_BoxShuttle_3:SubS (α:=BoxShuttle) 3 BoxShuttle.Yarn (fun x y=>{ x with Yarn:=y }):=SubS.of (SubS.comp SubS.snd (SubS.comp SubS.snd (SubS.comp SubS.snd SubS.id_ rfl) rfl) rfl) (fun _=>rfl) (fun _ _=>rfl)
theorem at_87_3 (a:Addr) (w:World):(Instr.fieldAt 87 (.pointer (some a)) 3).run Try.prog w=.ok (.pointer (some (a.add 3))) w:=by simp [Instr.fieldAt,run_underlying Try.underlying87,Instr.sureAddr,fieldPlace,Result.andThen]
structure BoxLoom where
 Boxes:List Int
 At:List Int
 Shuttles:List BoxShuttle
 deriving DecidableEq,Inhabited
instance:GoT BoxLoom:=GoT.struct BoxLoom (β:=(List Int) × (List Int) × (List BoxShuttle)) (fun x=>(x.Boxes,x.At,x.Shuttles))
theorem part_BoxLoom_0:SubS (α:=BoxLoom) 0 BoxLoom.Boxes (fun x y=>{ x with Boxes:=y }):=SubS.of SubS.fst (fun _=>rfl) (fun _ _=>rfl)
theorem at_25_0 (a:Addr) (w:World):(Instr.fieldAt 25 (.pointer (some a)) 0).run Try.prog w=.ok (.pointer (some (a.add 0))) w:=by simp [Instr.fieldAt,run_underlying Try.underlying25,Instr.sureAddr,fieldPlace,Result.andThen]
theorem part_BoxLoom_1:SubS (α:=BoxLoom) 1 BoxLoom.At (fun x y=>{ x with At:=y }):=SubS.of (SubS.comp SubS.snd SubS.fst rfl) (fun _=>rfl) (fun _ _=>rfl)
theorem at_25_1 (a:Addr) (w:World):(Instr.fieldAt 25 (.pointer (some a)) 1).run Try.prog w=.ok (.pointer (some (a.add 1))) w:=by simp [Instr.fieldAt,run_underlying Try.underlying25,Instr.sureAddr,fieldPlace,Result.andThen]
theorem part_BoxLoom_2:SubS (α:=BoxLoom) 2 BoxLoom.Shuttles (fun x y=>{ x with Shuttles:=y }):=SubS.of (SubS.comp SubS.snd (SubS.comp SubS.snd SubS.id_ rfl) rfl) (fun _=>rfl) (fun _ _=>rfl)
theorem at_25_2 (a:Addr) (w:World):(Instr.fieldAt 25 (.pointer (some a)) 2).run Try.prog w=.ok (.pointer (some (a.add 2))) w:=by simp [Instr.fieldAt,run_underlying Try.underlying25,Instr.sureAddr,fieldPlace,Result.andThen]
structure Grifferef04Run where
 Thrown:List Int
 After:BoxLoom
 Moves:Int
 deriving DecidableEq,Inhabited
instance:GoT Grifferef04Run:=GoT.struct Grifferef04Run (β:=(List Int) × BoxLoom × Int) (fun x=>(x.Thrown,x.After,x.Moves))
structure Race where
 Boxes:Vector UInt8 4
 Shuttles:List (Vector UInt8 4)
 Picks:List UInt8
 deriving DecidableEq
instance:GoT Race:=GoT.struct Race (β:=(Vector UInt8 4) × (List (Vector UInt8 4)) × (List UInt8)) (fun x=>(x.Boxes,x.Shuttles,x.Picks))
theorem part_Race_0:SubS (α:=Race) 0 Race.Boxes (fun x y=>{ x with Boxes:=y }):=SubS.of SubS.fst (fun _=>rfl) (fun _ _=>rfl)
theorem at_73_0 (a:Addr) (w:World):(Instr.fieldAt 73 (.pointer (some a)) 0).run Try.prog w=.ok (.pointer (some (a.add 0))) w:=by simp [Instr.fieldAt,run_underlying Try.underlying73,Instr.sureAddr,fieldPlace,Result.andThen]
theorem part_Race_1:SubS (α:=Race) 4 Race.Shuttles (fun x y=>{ x with Shuttles:=y }):=SubS.of (SubS.comp SubS.snd SubS.fst rfl) (fun _=>rfl) (fun _ _=>rfl)
theorem at_73_1 (a:Addr) (w:World):(Instr.fieldAt 73 (.pointer (some a)) 1).run Try.prog w=.ok (.pointer (some (a.add 4))) w:=by simp [Instr.fieldAt,run_underlying Try.underlying73,Instr.sureAddr,fieldPlace,Result.andThen]
theorem part_Race_2:SubS (α:=Race) 5 Race.Picks (fun x y=>{ x with Picks:=y }):=SubS.of (SubS.comp SubS.snd (SubS.comp SubS.snd SubS.id_ rfl) rfl) (fun _=>rfl) (fun _ _=>rfl)
theorem at_73_2 (a:Addr) (w:World):(Instr.fieldAt 73 (.pointer (some a)) 2).run Try.prog w=.ok (.pointer (some (a.add 5))) w:=by simp [Instr.fieldAt,run_underlying Try.underlying73,Instr.sureAddr,fieldPlace,Result.andThen]
structure BoxPick where
 Left:Int
 Right:Int
 deriving DecidableEq,Inhabited
instance:GoT BoxPick:=GoT.struct BoxPick (β:=Int × Int) (fun x=>(x.Left,x.Right))
theorem part_BoxPick_0:SubS (α:=BoxPick) 0 BoxPick.Left (fun x y=>{ x with Left:=y }):=SubS.of SubS.fst (fun _=>rfl) (fun _ _=>rfl)
theorem at_83_0 (a:Addr) (w:World):(Instr.fieldAt 83 (.pointer (some a)) 0).run Try.prog w=.ok (.pointer (some (a.add 0))) w:=by simp [Instr.fieldAt,run_underlying Try.underlying83,Instr.sureAddr,fieldPlace,Result.andThen]
theorem part_BoxPick_1:SubS (α:=BoxPick) 1 BoxPick.Right (fun x y=>{ x with Right:=y }):=SubS.of (SubS.comp SubS.snd SubS.id_ rfl) (fun _=>rfl) (fun _ _=>rfl)
theorem at_83_1 (a:Addr) (w:World):(Instr.fieldAt 83 (.pointer (some a)) 1).run Try.prog w=.ok (.pointer (some (a.add 1))) w:=by simp [Instr.fieldAt,run_underlying Try.underlying83,Instr.sureAddr,fieldPlace,Result.andThen]
structure BoxBoxLoom where
 BoxLoom:BoxLoom
 deriving DecidableEq,Inhabited
instance:GoT BoxBoxLoom:=GoT.struct BoxBoxLoom (β:=BoxLoom) (fun x=>x.BoxLoom)
theorem part_BoxBoxLoom_0:SubS (α:=BoxBoxLoom) 0 BoxBoxLoom.BoxLoom (fun x y=>{ x with BoxLoom:=y }):=SubS.of SubS.id_ (fun _=>rfl) (fun _ _=>rfl)
theorem at_102_0 (a:Addr) (w:World):(Instr.fieldAt 102 (.pointer (some a)) 0).run Try.prog w=.ok (.pointer (some (a.add 0))) w:=by simp [Instr.fieldAt,run_underlying Try.underlying102,Instr.sureAddr,fieldPlace,Result.andThen]
structure BoxRace where
 boxes:Vector (Vector Int 4) 2
 at_:BoxPick
 deriving DecidableEq
instance:GoT BoxRace:=GoT.struct BoxRace (β:=(Vector (Vector Int 4) 2) × BoxPick) (fun x=>(x.boxes,x.at_))
theorem part_BoxRace_0:SubS (α:=BoxRace) 0 BoxRace.boxes (fun x y=>{ x with boxes:=y }):=SubS.of SubS.fst (fun _=>rfl) (fun _ _=>rfl)
theorem at_108_0 (a:Addr) (w:World):(Instr.fieldAt 108 (.pointer (some a)) 0).run Try.prog w=.ok (.pointer (some (a.add 0))) w:=by simp [Instr.fieldAt,run_underlying Try.underlying108,Instr.sureAddr,fieldPlace,Result.andThen]
theorem part_BoxRace_1:SubS (α:=BoxRace) 8 BoxRace.at_ (fun x y=>{ x with at_:=y }):=SubS.of (SubS.comp SubS.snd SubS.id_ rfl) (fun _=>rfl) (fun _ _=>rfl)
theorem at_108_1 (a:Addr) (w:World):(Instr.fieldAt 108 (.pointer (some a)) 1).run Try.prog w=.ok (.pointer (some (a.add 8))) w:=by simp [Instr.fieldAt,run_underlying Try.underlying108,Instr.sureAddr,fieldPlace,Result.andThen]
structure BoxPoint where
 group:Int
 done:Int
 race:BoxRace
 deriving DecidableEq
instance:GoT BoxPoint:=GoT.struct BoxPoint (β:=Int × Int × BoxRace) (fun x=>(x.group,x.done,x.race))
structure BoxRun where
 thrown:List Int
 last:BoxRace
 moves:Int
 deriving DecidableEq
instance:GoT BoxRun:=GoT.struct BoxRun (β:=(List Int) × BoxRace × Int) (fun x=>(x.thrown,x.last,x.moves))
theorem part_BoxRun_0:SubS (α:=BoxRun) 0 BoxRun.thrown (fun x y=>{ x with thrown:=y }):=SubS.of SubS.fst (fun _=>rfl) (fun _ _=>rfl)
theorem at_129_0 (a:Addr) (w:World):(Instr.fieldAt 129 (.pointer (some a)) 0).run Try.prog w=.ok (.pointer (some (a.add 0))) w:=by simp [Instr.fieldAt,run_underlying Try.underlying129,Instr.sureAddr,fieldPlace,Result.andThen]
theorem part_BoxRun_1:SubS (α:=BoxRun) 1 BoxRun.last (fun x y=>{ x with last:=y }):=SubS.of (SubS.comp SubS.snd SubS.fst rfl) (fun _=>rfl) (fun _ _=>rfl)
theorem at_129_1 (a:Addr) (w:World):(Instr.fieldAt 129 (.pointer (some a)) 1).run Try.prog w=.ok (.pointer (some (a.add 1))) w:=by simp [Instr.fieldAt,run_underlying Try.underlying129,Instr.sureAddr,fieldPlace,Result.andThen]
theorem part_BoxRun_2:SubS (α:=BoxRun) 11 BoxRun.moves (fun x y=>{ x with moves:=y }):=SubS.of (SubS.comp SubS.snd (SubS.comp SubS.snd SubS.id_ rfl) rfl) (fun _=>rfl) (fun _ _=>rfl)
theorem at_129_2 (a:Addr) (w:World):(Instr.fieldAt 129 (.pointer (some a)) 2).run Try.prog w=.ok (.pointer (some (a.add 11))) w:=by simp [Instr.fieldAt,run_underlying Try.underlying129,Instr.sureAddr,fieldPlace,Result.andThen]
structure BoxStep where
 next:BoxRace
 colour:Int
 moves:Int
 deriving DecidableEq
instance:GoT BoxStep:=GoT.struct BoxStep (β:=BoxRace × Int × Int) (fun x=>(x.next,x.colour,x.moves))
theorem part_BoxStep_1:SubS (α:=BoxStep) 10 BoxStep.colour (fun x y=>{ x with colour:=y }):=SubS.of (SubS.comp SubS.snd SubS.fst rfl) (fun _=>rfl) (fun _ _=>rfl)
theorem at_144_1 (a:Addr) (w:World):(Instr.fieldAt 144 (.pointer (some a)) 1).run Try.prog w=.ok (.pointer (some (a.add 10))) w:=by simp [Instr.fieldAt,run_underlying Try.underlying144,Instr.sureAddr,fieldPlace,Result.andThen]
structure BoxMill where
 left:Int
 right:Int
 known:MapRef
 deriving DecidableEq,Inhabited
instance:GoT BoxMill:=GoT.struct BoxMill (β:=Int × Int × MapRef) (fun x=>(x.left,x.right,x.known))
theorem part_BoxMill_0:SubS (α:=BoxMill) 0 BoxMill.left (fun x y=>{ x with left:=y }):=SubS.of SubS.fst (fun _=>rfl) (fun _ _=>rfl)
theorem at_154_0 (a:Addr) (w:World):(Instr.fieldAt 154 (.pointer (some a)) 0).run Try.prog w=.ok (.pointer (some (a.add 0))) w:=by simp [Instr.fieldAt,run_underlying Try.underlying154,Instr.sureAddr,fieldPlace,Result.andThen]
theorem part_BoxMill_1:SubS (α:=BoxMill) 1 BoxMill.right (fun x y=>{ x with right:=y }):=SubS.of (SubS.comp SubS.snd SubS.fst rfl) (fun _=>rfl) (fun _ _=>rfl)
theorem at_154_1 (a:Addr) (w:World):(Instr.fieldAt 154 (.pointer (some a)) 1).run Try.prog w=.ok (.pointer (some (a.add 1))) w:=by simp [Instr.fieldAt,run_underlying Try.underlying154,Instr.sureAddr,fieldPlace,Result.andThen]
end Go.Proofs.Ytmpjooneiaiffaa
