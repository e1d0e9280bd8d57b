/- The types of this seat, as data: structures, how they lie in memory, their parts. Printed by gtypes.py. -/
import Derived.Test.YtmpjooneiaiffaaQm
import Derived.Test.YtmpjooneiaiffaaProg
namespace Go.Proofs.Ytmpjooneiaiffaa
open Go.RowKit
theorem Ta.of {α β γ:Type} [GoT β] [GoT γ] {to:α→β} {off:Nat} {f:α→γ} {st:α→γ→α} {f':β→γ} {s':β→γ→β} (h:Ta off f' s') (h1:∀ x,f' (to x)=f x) (h2:∀ x y,to (st x y)=s' (to x) y):@Ta α γ (GoT.struct α to) _ off f st:=by
 refine ⟨⟨h.1.1,fun m w x cs hr=>?_⟩,fun m w x y cs cy hr hy=>?_⟩
 ·rw [← h1]; exact h.1.2 m w (to x) cs hr
 ·show GoT.rep m w (to (st x y)) _; rw [h2]; exact h.2 m w (to x) y cs cy hr hy
structure Wt where
 Low:Int
 High:Int
 deriving DecidableEq,Inhabited
instance:GoT Wt:=GoT.struct Wt (β:=Int × Int) (fun x=>(x.Low,x.High))
theorem part_Span_0:Ta (α:=Wt) 0 Wt.Low (fun x y=>{ x with Low:=y }):=Ta.of Ta.fst (fun _=>rfl) (fun _ _=>rfl)
theorem at_85_0 (a:Addr) (w:World):(Instr.fieldAt 85 (.pointer (some a)) 0).run Try.prog w=.ok (.pointer (some (a.add 0))) w:=by simp [Instr.fieldAt,run_underlying Try.underlying85,Instr.sureAddr,fieldPlace,Result.andThen]
theorem part_Span_1:Ta (α:=Wt) 1 Wt.High (fun x y=>{ x with High:=y }):=Ta.of (Ta.comp Ta.snd Ta.id_ rfl) (fun _=>rfl) (fun _ _=>rfl)
theorem at_85_1 (a:Addr) (w:World):(Instr.fieldAt 85 (.pointer (some a)) 1).run Try.prog w=.ok (.pointer (some (a.add 1))) w:=by simp [Instr.fieldAt,run_underlying Try.underlying85,Instr.sureAddr,fieldPlace,Result.andThen]
structure Zv where
 Colour:Int
 Side:Int
 Box:Int
 Yarn:Wt
 deriving DecidableEq,Inhabited
instance:GoT Zv:=GoT.struct Zv (β:=Int × Int × Int × Wt) (fun x=>(x.Colour,x.Side,x.Box,x.Yarn))
theorem part_BoxShuttle_0:Ta (α:=Zv) 0 Zv.Colour (fun x y=>{ x with Colour:=y }):=Ta.of Ta.fst (fun _=>rfl) (fun _ _=>rfl)
theorem at_87_0 (a:Addr) (w:World):(Instr.fieldAt 87 (.pointer (some a)) 0).run Try.prog w=.ok (.pointer (some (a.add 0))) w:=by simp [Instr.fieldAt,run_underlying Try.underlying87,Instr.sureAddr,fieldPlace,Result.andThen]
theorem Qt:Ta (α:=Zv) 1 Zv.Side (fun x y=>{ x with Side:=y }):=Ta.of (Ta.comp Ta.snd Ta.fst rfl) (fun _=>rfl) (fun _ _=>rfl)
theorem Ww (a:Addr) (w:World):(Instr.fieldAt 87 (.pointer (some a)) 1).run Try.prog w=.ok (.pointer (some (a.add 1))) w:=by simp [Instr.fieldAt,run_underlying Try.underlying87,Instr.sureAddr,fieldPlace,Result.andThen]
theorem Wl:Ta (α:=Zv) 2 Zv.Box (fun x y=>{ x with Box:=y }):=Ta.of (Ta.comp Ta.snd (Ta.comp Ta.snd Ta.fst rfl) rfl) (fun _=>rfl) (fun _ _=>rfl)
theorem at_87_2 (a:Addr) (w:World):(Instr.fieldAt 87 (.pointer (some a)) 2).run Try.prog w=.ok (.pointer (some (a.add 2))) w:=by simp [Instr.fieldAt,run_underlying Try.underlying87,Instr.sureAddr,fieldPlace,Result.andThen]
theorem Wd:Ta (α:=Zv) 3 Zv.Yarn (fun x y=>{ x with Yarn:=y }):=Ta.of (Ta.comp Ta.snd (Ta.comp Ta.snd (Ta.comp Ta.snd Ta.id_ rfl) rfl) rfl) (fun _=>rfl) (fun _ _=>rfl)
theorem at_87_3 (a:Addr) (w:World):(Instr.fieldAt 87 (.pointer (some a)) 3).run Try.prog w=.ok (.pointer (some (a.add 3))) w:=by simp [Instr.fieldAt,run_underlying Try.underlying87,Instr.sureAddr,fieldPlace,Result.andThen]
structure BoxLoom where
 Boxes:List Int
 At:List Int
 Shuttles:List Zv
 deriving DecidableEq,Inhabited
instance:GoT BoxLoom:=GoT.struct BoxLoom (β:=(List Int) × (List Int) × (List Zv)) (fun x=>(x.Boxes,x.At,x.Shuttles))
theorem Ts:Ta (α:=BoxLoom) 0 BoxLoom.Boxes (fun x y=>{ x with Boxes:=y }):=Ta.of Ta.fst (fun _=>rfl) (fun _ _=>rfl)
theorem Wo (a:Addr) (w:World):(Instr.fieldAt 25 (.pointer (some a)) 0).run Try.prog w=.ok (.pointer (some (a.add 0))) w:=by simp [Instr.fieldAt,run_underlying Try.underlying25,Instr.sureAddr,fieldPlace,Result.andThen]
theorem Qo:Ta (α:=BoxLoom) 1 BoxLoom.At (fun x y=>{ x with At:=y }):=Ta.of (Ta.comp Ta.snd Ta.fst rfl) (fun _=>rfl) (fun _ _=>rfl)
theorem at_25_1 (a:Addr) (w:World):(Instr.fieldAt 25 (.pointer (some a)) 1).run Try.prog w=.ok (.pointer (some (a.add 1))) w:=by simp [Instr.fieldAt,run_underlying Try.underlying25,Instr.sureAddr,fieldPlace,Result.andThen]
theorem Gx:Ta (α:=BoxLoom) 2 BoxLoom.Shuttles (fun x y=>{ x with Shuttles:=y }):=Ta.of (Ta.comp Ta.snd (Ta.comp Ta.snd Ta.id_ rfl) rfl) (fun _=>rfl) (fun _ _=>rfl)
theorem Qk (a:Addr) (w:World):(Instr.fieldAt 25 (.pointer (some a)) 2).run Try.prog w=.ok (.pointer (some (a.add 2))) w:=by simp [Instr.fieldAt,run_underlying Try.underlying25,Instr.sureAddr,fieldPlace,Result.andThen]
structure Grifferef04Run where
 Thrown:List Int
 After:BoxLoom
 Moves:Int
 deriving DecidableEq,Inhabited
instance:GoT Grifferef04Run:=GoT.struct Grifferef04Run (β:=(List Int) × BoxLoom × Int) (fun x=>(x.Thrown,x.After,x.Moves))
structure Race where
 Boxes:Vector UInt8 4
 Shuttles:List (Vector UInt8 4)
 Picks:List UInt8
 deriving DecidableEq
instance:GoT Race:=GoT.struct Race (β:=(Vector UInt8 4) × (List (Vector UInt8 4)) × (List UInt8)) (fun x=>(x.Boxes,x.Shuttles,x.Picks))
structure Ge where
 Left:Int
 Right:Int
 deriving DecidableEq,Inhabited
instance:GoT Ge:=GoT.struct Ge (β:=Int × Int) (fun x=>(x.Left,x.Right))
theorem Wa:Ta (α:=Ge) 0 Ge.Left (fun x y=>{ x with Left:=y }):=Ta.of Ta.fst (fun _=>rfl) (fun _ _=>rfl)
theorem at_83_0 (a:Addr) (w:World):(Instr.fieldAt 83 (.pointer (some a)) 0).run Try.prog w=.ok (.pointer (some (a.add 0))) w:=by simp [Instr.fieldAt,run_underlying Try.underlying83,Instr.sureAddr,fieldPlace,Result.andThen]
theorem Wc:Ta (α:=Ge) 1 Ge.Right (fun x y=>{ x with Right:=y }):=Ta.of (Ta.comp Ta.snd Ta.id_ rfl) (fun _=>rfl) (fun _ _=>rfl)
theorem at_83_1 (a:Addr) (w:World):(Instr.fieldAt 83 (.pointer (some a)) 1).run Try.prog w=.ok (.pointer (some (a.add 1))) w:=by simp [Instr.fieldAt,run_underlying Try.underlying83,Instr.sureAddr,fieldPlace,Result.andThen]
structure Gf where
 BoxLoom:BoxLoom
 deriving DecidableEq,Inhabited
instance:GoT Gf:=GoT.struct Gf (β:=BoxLoom) (fun x=>x.BoxLoom)
theorem Tq:Ta (α:=Gf) 0 Gf.BoxLoom (fun x y=>{ x with BoxLoom:=y }):=Ta.of Ta.id_ (fun _=>rfl) (fun _ _=>rfl)
theorem Ka (a:Addr) (w:World):(Instr.fieldAt 102 (.pointer (some a)) 0).run Try.prog w=.ok (.pointer (some (a.add 0))) w:=by simp [Instr.fieldAt,run_underlying Try.underlying102,Instr.sureAddr,fieldPlace,Result.andThen]
structure Gv where
 boxes:Vector (Vector Int 4) 2
 at_:Ge
 deriving DecidableEq
instance:GoT Gv:=GoT.struct Gv (β:=(Vector (Vector Int 4) 2) × Ge) (fun x=>(x.boxes,x.at_))
theorem Wu:Ta (α:=Gv) 0 Gv.boxes (fun x y=>{ x with boxes:=y }):=Ta.of Ta.fst (fun _=>rfl) (fun _ _=>rfl)
theorem at_108_0 (a:Addr) (w:World):(Instr.fieldAt 108 (.pointer (some a)) 0).run Try.prog w=.ok (.pointer (some (a.add 0))) w:=by simp [Instr.fieldAt,run_underlying Try.underlying108,Instr.sureAddr,fieldPlace,Result.andThen]
theorem part_BoxRace_1:Ta (α:=Gv) 8 Gv.at_ (fun x y=>{ x with at_:=y }):=Ta.of (Ta.comp Ta.snd Ta.id_ rfl) (fun _=>rfl) (fun _ _=>rfl)
theorem at_108_1 (a:Addr) (w:World):(Instr.fieldAt 108 (.pointer (some a)) 1).run Try.prog w=.ok (.pointer (some (a.add 8))) w:=by simp [Instr.fieldAt,run_underlying Try.underlying108,Instr.sureAddr,fieldPlace,Result.andThen]
structure Gd where
 group:Int
 done:Int
 race:Gv
 deriving DecidableEq
instance:GoT Gd:=GoT.struct Gd (β:=Int × Int × Gv) (fun x=>(x.group,x.done,x.race))
theorem Wx:Ta (α:=Gd) 0 Gd.group (fun x y=>{ x with group:=y }):=Ta.of Ta.fst (fun _=>rfl) (fun _ _=>rfl)
theorem at_112_0 (a:Addr) (w:World):(Instr.fieldAt 112 (.pointer (some a)) 0).run Try.prog w=.ok (.pointer (some (a.add 0))) w:=by simp [Instr.fieldAt,run_underlying Try.underlying112,Instr.sureAddr,fieldPlace,Result.andThen]
theorem part_BoxPoint_1:Ta (α:=Gd) 1 Gd.done (fun x y=>{ x with done:=y }):=Ta.of (Ta.comp Ta.snd Ta.fst rfl) (fun _=>rfl) (fun _ _=>rfl)
theorem at_112_1 (a:Addr) (w:World):(Instr.fieldAt 112 (.pointer (some a)) 1).run Try.prog w=.ok (.pointer (some (a.add 1))) w:=by simp [Instr.fieldAt,run_underlying Try.underlying112,Instr.sureAddr,fieldPlace,Result.andThen]
theorem part_BoxPoint_2:Ta (α:=Gd) 2 Gd.race (fun x y=>{ x with race:=y }):=Ta.of (Ta.comp Ta.snd (Ta.comp Ta.snd Ta.id_ rfl) rfl) (fun _=>rfl) (fun _ _=>rfl)
theorem at_112_2 (a:Addr) (w:World):(Instr.fieldAt 112 (.pointer (some a)) 2).run Try.prog w=.ok (.pointer (some (a.add 2))) w:=by simp [Instr.fieldAt,run_underlying Try.underlying112,Instr.sureAddr,fieldPlace,Result.andThen]
structure Tz where
 thrown:List Int
 last:Gv
 moves:Int
 deriving DecidableEq
instance:GoT Tz:=GoT.struct Tz (β:=(List Int) × Gv × Int) (fun x=>(x.thrown,x.last,x.moves))
theorem part_BoxRun_0:Ta (α:=Tz) 0 Tz.thrown (fun x y=>{ x with thrown:=y }):=Ta.of Ta.fst (fun _=>rfl) (fun _ _=>rfl)
theorem at_129_0 (a:Addr) (w:World):(Instr.fieldAt 129 (.pointer (some a)) 0).run Try.prog w=.ok (.pointer (some (a.add 0))) w:=by simp [Instr.fieldAt,run_underlying Try.underlying129,Instr.sureAddr,fieldPlace,Result.andThen]
theorem part_BoxRun_1:Ta (α:=Tz) 1 Tz.last (fun x y=>{ x with last:=y }):=Ta.of (Ta.comp Ta.snd Ta.fst rfl) (fun _=>rfl) (fun _ _=>rfl)
theorem at_129_1 (a:Addr) (w:World):(Instr.fieldAt 129 (.pointer (some a)) 1).run Try.prog w=.ok (.pointer (some (a.add 1))) w:=by simp [Instr.fieldAt,run_underlying Try.underlying129,Instr.sureAddr,fieldPlace,Result.andThen]
theorem part_BoxRun_2:Ta (α:=Tz) 11 Tz.moves (fun x y=>{ x with moves:=y }):=Ta.of (Ta.comp Ta.snd (Ta.comp Ta.snd Ta.id_ rfl) rfl) (fun _=>rfl) (fun _ _=>rfl)
theorem at_129_2 (a:Addr) (w:World):(Instr.fieldAt 129 (.pointer (some a)) 2).run Try.prog w=.ok (.pointer (some (a.add 11))) w:=by simp [Instr.fieldAt,run_underlying Try.underlying129,Instr.sureAddr,fieldPlace,Result.andThen]
structure Te where
 next:Gv
 colour:Int
 moves:Int
 deriving DecidableEq
instance:GoT Te:=GoT.struct Te (β:=Gv × Int × Int) (fun x=>(x.next,x.colour,x.moves))
theorem part_BoxStep_0:Ta (α:=Te) 0 Te.next (fun x y=>{ x with next:=y }):=Ta.of Ta.fst (fun _=>rfl) (fun _ _=>rfl)
theorem at_144_0 (a:Addr) (w:World):(Instr.fieldAt 144 (.pointer (some a)) 0).run Try.prog w=.ok (.pointer (some (a.add 0))) w:=by simp [Instr.fieldAt,run_underlying Try.underlying144,Instr.sureAddr,fieldPlace,Result.andThen]
theorem part_BoxStep_1:Ta (α:=Te) 10 Te.colour (fun x y=>{ x with colour:=y }):=Ta.of (Ta.comp Ta.snd Ta.fst rfl) (fun _=>rfl) (fun _ _=>rfl)
theorem at_144_1 (a:Addr) (w:World):(Instr.fieldAt 144 (.pointer (some a)) 1).run Try.prog w=.ok (.pointer (some (a.add 10))) w:=by simp [Instr.fieldAt,run_underlying Try.underlying144,Instr.sureAddr,fieldPlace,Result.andThen]
theorem part_BoxStep_2:Ta (α:=Te) 11 Te.moves (fun x y=>{ x with moves:=y }):=Ta.of (Ta.comp Ta.snd (Ta.comp Ta.snd Ta.id_ rfl) rfl) (fun _=>rfl) (fun _ _=>rfl)
theorem at_144_2 (a:Addr) (w:World):(Instr.fieldAt 144 (.pointer (some a)) 2).run Try.prog w=.ok (.pointer (some (a.add 11))) w:=by simp [Instr.fieldAt,run_underlying Try.underlying144,Instr.sureAddr,fieldPlace,Result.andThen]
structure Tn where
 left:Int
 right:Int
 known:MapRef
 deriving DecidableEq,Inhabited
instance:GoT Tn:=GoT.struct Tn (β:=Int × Int × MapRef) (fun x=>(x.left,x.right,x.known))
theorem part_BoxMill_0:Ta (α:=Tn) 0 Tn.left (fun x y=>{ x with left:=y }):=Ta.of Ta.fst (fun _=>rfl) (fun _ _=>rfl)
theorem at_154_0 (a:Addr) (w:World):(Instr.fieldAt 154 (.pointer (some a)) 0).run Try.prog w=.ok (.pointer (some (a.add 0))) w:=by simp [Instr.fieldAt,run_underlying Try.underlying154,Instr.sureAddr,fieldPlace,Result.andThen]
theorem part_BoxMill_1:Ta (α:=Tn) 1 Tn.right (fun x y=>{ x with right:=y }):=Ta.of (Ta.comp Ta.snd Ta.fst rfl) (fun _=>rfl) (fun _ _=>rfl)
theorem at_154_1 (a:Addr) (w:World):(Instr.fieldAt 154 (.pointer (some a)) 1).run Try.prog w=.ok (.pointer (some (a.add 1))) w:=by simp [Instr.fieldAt,run_underlying Try.underlying154,Instr.sureAddr,fieldPlace,Result.andThen]
theorem at_154_2 (a:Addr) (w:World):(Instr.fieldAt 154 (.pointer (some a)) 2).run Try.prog w=.ok (.pointer (some (a.add 2))) w:=by simp [Instr.fieldAt,run_underlying Try.underlying154,Instr.sureAddr,fieldPlace,Result.andThen]
end Go.Proofs.Ytmpjooneiaiffaa
