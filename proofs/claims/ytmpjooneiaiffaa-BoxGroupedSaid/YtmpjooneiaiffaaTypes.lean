/- The types of this seat, as data: structures, how they lie in memory, their parts. Printed by gtypes.py. -/
import Derived.Test.YtmpjooneiaiffaaQm
import Derived.Test.YtmpjooneiaiffaaProg
namespace Go.Proofs.Ytmpjooneiaiffaa
open Go.RowKit
theorem Gv.of {α β γ:Type} [GoT β] [GoT γ] {to:α→β} {off:Nat} {f:α→γ} {st:α→γ→α} {f':β→γ} {s':β→γ→β} (h:Gv off f' s') (h1:∀ x,f' (to x)=f x) (h2:∀ x y,to (st x y)=s' (to x) y):@Gv α γ (GoT.struct α to) _ off f st:=by
 refine ⟨⟨h.1.1,fun m w x cs hr=>?_⟩,fun m w x y cs cy hr hy=>?_⟩
 ·rw [← h1]; exact h.1.2 m w (to x) cs hr
 ·show GoT.rep m w (to (st x y)) _; rw [h2]; exact h.2 m w (to x) y cs cy hr hy
structure Kf where
 Low:Int
 High:Int
 deriving DecidableEq,Inhabited
instance:GoT Kf:=GoT.struct Kf (β:=Int × Int) (fun x=>(x.Low,x.High))
theorem Vo:Gv (α:=Kf) 0 Kf.Low (fun x y=>{ x with Low:=y }):=Gv.of Gv.fst (fun _=>rfl) (fun _ _=>rfl)
theorem Sc (a:Addr) (w:World):(Instr.fieldAt 85 (.pointer (some a)) 0).run Try.prog w=.ok (.pointer (some (a.add 0))) w:=by simp [Instr.fieldAt,run_underlying Try.underlying85,Instr.sureAddr,fieldPlace,Result.andThen]
theorem Vm:Gv (α:=Kf) 1 Kf.High (fun x y=>{ x with High:=y }):=Gv.of (Gv.comp Gv.snd Gv.id_ rfl) (fun _=>rfl) (fun _ _=>rfl)
theorem So (a:Addr) (w:World):(Instr.fieldAt 85 (.pointer (some a)) 1).run Try.prog w=.ok (.pointer (some (a.add 1))) w:=by simp [Instr.fieldAt,run_underlying Try.underlying85,Instr.sureAddr,fieldPlace,Result.andThen]
structure Zv where
 Colour:Int
 Side:Int
 Box:Int
 Yarn:Kf
 deriving DecidableEq,Inhabited
instance:GoT Zv:=GoT.struct Zv (β:=Int × Int × Int × Kf) (fun x=>(x.Colour,x.Side,x.Box,x.Yarn))
theorem Jt:Gv (α:=Zv) 0 Zv.Colour (fun x y=>{ x with Colour:=y }):=Gv.of Gv.fst (fun _=>rfl) (fun _ _=>rfl)
theorem Vv (a:Addr) (w:World):(Instr.fieldAt 87 (.pointer (some a)) 0).run Try.prog w=.ok (.pointer (some (a.add 0))) w:=by simp [Instr.fieldAt,run_underlying Try.underlying87,Instr.sureAddr,fieldPlace,Result.andThen]
theorem Wq:Gv (α:=Zv) 1 Zv.Side (fun x y=>{ x with Side:=y }):=Gv.of (Gv.comp Gv.snd Gv.fst rfl) (fun _=>rfl) (fun _ _=>rfl)
theorem Jz (a:Addr) (w:World):(Instr.fieldAt 87 (.pointer (some a)) 1).run Try.prog w=.ok (.pointer (some (a.add 1))) w:=by simp [Instr.fieldAt,run_underlying Try.underlying87,Instr.sureAddr,fieldPlace,Result.andThen]
theorem Kw:Gv (α:=Zv) 2 Zv.Box (fun x y=>{ x with Box:=y }):=Gv.of (Gv.comp Gv.snd (Gv.comp Gv.snd Gv.fst rfl) rfl) (fun _=>rfl) (fun _ _=>rfl)
theorem Vx (a:Addr) (w:World):(Instr.fieldAt 87 (.pointer (some a)) 2).run Try.prog w=.ok (.pointer (some (a.add 2))) w:=by simp [Instr.fieldAt,run_underlying Try.underlying87,Instr.sureAddr,fieldPlace,Result.andThen]
theorem Kx:Gv (α:=Zv) 3 Zv.Yarn (fun x y=>{ x with Yarn:=y }):=Gv.of (Gv.comp Gv.snd (Gv.comp Gv.snd (Gv.comp Gv.snd Gv.id_ rfl) rfl) rfl) (fun _=>rfl) (fun _ _=>rfl)
theorem Vy (a:Addr) (w:World):(Instr.fieldAt 87 (.pointer (some a)) 3).run Try.prog w=.ok (.pointer (some (a.add 3))) w:=by simp [Instr.fieldAt,run_underlying Try.underlying87,Instr.sureAddr,fieldPlace,Result.andThen]
structure BoxLoom where
 Boxes:List Int
 At:List Int
 Shuttles:List Zv
 deriving DecidableEq,Inhabited
instance:GoT BoxLoom:=GoT.struct BoxLoom (β:=(List Int) × (List Int) × (List Zv)) (fun x=>(x.Boxes,x.At,x.Shuttles))
theorem Tv:Gv (α:=BoxLoom) 0 BoxLoom.Boxes (fun x y=>{ x with Boxes:=y }):=Gv.of Gv.fst (fun _=>rfl) (fun _ _=>rfl)
theorem Km (a:Addr) (w:World):(Instr.fieldAt 25 (.pointer (some a)) 0).run Try.prog w=.ok (.pointer (some (a.add 0))) w:=by simp [Instr.fieldAt,run_underlying Try.underlying25,Instr.sureAddr,fieldPlace,Result.andThen]
theorem Kk:Gv (α:=BoxLoom) 1 BoxLoom.At (fun x y=>{ x with At:=y }):=Gv.of (Gv.comp Gv.snd Gv.fst rfl) (fun _=>rfl) (fun _ _=>rfl)
theorem Uv (a:Addr) (w:World):(Instr.fieldAt 25 (.pointer (some a)) 1).run Try.prog w=.ok (.pointer (some (a.add 1))) w:=by simp [Instr.fieldAt,run_underlying Try.underlying25,Instr.sureAddr,fieldPlace,Result.andThen]
theorem Tu:Gv (α:=BoxLoom) 2 BoxLoom.Shuttles (fun x y=>{ x with Shuttles:=y }):=Gv.of (Gv.comp Gv.snd (Gv.comp Gv.snd Gv.id_ rfl) rfl) (fun _=>rfl) (fun _ _=>rfl)
theorem Kq (a:Addr) (w:World):(Instr.fieldAt 25 (.pointer (some a)) 2).run Try.prog w=.ok (.pointer (some (a.add 2))) w:=by simp [Instr.fieldAt,run_underlying Try.underlying25,Instr.sureAddr,fieldPlace,Result.andThen]
structure Du where
 Thrown:List Int
 After:BoxLoom
 Moves:Int
 deriving DecidableEq,Inhabited
instance:GoT Du:=GoT.struct Du (β:=(List Int) × BoxLoom × Int) (fun x=>(x.Thrown,x.After,x.Moves))
structure Yb where
 Boxes:Vector UInt8 4
 Shuttles:List (Vector UInt8 4)
 Picks:List UInt8
 deriving DecidableEq
instance:GoT Yb:=GoT.struct Yb (β:=(Vector UInt8 4) × (List (Vector UInt8 4)) × (List UInt8)) (fun x=>(x.Boxes,x.Shuttles,x.Picks))
theorem Vq:Gv (α:=Yb) 0 Yb.Boxes (fun x y=>{ x with Boxes:=y }):=Gv.of Gv.fst (fun _=>rfl) (fun _ _=>rfl)
theorem Ct (a:Addr) (w:World):(Instr.fieldAt 73 (.pointer (some a)) 0).run Try.prog w=.ok (.pointer (some (a.add 0))) w:=by simp [Instr.fieldAt,run_underlying Try.underlying73,Instr.sureAddr,fieldPlace,Result.andThen]
theorem Xw:Gv (α:=Yb) 4 Yb.Shuttles (fun x y=>{ x with Shuttles:=y }):=Gv.of (Gv.comp Gv.snd Gv.fst rfl) (fun _=>rfl) (fun _ _=>rfl)
theorem Mz (a:Addr) (w:World):(Instr.fieldAt 73 (.pointer (some a)) 1).run Try.prog w=.ok (.pointer (some (a.add 4))) w:=by simp [Instr.fieldAt,run_underlying Try.underlying73,Instr.sureAddr,fieldPlace,Result.andThen]
theorem Dm:Gv (α:=Yb) 5 Yb.Picks (fun x y=>{ x with Picks:=y }):=Gv.of (Gv.comp Gv.snd (Gv.comp Gv.snd Gv.id_ rfl) rfl) (fun _=>rfl) (fun _ _=>rfl)
theorem Ma (a:Addr) (w:World):(Instr.fieldAt 73 (.pointer (some a)) 2).run Try.prog w=.ok (.pointer (some (a.add 5))) w:=by simp [Instr.fieldAt,run_underlying Try.underlying73,Instr.sureAddr,fieldPlace,Result.andThen]
structure Gf where
 Left:Int
 Right:Int
 deriving DecidableEq,Inhabited
instance:GoT Gf:=GoT.struct Gf (β:=Int × Int) (fun x=>(x.Left,x.Right))
theorem Qx:Gv (α:=Gf) 0 Gf.Left (fun x y=>{ x with Left:=y }):=Gv.of Gv.fst (fun _=>rfl) (fun _ _=>rfl)
theorem Yh (a:Addr) (w:World):(Instr.fieldAt 83 (.pointer (some a)) 0).run Try.prog w=.ok (.pointer (some (a.add 0))) w:=by simp [Instr.fieldAt,run_underlying Try.underlying83,Instr.sureAddr,fieldPlace,Result.andThen]
theorem Qz:Gv (α:=Gf) 1 Gf.Right (fun x y=>{ x with Right:=y }):=Gv.of (Gv.comp Gv.snd Gv.id_ rfl) (fun _=>rfl) (fun _ _=>rfl)
theorem Yp (a:Addr) (w:World):(Instr.fieldAt 83 (.pointer (some a)) 1).run Try.prog w=.ok (.pointer (some (a.add 1))) w:=by simp [Instr.fieldAt,run_underlying Try.underlying83,Instr.sureAddr,fieldPlace,Result.andThen]
structure Gg where
 BoxLoom:BoxLoom
 deriving DecidableEq,Inhabited
instance:GoT Gg:=GoT.struct Gg (β:=BoxLoom) (fun x=>x.BoxLoom)
theorem Tn:Gv (α:=Gg) 0 Gg.BoxLoom (fun x y=>{ x with BoxLoom:=y }):=Gv.of Gv.id_ (fun _=>rfl) (fun _ _=>rfl)
theorem Kc (a:Addr) (w:World):(Instr.fieldAt 102 (.pointer (some a)) 0).run Try.prog w=.ok (.pointer (some (a.add 0))) w:=by simp [Instr.fieldAt,run_underlying Try.underlying102,Instr.sureAddr,fieldPlace,Result.andThen]
structure Gu where
 boxes:Vector (Vector Int 4) 2
 at_:Gf
 deriving DecidableEq
instance:GoT Gu:=GoT.struct Gu (β:=(Vector (Vector Int 4) 2) × Gf) (fun x=>(x.boxes,x.at_))
theorem Ww:Gv (α:=Gu) 0 Gu.boxes (fun x y=>{ x with boxes:=y }):=Gv.of Gv.fst (fun _=>rfl) (fun _ _=>rfl)
theorem Uc (a:Addr) (w:World):(Instr.fieldAt 108 (.pointer (some a)) 0).run Try.prog w=.ok (.pointer (some (a.add 0))) w:=by simp [Instr.fieldAt,run_underlying Try.underlying108,Instr.sureAddr,fieldPlace,Result.andThen]
theorem Ks:Gv (α:=Gu) 8 Gu.at_ (fun x y=>{ x with at_:=y }):=Gv.of (Gv.comp Gv.snd Gv.id_ rfl) (fun _=>rfl) (fun _ _=>rfl)
theorem Xg (a:Addr) (w:World):(Instr.fieldAt 108 (.pointer (some a)) 1).run Try.prog w=.ok (.pointer (some (a.add 8))) w:=by simp [Instr.fieldAt,run_underlying Try.underlying108,Instr.sureAddr,fieldPlace,Result.andThen]
structure Gd where
 group:Int
 done:Int
 race:Gu
 deriving DecidableEq
instance:GoT Gd:=GoT.struct Gd (β:=Int × Int × Gu) (fun x=>(x.group,x.done,x.race))
theorem Wy:Gv (α:=Gd) 0 Gd.group (fun x y=>{ x with group:=y }):=Gv.of Gv.fst (fun _=>rfl) (fun _ _=>rfl)
theorem Uh (a:Addr) (w:World):(Instr.fieldAt 112 (.pointer (some a)) 0).run Try.prog w=.ok (.pointer (some (a.add 0))) w:=by simp [Instr.fieldAt,run_underlying Try.underlying112,Instr.sureAddr,fieldPlace,Result.andThen]
theorem Ky:Gv (α:=Gd) 1 Gd.done (fun x y=>{ x with done:=y }):=Gv.of (Gv.comp Gv.snd Gv.fst rfl) (fun _=>rfl) (fun _ _=>rfl)
theorem Dw (a:Addr) (w:World):(Instr.fieldAt 112 (.pointer (some a)) 1).run Try.prog w=.ok (.pointer (some (a.add 1))) w:=by simp [Instr.fieldAt,run_underlying Try.underlying112,Instr.sureAddr,fieldPlace,Result.andThen]
theorem Hm:Gv (α:=Gd) 2 Gd.race (fun x y=>{ x with race:=y }):=Gv.of (Gv.comp Gv.snd (Gv.comp Gv.snd Gv.id_ rfl) rfl) (fun _=>rfl) (fun _ _=>rfl)
theorem Sd (a:Addr) (w:World):(Instr.fieldAt 112 (.pointer (some a)) 2).run Try.prog w=.ok (.pointer (some (a.add 2))) w:=by simp [Instr.fieldAt,run_underlying Try.underlying112,Instr.sureAddr,fieldPlace,Result.andThen]
structure Ty where
 thrown:List Int
 last:Gu
 moves:Int
 deriving DecidableEq
instance:GoT Ty:=GoT.struct Ty (β:=(List Int) × Gu × Int) (fun x=>(x.thrown,x.last,x.moves))
theorem Yf:Gv (α:=Ty) 0 Ty.thrown (fun x y=>{ x with thrown:=y }):=Gv.of Gv.fst (fun _=>rfl) (fun _ _=>rfl)
theorem Df (a:Addr) (w:World):(Instr.fieldAt 129 (.pointer (some a)) 0).run Try.prog w=.ok (.pointer (some (a.add 0))) w:=by simp [Instr.fieldAt,run_underlying Try.underlying129,Instr.sureAddr,fieldPlace,Result.andThen]
theorem Jm:Gv (α:=Ty) 1 Ty.last (fun x y=>{ x with last:=y }):=Gv.of (Gv.comp Gv.snd Gv.fst rfl) (fun _=>rfl) (fun _ _=>rfl)
theorem Xc (a:Addr) (w:World):(Instr.fieldAt 129 (.pointer (some a)) 1).run Try.prog w=.ok (.pointer (some (a.add 1))) w:=by simp [Instr.fieldAt,run_underlying Try.underlying129,Instr.sureAddr,fieldPlace,Result.andThen]
theorem Bl:Gv (α:=Ty) 11 Ty.moves (fun x y=>{ x with moves:=y }):=Gv.of (Gv.comp Gv.snd (Gv.comp Gv.snd Gv.id_ rfl) rfl) (fun _=>rfl) (fun _ _=>rfl)
theorem Ia (a:Addr) (w:World):(Instr.fieldAt 129 (.pointer (some a)) 2).run Try.prog w=.ok (.pointer (some (a.add 11))) w:=by simp [Instr.fieldAt,run_underlying Try.underlying129,Instr.sureAddr,fieldPlace,Result.andThen]
structure Tc where
 next:Gu
 colour:Int
 moves:Int
 deriving DecidableEq
instance:GoT Tc:=GoT.struct Tc (β:=Gu × Int × Int) (fun x=>(x.next,x.colour,x.moves))
theorem Lo:Gv (α:=Tc) 0 Tc.next (fun x y=>{ x with next:=y }):=Gv.of Gv.fst (fun _=>rfl) (fun _ _=>rfl)
theorem at_144_0 (a:Addr) (w:World):(Instr.fieldAt 144 (.pointer (some a)) 0).run Try.prog w=.ok (.pointer (some (a.add 0))) w:=by simp [Instr.fieldAt,run_underlying Try.underlying144,Instr.sureAddr,fieldPlace,Result.andThen]
theorem Jx:Gv (α:=Tc) 10 Tc.colour (fun x y=>{ x with colour:=y }):=Gv.of (Gv.comp Gv.snd Gv.fst rfl) (fun _=>rfl) (fun _ _=>rfl)
theorem Xb (a:Addr) (w:World):(Instr.fieldAt 144 (.pointer (some a)) 1).run Try.prog w=.ok (.pointer (some (a.add 10))) w:=by simp [Instr.fieldAt,run_underlying Try.underlying144,Instr.sureAddr,fieldPlace,Result.andThen]
theorem Yt:Gv (α:=Tc) 11 Tc.moves (fun x y=>{ x with moves:=y }):=Gv.of (Gv.comp Gv.snd (Gv.comp Gv.snd Gv.id_ rfl) rfl) (fun _=>rfl) (fun _ _=>rfl)
theorem St (a:Addr) (w:World):(Instr.fieldAt 144 (.pointer (some a)) 2).run Try.prog w=.ok (.pointer (some (a.add 11))) w:=by simp [Instr.fieldAt,run_underlying Try.underlying144,Instr.sureAddr,fieldPlace,Result.andThen]
structure Th where
 left:Int
 right:Int
 known:Mp
 deriving DecidableEq,Inhabited
instance:GoT Th:=GoT.struct Th (β:=Int × Int × Mp) (fun x=>(x.left,x.right,x.known))
theorem Lg:Gv (α:=Th) 0 Th.left (fun x y=>{ x with left:=y }):=Gv.of Gv.fst (fun _=>rfl) (fun _ _=>rfl)
theorem at_154_0 (a:Addr) (w:World):(Instr.fieldAt 154 (.pointer (some a)) 0).run Try.prog w=.ok (.pointer (some (a.add 0))) w:=by simp [Instr.fieldAt,run_underlying Try.underlying154,Instr.sureAddr,fieldPlace,Result.andThen]
theorem Fp:Gv (α:=Th) 1 Th.right (fun x y=>{ x with right:=y }):=Gv.of (Gv.comp Gv.snd Gv.fst rfl) (fun _=>rfl) (fun _ _=>rfl)
theorem at_154_1 (a:Addr) (w:World):(Instr.fieldAt 154 (.pointer (some a)) 1).run Try.prog w=.ok (.pointer (some (a.add 1))) w:=by simp [Instr.fieldAt,run_underlying Try.underlying154,Instr.sureAddr,fieldPlace,Result.andThen]
theorem On (a:Addr) (w:World):(Instr.fieldAt 154 (.pointer (some a)) 2).run Try.prog w=.ok (.pointer (some (a.add 2))) w:=by simp [Instr.fieldAt,run_underlying Try.underlying154,Instr.sureAddr,fieldPlace,Result.andThen]
end Go.Proofs.Ytmpjooneiaiffaa
