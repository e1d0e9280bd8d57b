/- The types of this seat, as data: structures, how they lie in memory, their parts. Printed by gtypes.py. -/
import Derived.Test.YtepehlhgkipcoaaGreatDoorMe
import Derived.Test.YtepehlhgkipcoaaGreatDoorProg
namespace Go.Proofs.YtepehlhgkipcoaaGreatDoor
open Go.RowKit
theorem Gp.of {α β γ:Type} [GoT β] [GoT γ] {to:α→β} {off:Nat} {f:α→γ} {st:α→γ→α} {f':β→γ} {s':β→γ→β} (h:Gp off f' s') (h1:∀ x,f' (to x)=f x) (h2:∀ x y,to (st x y)=s' (to x) y):@Gp α γ (GoT.struct α to) _ off f st:=by
 refine ⟨⟨h.1.1,fun m w x cs hr=>?_⟩,fun m w x y cs cy hr hy=>?_⟩
 ·rw [← h1]; exact h.1.2 m w (to x) cs hr
 ·show GoT.rep m w (to (st x y)) _; rw [h2]; exact h.2 m w (to x) y cs cy hr hy
structure TieHarness where
 Hooks:Int
 Warps:List Int
 deriving DecidableEq,Inhabited
instance:GoT TieHarness:=GoT.struct TieHarness (β:=Int × (List Int)) (fun x=>(x.Hooks,x.Warps))
theorem Qh:Gp (α:=TieHarness) 0 TieHarness.Hooks (fun x y=>{ x with Hooks:=y }):=Gp.of Gp.fst (fun _=>rfl) (fun _ _=>rfl)
theorem Jt (a:Addr) (w:World):(Instr.fieldAt 26 (.pointer (some a)) 0).run Tryz.prog w=.ok (.pointer (some (a.add 0))) w:=by simp [Instr.fieldAt,run_underlying Tryz.underlying26,Instr.sureAddr,fieldPlace,Result.andThen]
theorem Tm:Gp (α:=TieHarness) 1 TieHarness.Warps (fun x y=>{ x with Warps:=y }):=Gp.of (Gp.comp Gp.snd Gp.id_ rfl) (fun _=>rfl) (fun _ _=>rfl)
theorem Kw (a:Addr) (w:World):(Instr.fieldAt 26 (.pointer (some a)) 1).run Tryz.prog w=.ok (.pointer (some (a.add 1))) w:=by simp [Instr.fieldAt,run_underlying Tryz.underlying26,Instr.sureAddr,fieldPlace,Result.andThen]
structure Design where
 Hooks:Int
 Rows:List Int
 deriving DecidableEq,Inhabited
instance:GoT Design:=GoT.struct Design (β:=Int × (List Int)) (fun x=>(x.Hooks,x.Rows))
theorem Qb:Gp (α:=Design) 0 Design.Hooks (fun x y=>{ x with Hooks:=y }):=Gp.of Gp.fst (fun _=>rfl) (fun _ _=>rfl)
theorem Ki (a:Addr) (w:World):(Instr.fieldAt 28 (.pointer (some a)) 0).run Tryz.prog w=.ok (.pointer (some (a.add 0))) w:=by simp [Instr.fieldAt,run_underlying Tryz.underlying28,Instr.sureAddr,fieldPlace,Result.andThen]
theorem T4:Gp (α:=Design) 1 Design.Rows (fun x y=>{ x with Rows:=y }):=Gp.of (Gp.comp Gp.snd Gp.id_ rfl) (fun _=>rfl) (fun _ _=>rfl)
theorem Kb (a:Addr) (w:World):(Instr.fieldAt 28 (.pointer (some a)) 1).run Tryz.prog w=.ok (.pointer (some (a.add 1))) w:=by simp [Instr.fieldAt,run_underlying Tryz.underlying28,Instr.sureAddr,fieldPlace,Result.andThen]
structure FaultLoom where
 Harness:TieHarness
 Design:Design
 deriving DecidableEq,Inhabited
instance:GoT FaultLoom:=GoT.struct FaultLoom (β:=TieHarness × Design) (fun x=>(x.Harness,x.Design))
theorem Tn:Gp (α:=FaultLoom) 0 FaultLoom.Harness (fun x y=>{ x with Harness:=y }):=Gp.of Gp.fst (fun _=>rfl) (fun _ _=>rfl)
theorem Kj (a:Addr) (w:World):(Instr.fieldAt 30 (.pointer (some a)) 0).run Tryz.prog w=.ok (.pointer (some (a.add 0))) w:=by simp [Instr.fieldAt,run_underlying Tryz.underlying30,Instr.sureAddr,fieldPlace,Result.andThen]
theorem G1:Gp (α:=FaultLoom) 2 FaultLoom.Design (fun x y=>{ x with Design:=y }):=Gp.of (Gp.comp Gp.snd Gp.id_ rfl) (fun _=>rfl) (fun _ _=>rfl)
theorem Wf (a:Addr) (w:World):(Instr.fieldAt 30 (.pointer (some a)) 1).run Tryz.prog w=.ok (.pointer (some (a.add 2))) w:=by simp [Instr.fieldAt,run_underlying Tryz.underlying30,Instr.sureAddr,fieldPlace,Result.andThen]
structure Zv where
 Kind:Int
 Pick:Int
 Hook:Int
 Warp:Int
 Up:Bool
 deriving DecidableEq,Inhabited
instance:GoT Zv:=GoT.struct Zv (β:=Int × Int × Int × Int × Bool) (fun x=>(x.Kind,x.Pick,x.Hook,x.Warp,x.Up))
theorem Q0:Gp (α:=Zv) 0 Zv.Kind (fun x y=>{ x with Kind:=y }):=Gp.of Gp.fst (fun _=>rfl) (fun _ _=>rfl)
theorem Uw (a:Addr) (w:World):(Instr.fieldAt 34 (.pointer (some a)) 0).run Tryz.prog w=.ok (.pointer (some (a.add 0))) w:=by simp [Instr.fieldAt,run_underlying Tryz.underlying34,Instr.sureAddr,fieldPlace,Result.andThen]
theorem Tl:Gp (α:=Zv) 1 Zv.Pick (fun x y=>{ x with Pick:=y }):=Gp.of (Gp.comp Gp.snd Gp.fst rfl) (fun _=>rfl) (fun _ _=>rfl)
theorem Hc (a:Addr) (w:World):(Instr.fieldAt 34 (.pointer (some a)) 1).run Tryz.prog w=.ok (.pointer (some (a.add 1))) w:=by simp [Instr.fieldAt,run_underlying Tryz.underlying34,Instr.sureAddr,fieldPlace,Result.andThen]
theorem T8:Gp (α:=Zv) 2 Zv.Hook (fun x y=>{ x with Hook:=y }):=Gp.of (Gp.comp Gp.snd (Gp.comp Gp.snd Gp.fst rfl) rfl) (fun _=>rfl) (fun _ _=>rfl)
theorem Jc (a:Addr) (w:World):(Instr.fieldAt 34 (.pointer (some a)) 2).run Tryz.prog w=.ok (.pointer (some (a.add 2))) w:=by simp [Instr.fieldAt,run_underlying Tryz.underlying34,Instr.sureAddr,fieldPlace,Result.andThen]
theorem Ws:Gp (α:=Zv) 3 Zv.Warp (fun x y=>{ x with Warp:=y }):=Gp.of (Gp.comp Gp.snd (Gp.comp Gp.snd (Gp.comp Gp.snd Gp.fst rfl) rfl) rfl) (fun _=>rfl) (fun _ _=>rfl)
theorem Dc (a:Addr) (w:World):(Instr.fieldAt 34 (.pointer (some a)) 3).run Tryz.prog w=.ok (.pointer (some (a.add 3))) w:=by simp [Instr.fieldAt,run_underlying Tryz.underlying34,Instr.sureAddr,fieldPlace,Result.andThen]
theorem Ky:Gp (α:=Zv) 4 Zv.Up (fun x y=>{ x with Up:=y }):=Gp.of (Gp.comp Gp.snd (Gp.comp Gp.snd (Gp.comp Gp.snd (Gp.comp Gp.snd Gp.id_ rfl) rfl) rfl) rfl) (fun _=>rfl) (fun _ _=>rfl)
theorem Sa (a:Addr) (w:World):(Instr.fieldAt 34 (.pointer (some a)) 4).run Tryz.prog w=.ok (.pointer (some (a.add 4))) w:=by simp [Instr.fieldAt,run_underlying Tryz.underlying34,Instr.sureAddr,fieldPlace,Result.andThen]
structure Gn where
 Name:Str
 Harness:TieHarness
 deriving DecidableEq,Inhabited
instance:GoT Gn:=GoT.struct Gn (β:=Str × TieHarness) (fun x=>(x.Name,x.Harness))
theorem Vi:Gp (α:=Gn) 0 Gn.Name (fun x y=>{ x with Name:=y }):=Gp.of Gp.fst (fun _=>rfl) (fun _ _=>rfl)
theorem A9 (a:Addr) (w:World):(Instr.fieldAt 76 (.pointer (some a)) 0).run Tryz.prog w=.ok (.pointer (some (a.add 0))) w:=by simp [Instr.fieldAt,run_underlying Tryz.underlying76,Instr.sureAddr,fieldPlace,Result.andThen]
theorem Ym:Gp (α:=Gn) 1 Gn.Harness (fun x y=>{ x with Harness:=y }):=Gp.of (Gp.comp Gp.snd Gp.id_ rfl) (fun _=>rfl) (fun _ _=>rfl)
theorem B9 (a:Addr) (w:World):(Instr.fieldAt 76 (.pointer (some a)) 1).run Tryz.prog w=.ok (.pointer (some (a.add 1))) w:=by simp [Instr.fieldAt,run_underlying Tryz.underlying76,Instr.sureAddr,fieldPlace,Result.andThen]
structure Z8 where
 Number:Int
 Row:Int
 Turned:Bool
 deriving DecidableEq,Inhabited
instance:GoT Z8:=GoT.struct Z8 (β:=Int × Int × Bool) (fun x=>(x.Number,x.Row,x.Turned))
theorem Jj:Gp (α:=Z8) 0 Z8.Number (fun x y=>{ x with Number:=y }):=Gp.of Gp.fst (fun _=>rfl) (fun _ _=>rfl)
theorem Fx (a:Addr) (w:World):(Instr.fieldAt 43 (.pointer (some a)) 0).run Tryz.prog w=.ok (.pointer (some (a.add 0))) w:=by simp [Instr.fieldAt,run_underlying Tryz.underlying43,Instr.sureAddr,fieldPlace,Result.andThen]
theorem Kq:Gp (α:=Z8) 1 Z8.Row (fun x y=>{ x with Row:=y }):=Gp.of (Gp.comp Gp.snd Gp.fst rfl) (fun _=>rfl) (fun _ _=>rfl)
theorem Vy (a:Addr) (w:World):(Instr.fieldAt 43 (.pointer (some a)) 1).run Tryz.prog w=.ok (.pointer (some (a.add 1))) w:=by simp [Instr.fieldAt,run_underlying Tryz.underlying43,Instr.sureAddr,fieldPlace,Result.andThen]
theorem Jp:Gp (α:=Z8) 2 Z8.Turned (fun x y=>{ x with Turned:=y }):=Gp.of (Gp.comp Gp.snd (Gp.comp Gp.snd Gp.id_ rfl) rfl) (fun _=>rfl) (fun _ _=>rfl)
theorem Ff (a:Addr) (w:World):(Instr.fieldAt 43 (.pointer (some a)) 2).run Tryz.prog w=.ok (.pointer (some (a.add 2))) w:=by simp [Instr.fieldAt,run_underlying Tryz.underlying43,Instr.sureAddr,fieldPlace,Result.andThen]
structure ChainBelt where
 Hooks:Int
 Cards:List Z8
 deriving DecidableEq,Inhabited
instance:GoT ChainBelt:=GoT.struct ChainBelt (β:=Int × (List Z8)) (fun x=>(x.Hooks,x.Cards))
theorem Ko:Gp (α:=ChainBelt) 0 ChainBelt.Hooks (fun x y=>{ x with Hooks:=y }):=Gp.of Gp.fst (fun _=>rfl) (fun _ _=>rfl)
theorem Dx (a:Addr) (w:World):(Instr.fieldAt 46 (.pointer (some a)) 0).run Tryz.prog w=.ok (.pointer (some (a.add 0))) w:=by simp [Instr.fieldAt,run_underlying Tryz.underlying46,Instr.sureAddr,fieldPlace,Result.andThen]
theorem Qf:Gp (α:=ChainBelt) 1 ChainBelt.Cards (fun x y=>{ x with Cards:=y }):=Gp.of (Gp.comp Gp.snd Gp.id_ rfl) (fun _=>rfl) (fun _ _=>rfl)
theorem Hx (a:Addr) (w:World):(Instr.fieldAt 46 (.pointer (some a)) 1).run Tryz.prog w=.ok (.pointer (some (a.add 1))) w:=by simp [Instr.fieldAt,run_underlying Tryz.underlying46,Instr.sureAddr,fieldPlace,Result.andThen]
structure Gc where
 Name:Str
 Chain:ChainBelt
 deriving DecidableEq,Inhabited
instance:GoT Gc:=GoT.struct Gc (β:=Str × ChainBelt) (fun x=>(x.Name,x.Chain))
theorem Ub:Gp (α:=Gc) 0 Gc.Name (fun x y=>{ x with Name:=y }):=Gp.of Gp.fst (fun _=>rfl) (fun _ _=>rfl)
theorem Am (a:Addr) (w:World):(Instr.fieldAt 48 (.pointer (some a)) 0).run Tryz.prog w=.ok (.pointer (some (a.add 0))) w:=by simp [Instr.fieldAt,run_underlying Tryz.underlying48,Instr.sureAddr,fieldPlace,Result.andThen]
theorem Jm:Gp (α:=Gc) 1 Gc.Chain (fun x y=>{ x with Chain:=y }):=Gp.of (Gp.comp Gp.snd Gp.id_ rfl) (fun _=>rfl) (fun _ _=>rfl)
theorem V1 (a:Addr) (w:World):(Instr.fieldAt 48 (.pointer (some a)) 1).run Tryz.prog w=.ok (.pointer (some (a.add 1))) w:=by simp [Instr.fieldAt,run_underlying Tryz.underlying48,Instr.sureAddr,fieldPlace,Result.andThen]
structure Gj where
 Ties:List Gn
 Chains:List Gc
 deriving DecidableEq,Inhabited
instance:GoT Gj:=GoT.struct Gj (β:=(List Gn) × (List Gc)) (fun x=>(x.Ties,x.Chains))
theorem W0:Gp (α:=Gj) 0 Gj.Ties (fun x y=>{ x with Ties:=y }):=Gp.of Gp.fst (fun _=>rfl) (fun _ _=>rfl)
theorem V2 (a:Addr) (w:World):(Instr.fieldAt 39 (.pointer (some a)) 0).run Tryz.prog w=.ok (.pointer (some (a.add 0))) w:=by simp [Instr.fieldAt,run_underlying Tryz.underlying39,Instr.sureAddr,fieldPlace,Result.andThen]
theorem Wz:Gp (α:=Gj) 1 Gj.Chains (fun x y=>{ x with Chains:=y }):=Gp.of (Gp.comp Gp.snd Gp.id_ rfl) (fun _=>rfl) (fun _ _=>rfl)
theorem Un (a:Addr) (w:World):(Instr.fieldAt 39 (.pointer (some a)) 1).run Tryz.prog w=.ok (.pointer (some (a.add 1))) w:=by simp [Instr.fieldAt,run_underlying Tryz.underlying39,Instr.sureAddr,fieldPlace,Result.andThen]
structure Z5 where
 Day:Int
 Loom:Int
 Chain:Int
 Tie:Int
 Picks:Int
 deriving DecidableEq,Inhabited
instance:GoT Z5:=GoT.struct Z5 (β:=Int × Int × Int × Int × Int) (fun x=>(x.Day,x.Loom,x.Chain,x.Tie,x.Picks))
theorem Q4:Gp (α:=Z5) 0 Z5.Day (fun x y=>{ x with Day:=y }):=Gp.of Gp.fst (fun _=>rfl) (fun _ _=>rfl)
theorem Ys (a:Addr) (w:World):(Instr.fieldAt 55 (.pointer (some a)) 0).run Tryz.prog w=.ok (.pointer (some (a.add 0))) w:=by simp [Instr.fieldAt,run_underlying Tryz.underlying55,Instr.sureAddr,fieldPlace,Result.andThen]
theorem Qv:Gp (α:=Z5) 1 Z5.Loom (fun x y=>{ x with Loom:=y }):=Gp.of (Gp.comp Gp.snd Gp.fst rfl) (fun _=>rfl) (fun _ _=>rfl)
theorem J6 (a:Addr) (w:World):(Instr.fieldAt 55 (.pointer (some a)) 1).run Tryz.prog w=.ok (.pointer (some (a.add 1))) w:=by simp [Instr.fieldAt,run_underlying Tryz.underlying55,Instr.sureAddr,fieldPlace,Result.andThen]
theorem Wr:Gp (α:=Z5) 2 Z5.Chain (fun x y=>{ x with Chain:=y }):=Gp.of (Gp.comp Gp.snd (Gp.comp Gp.snd Gp.fst rfl) rfl) (fun _=>rfl) (fun _ _=>rfl)
theorem Vz (a:Addr) (w:World):(Instr.fieldAt 55 (.pointer (some a)) 2).run Tryz.prog w=.ok (.pointer (some (a.add 2))) w:=by simp [Instr.fieldAt,run_underlying Tryz.underlying55,Instr.sureAddr,fieldPlace,Result.andThen]
theorem Hm:Gp (α:=Z5) 3 Z5.Tie (fun x y=>{ x with Tie:=y }):=Gp.of (Gp.comp Gp.snd (Gp.comp Gp.snd (Gp.comp Gp.snd Gp.fst rfl) rfl) rfl) (fun _=>rfl) (fun _ _=>rfl)
theorem Se (a:Addr) (w:World):(Instr.fieldAt 55 (.pointer (some a)) 3).run Tryz.prog w=.ok (.pointer (some (a.add 3))) w:=by simp [Instr.fieldAt,run_underlying Tryz.underlying55,Instr.sureAddr,fieldPlace,Result.andThen]
theorem Jk:Gp (α:=Z5) 4 Z5.Picks (fun x y=>{ x with Picks:=y }):=Gp.of (Gp.comp Gp.snd (Gp.comp Gp.snd (Gp.comp Gp.snd (Gp.comp Gp.snd Gp.id_ rfl) rfl) rfl) rfl) (fun _=>rfl) (fun _ _=>rfl)
theorem Fw (a:Addr) (w:World):(Instr.fieldAt 55 (.pointer (some a)) 4).run Tryz.prog w=.ok (.pointer (some (a.add 4))) w:=by simp [Instr.fieldAt,run_underlying Tryz.underlying55,Instr.sureAddr,fieldPlace,Result.andThen]
structure Zy where
 Pick:Int
 Warp:Int
 Lifted:Bool
 deriving DecidableEq,Inhabited
instance:GoT Zy:=GoT.struct Zy (β:=Int × Int × Bool) (fun x=>(x.Pick,x.Warp,x.Lifted))
theorem Xv:Gp (α:=Zy) 0 Zy.Pick (fun x y=>{ x with Pick:=y }):=Gp.of Gp.fst (fun _=>rfl) (fun _ _=>rfl)
theorem E5 (a:Addr) (w:World):(Instr.fieldAt 70 (.pointer (some a)) 0).run Tryz.prog w=.ok (.pointer (some (a.add 0))) w:=by simp [Instr.fieldAt,run_underlying Tryz.underlying70,Instr.sureAddr,fieldPlace,Result.andThen]
theorem Dw:Gp (α:=Zy) 1 Zy.Warp (fun x y=>{ x with Warp:=y }):=Gp.of (Gp.comp Gp.snd Gp.fst rfl) (fun _=>rfl) (fun _ _=>rfl)
theorem Ew (a:Addr) (w:World):(Instr.fieldAt 70 (.pointer (some a)) 1).run Tryz.prog w=.ok (.pointer (some (a.add 1))) w:=by simp [Instr.fieldAt,run_underlying Tryz.underlying70,Instr.sureAddr,fieldPlace,Result.andThen]
structure T0 where
 chain:Int
 card:Int
 deriving DecidableEq,Inhabited
instance:GoT T0:=GoT.struct T0 (β:=Int × Int) (fun x=>(x.chain,x.card))
theorem V4:Gp (α:=T0) 0 T0.chain (fun x y=>{ x with chain:=y }):=Gp.of Gp.fst (fun _=>rfl) (fun _ _=>rfl)
theorem Ey (a:Addr) (w:World):(Instr.fieldAt 87 (.pointer (some a)) 0).run Tryz.prog w=.ok (.pointer (some (a.add 0))) w:=by simp [Instr.fieldAt,run_underlying Tryz.underlying87,Instr.sureAddr,fieldPlace,Result.andThen]
theorem J3:Gp (α:=T0) 1 T0.card (fun x y=>{ x with card:=y }):=Gp.of (Gp.comp Gp.snd Gp.id_ rfl) (fun _=>rfl) (fun _ _=>rfl)
theorem Mk (a:Addr) (w:World):(Instr.fieldAt 87 (.pointer (some a)) 1).run Tryz.prog w=.ok (.pointer (some (a.add 1))) w:=by simp [Instr.fieldAt,run_underlying Tryz.underlying87,Instr.sureAddr,fieldPlace,Result.andThen]
structure Gl where
 FaultLoom:FaultLoom
 deriving DecidableEq,Inhabited
instance:GoT Gl:=GoT.struct Gl (β:=FaultLoom) (fun x=>x.FaultLoom)
theorem Qp:Gp (α:=Gl) 0 Gl.FaultLoom (fun x y=>{ x with FaultLoom:=y }):=Gp.of Gp.id_ (fun _=>rfl) (fun _ _=>rfl)
theorem Uk (a:Addr) (w:World):(Instr.fieldAt 91 (.pointer (some a)) 0).run Tryz.prog w=.ok (.pointer (some (a.add 0))) w:=by simp [Instr.fieldAt,run_underlying Tryz.underlying91,Instr.sureAddr,fieldPlace,Result.andThen]
structure G7 where
 day:Int
 loom:Int
 deriving DecidableEq,Inhabited
instance:GoT G7:=GoT.struct G7 (β:=Int × Int) (fun x=>(x.day,x.loom))
theorem Uy:Gp (α:=G7) 0 G7.day (fun x y=>{ x with day:=y }):=Gp.of Gp.fst (fun _=>rfl) (fun _ _=>rfl)
theorem Uz:Gp (α:=G7) 1 G7.loom (fun x y=>{ x with loom:=y }):=Gp.of (Gp.comp Gp.snd Gp.id_ rfl) (fun _=>rfl) (fun _ _=>rfl)
structure Gr where
 ChainBelt:ChainBelt
 frame:Int
 deriving DecidableEq,Inhabited
instance:GoT Gr:=GoT.struct Gr (β:=ChainBelt × Int) (fun x=>(x.ChainBelt,x.frame))
theorem K8:Gp (α:=Gr) 0 Gr.ChainBelt (fun x y=>{ x with ChainBelt:=y }):=Gp.of Gp.fst (fun _=>rfl) (fun _ _=>rfl)
theorem Sn (a:Addr) (w:World):(Instr.fieldAt 160 (.pointer (some a)) 0).run Tryz.prog w=.ok (.pointer (some (a.add 0))) w:=by simp [Instr.fieldAt,run_underlying Tryz.underlying160,Instr.sureAddr,fieldPlace,Result.andThen]
theorem K7:Gp (α:=Gr) 2 Gr.frame (fun x y=>{ x with frame:=y }):=Gp.of (Gp.comp Gp.snd Gp.id_ rfl) (fun _=>rfl) (fun _ _=>rfl)
theorem S4 (a:Addr) (w:World):(Instr.fieldAt 160 (.pointer (some a)) 1).run Tryz.prog w=.ok (.pointer (some (a.add 2))) w:=by simp [Instr.fieldAt,run_underlying Tryz.underlying160,Instr.sureAddr,fieldPlace,Result.andThen]
structure Qo where
 TieHarness:TieHarness
 deriving DecidableEq,Inhabited
instance:GoT Qo:=GoT.struct Qo (β:=TieHarness) (fun x=>x.TieHarness)
theorem Jx:Gp (α:=Qo) 0 Qo.TieHarness (fun x y=>{ x with TieHarness:=y }):=Gp.of Gp.id_ (fun _=>rfl) (fun _ _=>rfl)
theorem F1 (a:Addr) (w:World):(Instr.fieldAt 177 (.pointer (some a)) 0).run Tryz.prog w=.ok (.pointer (some (a.add 0))) w:=by simp [Instr.fieldAt,run_underlying Tryz.underlying177,Instr.sureAddr,fieldPlace,Result.andThen]
end Go.Proofs.YtepehlhgkipcoaaGreatDoor
