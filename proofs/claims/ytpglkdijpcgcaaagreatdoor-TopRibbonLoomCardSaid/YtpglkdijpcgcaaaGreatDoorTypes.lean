/- The types of this seat, as data: structures, how they lie in memory, their parts. Printed by gtypes.py. -/
import Derived.Test.YtpglkdijpcgcaaaGreatDoorIc
import Derived.Test.YtpglkdijpcgcaaaGreatDoorProg
namespace Go.Proofs.YtpglkdijpcgcaaaGreatDoor
open Go.RowKit
theorem Gl.of {α β γ:Type} [GoT β] [GoT γ] {to:α→β} {off:Nat} {f:α→γ} {st:α→γ→α} {f':β→γ} {s':β→γ→β} (h:Gl off f' s') (h1:∀ x,f' (to x)=f x) (h2:∀ x y,to (st x y)=s' (to x) y):@Gl α γ (GoT.struct α to) _ off f st:=by
 refine ⟨⟨h.1.1,fun m w x cs hr=>?_⟩,fun m w x y cs cy hr hy=>?_⟩
 ·rw [← h1];exact h.1.2 m w (to x) cs hr
 ·show GoT.rep m w (to (st x y)) _;rw [h2];exact h.2 m w (to x) y cs cy hr hy
structure LoomMill where
 Widths:List Int
 Change:Int
 deriving DecidableEq,Inhabited
instance:GoT LoomMill:=GoT.struct LoomMill (β:=(List Int) × Int) (fun x=>(x.Widths,x.Change))
theorem Qa:Gl (α:=LoomMill) 0 LoomMill.Widths (fun x y=>{x with Widths:=y}):=Gl.of Gl.fst (fun _=>rfl) (fun _ _=>rfl)
theorem Ha (a:Addr) (w:World):(Instr.fieldAt 27 (.pointer (some a)) 0).run Tryz.prog w=.ok (.pointer (some (a.add 0))) w:=by simp [Instr.fieldAt,run_underlying Tryz.underlying27,Instr.sureAddr,fieldPlace,Result.andThen]
theorem Hp:Gl (α:=LoomMill) 1 LoomMill.Change (fun x y=>{x with Change:=y}):=Gl.of (Gl.comp Gl.snd Gl.id_ rfl) (fun _=>rfl) (fun _ _=>rfl)
theorem Rg (a:Addr) (w:World):(Instr.fieldAt 27 (.pointer (some a)) 1).run Tryz.prog w=.ok (.pointer (some (a.add 1))) w:=by simp [Instr.fieldAt,run_underlying Tryz.underlying27,Instr.sureAddr,fieldPlace,Result.andThen]
structure TieHarness where
 Hooks:Int
 Warps:List Int
 deriving DecidableEq,Inhabited
instance:GoT TieHarness:=GoT.struct TieHarness (β:=Int × (List Int)) (fun x=>(x.Hooks,x.Warps))
theorem Wj:Gl (α:=TieHarness) 0 TieHarness.Hooks (fun x y=>{x with Hooks:=y}):=Gl.of Gl.fst (fun _=>rfl) (fun _ _=>rfl)
theorem Xc (a:Addr) (w:World):(Instr.fieldAt 32 (.pointer (some a)) 0).run Tryz.prog w=.ok (.pointer (some (a.add 0))) w:=by simp [Instr.fieldAt,run_underlying Tryz.underlying32,Instr.sureAddr,fieldPlace,Result.andThen]
theorem Qb:Gl (α:=TieHarness) 1 TieHarness.Warps (fun x y=>{x with Warps:=y}):=Gl.of (Gl.comp Gl.snd Gl.id_ rfl) (fun _=>rfl) (fun _ _=>rfl)
theorem H0 (a:Addr) (w:World):(Instr.fieldAt 32 (.pointer (some a)) 1).run Tryz.prog w=.ok (.pointer (some (a.add 1))) w:=by simp [Instr.fieldAt,run_underlying Tryz.underlying32,Instr.sureAddr,fieldPlace,Result.andThen]
structure Design where
 Hooks:Int
 Rows:List Int
 deriving DecidableEq,Inhabited
instance:GoT Design:=GoT.struct Design (β:=Int × (List Int)) (fun x=>(x.Hooks,x.Rows))
theorem Wu:Gl (α:=Design) 0 Design.Hooks (fun x y=>{x with Hooks:=y}):=Gl.of Gl.fst (fun _=>rfl) (fun _ _=>rfl)
theorem Y9 (a:Addr) (w:World):(Instr.fieldAt 34 (.pointer (some a)) 0).run Tryz.prog w=.ok (.pointer (some (a.add 0))) w:=by simp [Instr.fieldAt,run_underlying Tryz.underlying34,Instr.sureAddr,fieldPlace,Result.andThen]
theorem Wy:Gl (α:=Design) 1 Design.Rows (fun x y=>{x with Rows:=y}):=Gl.of (Gl.comp Gl.snd Gl.id_ rfl) (fun _=>rfl) (fun _ _=>rfl)
theorem Yy (a:Addr) (w:World):(Instr.fieldAt 34 (.pointer (some a)) 1).run Tryz.prog w=.ok (.pointer (some (a.add 1))) w:=by simp [Instr.fieldAt,run_underlying Tryz.underlying34,Instr.sureAddr,fieldPlace,Result.andThen]
structure Gc where
 Harness:TieHarness
 Design:Design
 deriving DecidableEq,Inhabited
instance:GoT Gc:=GoT.struct Gc (β:=TieHarness × Design) (fun x=>(x.Harness,x.Design))
theorem Wb:Gl (α:=Gc) 0 Gc.Harness (fun x y=>{x with Harness:=y}):=Gl.of Gl.fst (fun _=>rfl) (fun _ _=>rfl)
theorem Ux (a:Addr) (w:World):(Instr.fieldAt 36 (.pointer (some a)) 0).run Tryz.prog w=.ok (.pointer (some (a.add 0))) w:=by simp [Instr.fieldAt,run_underlying Tryz.underlying36,Instr.sureAddr,fieldPlace,Result.andThen]
theorem W1:Gl (α:=Gc) 2 Gc.Design (fun x y=>{x with Design:=y}):=Gl.of (Gl.comp Gl.snd Gl.id_ rfl) (fun _=>rfl) (fun _ _=>rfl)
theorem V5 (a:Addr) (w:World):(Instr.fieldAt 36 (.pointer (some a)) 1).run Tryz.prog w=.ok (.pointer (some (a.add 2))) w:=by simp [Instr.fieldAt,run_underlying Tryz.underlying36,Instr.sureAddr,fieldPlace,Result.andThen]
structure B3 where
 Low:Int
 High:Int
 deriving DecidableEq,Inhabited
instance:GoT B3:=GoT.struct B3 (β:=Int × Int) (fun x=>(x.Low,x.High))
theorem Vh:Gl (α:=B3) 0 B3.Low (fun x y=>{x with Low:=y}):=Gl.of Gl.fst (fun _=>rfl) (fun _ _=>rfl)
theorem La (a:Addr) (w:World):(Instr.fieldAt 48 (.pointer (some a)) 0).run Tryz.prog w=.ok (.pointer (some (a.add 0))) w:=by simp [Instr.fieldAt,run_underlying Tryz.underlying48,Instr.sureAddr,fieldPlace,Result.andThen]
theorem Y7:Gl (α:=B3) 1 B3.High (fun x y=>{x with High:=y}):=Gl.of (Gl.comp Gl.snd Gl.id_ rfl) (fun _=>rfl) (fun _ _=>rfl)
theorem Dx (a:Addr) (w:World):(Instr.fieldAt 48 (.pointer (some a)) 1).run Tryz.prog w=.ok (.pointer (some (a.add 1))) w:=by simp [Instr.fieldAt,run_underlying Tryz.underlying48,Instr.sureAddr,fieldPlace,Result.andThen]
structure LoomStop where
 Loom:Int
 Days:B3
 deriving DecidableEq,Inhabited
instance:GoT LoomStop:=GoT.struct LoomStop (β:=Int × B3) (fun x=>(x.Loom,x.Days))
theorem U4:Gl (α:=LoomStop) 0 LoomStop.Loom (fun x y=>{x with Loom:=y}):=Gl.of Gl.fst (fun _=>rfl) (fun _ _=>rfl)
theorem N3 (a:Addr) (w:World):(Instr.fieldAt 51 (.pointer (some a)) 0).run Tryz.prog w=.ok (.pointer (some (a.add 0))) w:=by simp [Instr.fieldAt,run_underlying Tryz.underlying51,Instr.sureAddr,fieldPlace,Result.andThen]
theorem Wn:Gl (α:=LoomStop) 1 LoomStop.Days (fun x y=>{x with Days:=y}):=Gl.of (Gl.comp Gl.snd Gl.id_ rfl) (fun _=>rfl) (fun _ _=>rfl)
theorem Ub (a:Addr) (w:World):(Instr.fieldAt 51 (.pointer (some a)) 1).run Tryz.prog w=.ok (.pointer (some (a.add 1))) w:=by simp [Instr.fieldAt,run_underlying Tryz.underlying51,Instr.sureAddr,fieldPlace,Result.andThen]
structure Z3 where
 Order:Int
 Loom:Int
 From:Int
 deriving DecidableEq,Inhabited
instance:GoT Z3:=GoT.struct Z3 (β:=Int × Int × Int) (fun x=>(x.Order,x.Loom,x.From))
theorem T6:Gl (α:=Z3) 0 Z3.Order (fun x y=>{x with Order:=y}):=Gl.of Gl.fst (fun _=>rfl) (fun _ _=>rfl)
theorem Kw (a:Addr) (w:World):(Instr.fieldAt 57 (.pointer (some a)) 0).run Tryz.prog w=.ok (.pointer (some (a.add 0))) w:=by simp [Instr.fieldAt,run_underlying Tryz.underlying57,Instr.sureAddr,fieldPlace,Result.andThen]
theorem Wi:Gl (α:=Z3) 1 Z3.Loom (fun x y=>{x with Loom:=y}):=Gl.of (Gl.comp Gl.snd Gl.fst rfl) (fun _=>rfl) (fun _ _=>rfl)
theorem Jr (a:Addr) (w:World):(Instr.fieldAt 57 (.pointer (some a)) 1).run Tryz.prog w=.ok (.pointer (some (a.add 1))) w:=by simp [Instr.fieldAt,run_underlying Tryz.underlying57,Instr.sureAddr,fieldPlace,Result.andThen]
theorem Ty:Gl (α:=Z3) 2 Z3.From (fun x y=>{x with From:=y}):=Gl.of (Gl.comp Gl.snd (Gl.comp Gl.snd Gl.id_ rfl) rfl) (fun _=>rfl) (fun _ _=>rfl)
theorem Ws (a:Addr) (w:World):(Instr.fieldAt 57 (.pointer (some a)) 2).run Tryz.prog w=.ok (.pointer (some (a.add 2))) w:=by simp [Instr.fieldAt,run_underlying Tryz.underlying57,Instr.sureAddr,fieldPlace,Result.andThen]
structure Z5 where
 Width:Int
 Chain:Int
 Woven:Int
 Early:Int
 Late:Int
 deriving DecidableEq,Inhabited
instance:GoT Z5:=GoT.struct Z5 (β:=Int × Int × Int × Int × Int) (fun x=>(x.Width,x.Chain,x.Woven,x.Early,x.Late))
theorem Ji:Gl (α:=Z5) 0 Z5.Width (fun x y=>{x with Width:=y}):=Gl.of Gl.fst (fun _=>rfl) (fun _ _=>rfl)
theorem Sw (a:Addr) (w:World):(Instr.fieldAt 59 (.pointer (some a)) 0).run Tryz.prog w=.ok (.pointer (some (a.add 0))) w:=by simp [Instr.fieldAt,run_underlying Tryz.underlying59,Instr.sureAddr,fieldPlace,Result.andThen]
theorem Wz:Gl (α:=Z5) 1 Z5.Chain (fun x y=>{x with Chain:=y}):=Gl.of (Gl.comp Gl.snd Gl.fst rfl) (fun _=>rfl) (fun _ _=>rfl)
theorem Xh (a:Addr) (w:World):(Instr.fieldAt 59 (.pointer (some a)) 1).run Tryz.prog w=.ok (.pointer (some (a.add 1))) w:=by simp [Instr.fieldAt,run_underlying Tryz.underlying59,Instr.sureAddr,fieldPlace,Result.andThen]
theorem Qv:Gl (α:=Z5) 2 Z5.Woven (fun x y=>{x with Woven:=y}):=Gl.of (Gl.comp Gl.snd (Gl.comp Gl.snd Gl.fst rfl) rfl) (fun _=>rfl) (fun _ _=>rfl)
theorem Yd (a:Addr) (w:World):(Instr.fieldAt 59 (.pointer (some a)) 2).run Tryz.prog w=.ok (.pointer (some (a.add 2))) w:=by simp [Instr.fieldAt,run_underlying Tryz.underlying59,Instr.sureAddr,fieldPlace,Result.andThen]
theorem Hg:Gl (α:=Z5) 3 Z5.Early (fun x y=>{x with Early:=y}):=Gl.of (Gl.comp Gl.snd (Gl.comp Gl.snd (Gl.comp Gl.snd Gl.fst rfl) rfl) rfl) (fun _=>rfl) (fun _ _=>rfl)
theorem S0 (a:Addr) (w:World):(Instr.fieldAt 59 (.pointer (some a)) 3).run Tryz.prog w=.ok (.pointer (some (a.add 3))) w:=by simp [Instr.fieldAt,run_underlying Tryz.underlying59,Instr.sureAddr,fieldPlace,Result.andThen]
theorem W2:Gl (α:=Z5) 4 Z5.Late (fun x y=>{x with Late:=y}):=Gl.of (Gl.comp Gl.snd (Gl.comp Gl.snd (Gl.comp Gl.snd (Gl.comp Gl.snd Gl.id_ rfl) rfl) rfl) rfl) (fun _=>rfl) (fun _ _=>rfl)
theorem Xi (a:Addr) (w:World):(Instr.fieldAt 59 (.pointer (some a)) 4).run Tryz.prog w=.ok (.pointer (some (a.add 4))) w:=by simp [Instr.fieldAt,run_underlying Tryz.underlying59,Instr.sureAddr,fieldPlace,Result.andThen]
structure Z4 where
 Day:Int
 Loom:Int
 Chain:Int
 Tie:Int
 Picks:Int
 deriving DecidableEq,Inhabited
instance:GoT Z4:=GoT.struct Z4 (β:=Int × Int × Int × Int × Int) (fun x=>(x.Day,x.Loom,x.Chain,x.Tie,x.Picks))
theorem Ql:Gl (α:=Z4) 0 Z4.Day (fun x y=>{x with Day:=y}):=Gl.of Gl.fst (fun _=>rfl) (fun _ _=>rfl)
theorem Ju (a:Addr) (w:World):(Instr.fieldAt 61 (.pointer (some a)) 0).run Tryz.prog w=.ok (.pointer (some (a.add 0))) w:=by simp [Instr.fieldAt,run_underlying Tryz.underlying61,Instr.sureAddr,fieldPlace,Result.andThen]
theorem Qi:Gl (α:=Z4) 1 Z4.Loom (fun x y=>{x with Loom:=y}):=Gl.of (Gl.comp Gl.snd Gl.fst rfl) (fun _=>rfl) (fun _ _=>rfl)
theorem Hx (a:Addr) (w:World):(Instr.fieldAt 61 (.pointer (some a)) 1).run Tryz.prog w=.ok (.pointer (some (a.add 1))) w:=by simp [Instr.fieldAt,run_underlying Tryz.underlying61,Instr.sureAddr,fieldPlace,Result.andThen]
theorem W0:Gl (α:=Z4) 2 Z4.Chain (fun x y=>{x with Chain:=y}):=Gl.of (Gl.comp Gl.snd (Gl.comp Gl.snd Gl.fst rfl) rfl) (fun _=>rfl) (fun _ _=>rfl)
theorem V6 (a:Addr) (w:World):(Instr.fieldAt 61 (.pointer (some a)) 2).run Tryz.prog w=.ok (.pointer (some (a.add 2))) w:=by simp [Instr.fieldAt,run_underlying Tryz.underlying61,Instr.sureAddr,fieldPlace,Result.andThen]
theorem Hf:Gl (α:=Z4) 3 Z4.Tie (fun x y=>{x with Tie:=y}):=Gl.of (Gl.comp Gl.snd (Gl.comp Gl.snd (Gl.comp Gl.snd Gl.fst rfl) rfl) rfl) (fun _=>rfl) (fun _ _=>rfl)
theorem Ra (a:Addr) (w:World):(Instr.fieldAt 61 (.pointer (some a)) 3).run Tryz.prog w=.ok (.pointer (some (a.add 3))) w:=by simp [Instr.fieldAt,run_underlying Tryz.underlying61,Instr.sureAddr,fieldPlace,Result.andThen]
theorem Jo:Gl (α:=Z4) 4 Z4.Picks (fun x y=>{x with Picks:=y}):=Gl.of (Gl.comp Gl.snd (Gl.comp Gl.snd (Gl.comp Gl.snd (Gl.comp Gl.snd Gl.id_ rfl) rfl) rfl) rfl) (fun _=>rfl) (fun _ _=>rfl)
theorem Li (a:Addr) (w:World):(Instr.fieldAt 61 (.pointer (some a)) 4).run Tryz.prog w=.ok (.pointer (some (a.add 4))) w:=by simp [Instr.fieldAt,run_underlying Tryz.underlying61,Instr.sureAddr,fieldPlace,Result.andThen]
structure Gx where
 Name:Str
 Harness:TieHarness
 deriving DecidableEq,Inhabited
instance:GoT Gx:=GoT.struct Gx (β:=Str × TieHarness) (fun x=>(x.Name,x.Harness))
theorem Vj:Gl (α:=Gx) 0 Gx.Name (fun x y=>{x with Name:=y}):=Gl.of Gl.fst (fun _=>rfl) (fun _ _=>rfl)
theorem Pz (a:Addr) (w:World):(Instr.fieldAt 121 (.pointer (some a)) 0).run Tryz.prog w=.ok (.pointer (some (a.add 0))) w:=by simp [Instr.fieldAt,run_underlying Tryz.underlying121,Instr.sureAddr,fieldPlace,Result.andThen]
theorem Yp:Gl (α:=Gx) 1 Gx.Harness (fun x y=>{x with Harness:=y}):=Gl.of (Gl.comp Gl.snd Gl.id_ rfl) (fun _=>rfl) (fun _ _=>rfl)
theorem D9 (a:Addr) (w:World):(Instr.fieldAt 121 (.pointer (some a)) 1).run Tryz.prog w=.ok (.pointer (some (a.add 1))) w:=by simp [Instr.fieldAt,run_underlying Tryz.underlying121,Instr.sureAddr,fieldPlace,Result.andThen]
structure Gi where
 Number:Int
 Row:Int
 Turned:Bool
 deriving DecidableEq,Inhabited
instance:GoT Gi:=GoT.struct Gi (β:=Int × Int × Bool) (fun x=>(x.Number,x.Row,x.Turned))
theorem Jm:Gl (α:=Gi) 0 Gi.Number (fun x y=>{x with Number:=y}):=Gl.of Gl.fst (fun _=>rfl) (fun _ _=>rfl)
theorem R0 (a:Addr) (w:World):(Instr.fieldAt 118 (.pointer (some a)) 0).run Tryz.prog w=.ok (.pointer (some (a.add 0))) w:=by simp [Instr.fieldAt,run_underlying Tryz.underlying118,Instr.sureAddr,fieldPlace,Result.andThen]
theorem Hh:Gl (α:=Gi) 1 Gi.Row (fun x y=>{x with Row:=y}):=Gl.of (Gl.comp Gl.snd Gl.fst rfl) (fun _=>rfl) (fun _ _=>rfl)
theorem Dn (a:Addr) (w:World):(Instr.fieldAt 118 (.pointer (some a)) 1).run Tryz.prog w=.ok (.pointer (some (a.add 1))) w:=by simp [Instr.fieldAt,run_underlying Tryz.underlying118,Instr.sureAddr,fieldPlace,Result.andThen]
theorem Uq:Gl (α:=Gi) 2 Gi.Turned (fun x y=>{x with Turned:=y}):=Gl.of (Gl.comp Gl.snd (Gl.comp Gl.snd Gl.id_ rfl) rfl) (fun _=>rfl) (fun _ _=>rfl)
theorem P2 (a:Addr) (w:World):(Instr.fieldAt 118 (.pointer (some a)) 2).run Tryz.prog w=.ok (.pointer (some (a.add 2))) w:=by simp [Instr.fieldAt,run_underlying Tryz.underlying118,Instr.sureAddr,fieldPlace,Result.andThen]
structure ChainBelt where
 Hooks:Int
 Cards:List Gi
 deriving DecidableEq,Inhabited
instance:GoT ChainBelt:=GoT.struct ChainBelt (β:=Int × (List Gi)) (fun x=>(x.Hooks,x.Cards))
theorem Km:Gl (α:=ChainBelt) 0 ChainBelt.Hooks (fun x y=>{x with Hooks:=y}):=Gl.of Gl.fst (fun _=>rfl) (fun _ _=>rfl)
theorem Vm (a:Addr) (w:World):(Instr.fieldAt 116 (.pointer (some a)) 0).run Tryz.prog w=.ok (.pointer (some (a.add 0))) w:=by simp [Instr.fieldAt,run_underlying Tryz.underlying116,Instr.sureAddr,fieldPlace,Result.andThen]
theorem Qu:Gl (α:=ChainBelt) 1 ChainBelt.Cards (fun x y=>{x with Cards:=y}):=Gl.of (Gl.comp Gl.snd Gl.id_ rfl) (fun _=>rfl) (fun _ _=>rfl)
theorem H5 (a:Addr) (w:World):(Instr.fieldAt 116 (.pointer (some a)) 1).run Tryz.prog w=.ok (.pointer (some (a.add 1))) w:=by simp [Instr.fieldAt,run_underlying Tryz.underlying116,Instr.sureAddr,fieldPlace,Result.andThen]
structure Gm where
 Name:Str
 Chain:ChainBelt
 deriving DecidableEq,Inhabited
instance:GoT Gm:=GoT.struct Gm (β:=Str × ChainBelt) (fun x=>(x.Name,x.Chain))
theorem Us:Gl (α:=Gm) 0 Gm.Name (fun x y=>{x with Name:=y}):=Gl.of Gl.fst (fun _=>rfl) (fun _ _=>rfl)
theorem P5 (a:Addr) (w:World):(Instr.fieldAt 123 (.pointer (some a)) 0).run Tryz.prog w=.ok (.pointer (some (a.add 0))) w:=by simp [Instr.fieldAt,run_underlying Tryz.underlying123,Instr.sureAddr,fieldPlace,Result.andThen]
theorem Jl:Gl (α:=Gm) 1 Gm.Chain (fun x y=>{x with Chain:=y}):=Gl.of (Gl.comp Gl.snd Gl.id_ rfl) (fun _=>rfl) (fun _ _=>rfl)
theorem Vt (a:Addr) (w:World):(Instr.fieldAt 123 (.pointer (some a)) 1).run Tryz.prog w=.ok (.pointer (some (a.add 1))) w:=by simp [Instr.fieldAt,run_underlying Tryz.underlying123,Instr.sureAddr,fieldPlace,Result.andThen]
structure Tn where
 Ties:List Gx
 Chains:List Gm
 deriving DecidableEq,Inhabited
instance:GoT Tn:=GoT.struct Tn (β:=(List Gx) × (List Gm)) (fun x=>(x.Ties,x.Chains))
theorem Kb:Gl (α:=Tn) 0 Tn.Ties (fun x y=>{x with Ties:=y}):=Gl.of Gl.fst (fun _=>rfl) (fun _ _=>rfl)
theorem Xa (a:Addr) (w:World):(Instr.fieldAt 72 (.pointer (some a)) 0).run Tryz.prog w=.ok (.pointer (some (a.add 0))) w:=by simp [Instr.fieldAt,run_underlying Tryz.underlying72,Instr.sureAddr,fieldPlace,Result.andThen]
theorem Kc:Gl (α:=Tn) 1 Tn.Chains (fun x y=>{x with Chains:=y}):=Gl.of (Gl.comp Gl.snd Gl.id_ rfl) (fun _=>rfl) (fun _ _=>rfl)
theorem V7 (a:Addr) (w:World):(Instr.fieldAt 72 (.pointer (some a)) 1).run Tryz.prog w=.ok (.pointer (some (a.add 1))) w:=by simp [Instr.fieldAt,run_underlying Tryz.underlying72,Instr.sureAddr,fieldPlace,Result.andThen]
structure Z8 where
 LoomMill:LoomMill
 orders:List Z5
 deriving DecidableEq,Inhabited
instance:GoT Z8:=GoT.struct Z8 (β:=LoomMill × (List Z5)) (fun x=>(x.LoomMill,x.orders))
theorem Qx:Gl (α:=Z8) 0 Z8.LoomMill (fun x y=>{x with LoomMill:=y}):=Gl.of Gl.fst (fun _=>rfl) (fun _ _=>rfl)
theorem Y4 (a:Addr) (w:World):(Instr.fieldAt 80 (.pointer (some a)) 0).run Tryz.prog w=.ok (.pointer (some (a.add 0))) w:=by simp [Instr.fieldAt,run_underlying Tryz.underlying80,Instr.sureAddr,fieldPlace,Result.andThen]
theorem G8:Gl (α:=Z8) 2 Z8.orders (fun x y=>{x with orders:=y}):=Gl.of (Gl.comp Gl.snd Gl.id_ rfl) (fun _=>rfl) (fun _ _=>rfl)
theorem W6 (a:Addr) (w:World):(Instr.fieldAt 80 (.pointer (some a)) 1).run Tryz.prog w=.ok (.pointer (some (a.add 2))) w:=by simp [Instr.fieldAt,run_underlying Tryz.underlying80,Instr.sureAddr,fieldPlace,Result.andThen]
structure Tj where
 mill:Z8
 LoomStop:LoomStop
 deriving DecidableEq,Inhabited
instance:GoT Tj:=GoT.struct Tj (β:=Z8 × LoomStop) (fun x=>(x.mill,x.LoomStop))
theorem Jg:Gl (α:=Tj) 0 Tj.mill (fun x y=>{x with mill:=y}):=Gl.of Gl.fst (fun _=>rfl) (fun _ _=>rfl)
theorem F7 (a:Addr) (w:World):(Instr.fieldAt 91 (.pointer (some a)) 0).run Tryz.prog w=.ok (.pointer (some (a.add 0))) w:=by simp [Instr.fieldAt,run_underlying Tryz.underlying91,Instr.sureAddr,fieldPlace,Result.andThen]
theorem Uo:Gl (α:=Tj) 3 Tj.LoomStop (fun x y=>{x with LoomStop:=y}):=Gl.of (Gl.comp Gl.snd Gl.id_ rfl) (fun _=>rfl) (fun _ _=>rfl)
theorem Lv (a:Addr) (w:World):(Instr.fieldAt 91 (.pointer (some a)) 1).run Tryz.prog w=.ok (.pointer (some (a.add 3))) w:=by simp [Instr.fieldAt,run_underlying Tryz.underlying91,Instr.sureAddr,fieldPlace,Result.andThen]
structure T5 where
 chain:Int
 card:Int
 deriving DecidableEq,Inhabited
instance:GoT T5:=GoT.struct T5 (β:=Int × Int) (fun x=>(x.chain,x.card))
theorem Xo:Gl (α:=T5) 0 T5.chain (fun x y=>{x with chain:=y}):=Gl.of Gl.fst (fun _=>rfl) (fun _ _=>rfl)
theorem Es (a:Addr) (w:World):(Instr.fieldAt 112 (.pointer (some a)) 0).run Tryz.prog w=.ok (.pointer (some (a.add 0))) w:=by simp [Instr.fieldAt,run_underlying Tryz.underlying112,Instr.sureAddr,fieldPlace,Result.andThen]
theorem Yb:Gl (α:=T5) 1 T5.card (fun x y=>{x with card:=y}):=Gl.of (Gl.comp Gl.snd Gl.id_ rfl) (fun _=>rfl) (fun _ _=>rfl)
theorem Ay (a:Addr) (w:World):(Instr.fieldAt 112 (.pointer (some a)) 1).run Tryz.prog w=.ok (.pointer (some (a.add 1))) w:=by simp [Instr.fieldAt,run_underlying Tryz.underlying112,Instr.sureAddr,fieldPlace,Result.andThen]
structure Tf where
 day:Int
 loom:Int
 deriving DecidableEq,Inhabited
instance:GoT Tf:=GoT.struct Tf (β:=Int × Int) (fun x=>(x.day,x.loom))
theorem U7:Gl (α:=Tf) 0 Tf.day (fun x y=>{x with day:=y}):=Gl.of Gl.fst (fun _=>rfl) (fun _ _=>rfl)
theorem U6:Gl (α:=Tf) 1 Tf.loom (fun x y=>{x with loom:=y}):=Gl.of (Gl.comp Gl.snd Gl.id_ rfl) (fun _=>rfl) (fun _ _=>rfl)
structure Gw where
 ChainBelt:ChainBelt
 frame:Int
 deriving DecidableEq,Inhabited
instance:GoT Gw:=GoT.struct Gw (β:=ChainBelt × Int) (fun x=>(x.ChainBelt,x.frame))
theorem K5:Gl (α:=Gw) 0 Gw.ChainBelt (fun x y=>{x with ChainBelt:=y}):=Gl.of Gl.fst (fun _=>rfl) (fun _ _=>rfl)
theorem R4 (a:Addr) (w:World):(Instr.fieldAt 200 (.pointer (some a)) 0).run Tryz.prog w=.ok (.pointer (some (a.add 0))) w:=by simp [Instr.fieldAt,run_underlying Tryz.underlying200,Instr.sureAddr,fieldPlace,Result.andThen]
theorem K6:Gl (α:=Gw) 2 Gw.frame (fun x y=>{x with frame:=y}):=Gl.of (Gl.comp Gl.snd Gl.id_ rfl) (fun _=>rfl) (fun _ _=>rfl)
theorem Rr (a:Addr) (w:World):(Instr.fieldAt 200 (.pointer (some a)) 1).run Tryz.prog w=.ok (.pointer (some (a.add 2))) w:=by simp [Instr.fieldAt,run_underlying Tryz.underlying200,Instr.sureAddr,fieldPlace,Result.andThen]
structure Qr where
 TieHarness:TieHarness
 deriving DecidableEq,Inhabited
instance:GoT Qr:=GoT.struct Qr (β:=TieHarness) (fun x=>x.TieHarness)
theorem J1:Gl (α:=Qr) 0 Qr.TieHarness (fun x y=>{x with TieHarness:=y}):=Gl.of Gl.id_ (fun _=>rfl) (fun _ _=>rfl)
theorem Al (a:Addr) (w:World):(Instr.fieldAt 216 (.pointer (some a)) 0).run Tryz.prog w=.ok (.pointer (some (a.add 0))) w:=by simp [Instr.fieldAt,run_underlying Tryz.underlying216,Instr.sureAddr,fieldPlace,Result.andThen]
end Go.Proofs.YtpglkdijpcgcaaaGreatDoor
