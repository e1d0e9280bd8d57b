/- The types of this seat, as data: structures, how they lie in memory, their parts. Printed by gtypes.py. -/
import Derived.Test.YtjjbobaoifflpaaGreatDoorIc
import Derived.Test.YtjjbobaoifflpaaGreatDoorProg
namespace Go.Proofs.YtjjbobaoifflpaaGreatDoor
open Go.RowKit
theorem Gd.of {α β γ:Type} [GoT β] [GoT γ] {to:α→β} {off:Nat} {f:α→γ} {st:α→γ→α} {f':β→γ} {s':β→γ→β} (h:Gd off f' s') (h1:∀ x,f' (to x)=f x) (h2:∀ x y,to (st x y)=s' (to x) y):@Gd α γ (GoT.struct α to) _ off f st:=by
 refine ⟨⟨h.1.1,fun m w x cs hr=>?_⟩,fun m w x y cs cy hr hy=>?_⟩
 ·rw [← h1]; exact h.1.2 m w (to x) cs hr
 ·show GoT.rep m w (to (st x y)) _; rw [h2]; exact h.2 m w (to x) y cs cy hr hy
structure TieHarness where
 Hooks:Int
 Warps:List Int
 deriving DecidableEq,Inhabited
instance:GoT TieHarness:=GoT.struct TieHarness (β:=Int × (List Int)) (fun x=>(x.Hooks,x.Warps))
theorem Wf:Gd (α:=TieHarness) 0 TieHarness.Hooks (fun x y=>{ x with Hooks:=y }):=Gd.of Gd.fst (fun _=>rfl) (fun _ _=>rfl)
theorem Vk (a:Addr) (w:World):(Instr.fieldAt 27 (.pointer (some a)) 0).run Tryz.prog w=.ok (.pointer (some (a.add 0))) w:=by simp [Instr.fieldAt,run_underlying Tryz.underlying27,Instr.sureAddr,fieldPlace,Result.andThen]
theorem Qc:Gd (α:=TieHarness) 1 TieHarness.Warps (fun x y=>{ x with Warps:=y }):=Gd.of (Gd.comp Gd.snd Gd.id_ rfl) (fun _=>rfl) (fun _ _=>rfl)
theorem Hr (a:Addr) (w:World):(Instr.fieldAt 27 (.pointer (some a)) 1).run Tryz.prog w=.ok (.pointer (some (a.add 1))) w:=by simp [Instr.fieldAt,run_underlying Tryz.underlying27,Instr.sureAddr,fieldPlace,Result.andThen]
structure Design where
 Hooks:Int
 Rows:List Int
 deriving DecidableEq,Inhabited
instance:GoT Design:=GoT.struct Design (β:=Int × (List Int)) (fun x=>(x.Hooks,x.Rows))
theorem Wr:Gd (α:=Design) 0 Design.Hooks (fun x y=>{ x with Hooks:=y }):=Gd.of Gd.fst (fun _=>rfl) (fun _ _=>rfl)
theorem Yi (a:Addr) (w:World):(Instr.fieldAt 29 (.pointer (some a)) 0).run Tryz.prog w=.ok (.pointer (some (a.add 0))) w:=by simp [Instr.fieldAt,run_underlying Tryz.underlying29,Instr.sureAddr,fieldPlace,Result.andThen]
theorem Wq:Gd (α:=Design) 1 Design.Rows (fun x y=>{ x with Rows:=y }):=Gd.of (Gd.comp Gd.snd Gd.id_ rfl) (fun _=>rfl) (fun _ _=>rfl)
theorem Ye (a:Addr) (w:World):(Instr.fieldAt 29 (.pointer (some a)) 1).run Tryz.prog w=.ok (.pointer (some (a.add 1))) w:=by simp [Instr.fieldAt,run_underlying Tryz.underlying29,Instr.sureAddr,fieldPlace,Result.andThen]
structure Gi where
 Harness:TieHarness
 Design:Design
 deriving DecidableEq,Inhabited
instance:GoT Gi:=GoT.struct Gi (β:=TieHarness × Design) (fun x=>(x.Harness,x.Design))
theorem Q8:Gd (α:=Gi) 0 Gi.Harness (fun x y=>{ x with Harness:=y }):=Gd.of Gd.fst (fun _=>rfl) (fun _ _=>rfl)
theorem Y8 (a:Addr) (w:World):(Instr.fieldAt 31 (.pointer (some a)) 0).run Tryz.prog w=.ok (.pointer (some (a.add 0))) w:=by simp [Instr.fieldAt,run_underlying Tryz.underlying31,Instr.sureAddr,fieldPlace,Result.andThen]
theorem Wu:Gd (α:=Gi) 2 Gi.Design (fun x y=>{ x with Design:=y }):=Gd.of (Gd.comp Gd.snd Gd.id_ rfl) (fun _=>rfl) (fun _ _=>rfl)
theorem Vw (a:Addr) (w:World):(Instr.fieldAt 31 (.pointer (some a)) 1).run Tryz.prog w=.ok (.pointer (some (a.add 2))) w:=by simp [Instr.fieldAt,run_underlying Tryz.underlying31,Instr.sureAddr,fieldPlace,Result.andThen]
structure Gq where
 From:Int
 Rate:Int
 deriving DecidableEq,Inhabited
instance:GoT Gq:=GoT.struct Gq (β:=Int × Int) (fun x=>(x.From,x.Rate))
theorem J8:Gd (α:=Gq) 0 Gq.From (fun x y=>{ x with From:=y }):=Gd.of Gd.fst (fun _=>rfl) (fun _ _=>rfl)
theorem C1 (a:Addr) (w:World):(Instr.fieldAt 74 (.pointer (some a)) 0).run Tryz.prog w=.ok (.pointer (some (a.add 0))) w:=by simp [Instr.fieldAt,run_underlying Tryz.underlying74,Instr.sureAddr,fieldPlace,Result.andThen]
theorem Uu:Gd (α:=Gq) 1 Gq.Rate (fun x y=>{ x with Rate:=y }):=Gd.of (Gd.comp Gd.snd Gd.id_ rfl) (fun _=>rfl) (fun _ _=>rfl)
theorem Mo (a:Addr) (w:World):(Instr.fieldAt 74 (.pointer (some a)) 1).run Tryz.prog w=.ok (.pointer (some (a.add 1))) w:=by simp [Instr.fieldAt,run_underlying Tryz.underlying74,Instr.sureAddr,fieldPlace,Result.andThen]
structure PayList where
 Rates:List Gq
 Extras:List Int
 Fine:Int
 Cap:Int
 deriving DecidableEq,Inhabited
instance:GoT PayList:=GoT.struct PayList (β:=(List Gq) × (List Int) × Int × Int) (fun x=>(x.Rates,x.Extras,x.Fine,x.Cap))
theorem Wx:Gd (α:=PayList) 0 PayList.Rates (fun x y=>{ x with Rates:=y }):=Gd.of Gd.fst (fun _=>rfl) (fun _ _=>rfl)
theorem Y7 (a:Addr) (w:World):(Instr.fieldAt 37 (.pointer (some a)) 0).run Tryz.prog w=.ok (.pointer (some (a.add 0))) w:=by simp [Instr.fieldAt,run_underlying Tryz.underlying37,Instr.sureAddr,fieldPlace,Result.andThen]
theorem Kg:Gd (α:=PayList) 1 PayList.Extras (fun x y=>{ x with Extras:=y }):=Gd.of (Gd.comp Gd.snd Gd.fst rfl) (fun _=>rfl) (fun _ _=>rfl)
theorem Vv (a:Addr) (w:World):(Instr.fieldAt 37 (.pointer (some a)) 1).run Tryz.prog w=.ok (.pointer (some (a.add 1))) w:=by simp [Instr.fieldAt,run_underlying Tryz.underlying37,Instr.sureAddr,fieldPlace,Result.andThen]
theorem U7:Gd (α:=PayList) 2 PayList.Fine (fun x y=>{ x with Fine:=y }):=Gd.of (Gd.comp Gd.snd (Gd.comp Gd.snd Gd.fst rfl) rfl) (fun _=>rfl) (fun _ _=>rfl)
theorem Mw (a:Addr) (w:World):(Instr.fieldAt 37 (.pointer (some a)) 2).run Tryz.prog w=.ok (.pointer (some (a.add 2))) w:=by simp [Instr.fieldAt,run_underlying Tryz.underlying37,Instr.sureAddr,fieldPlace,Result.andThen]
theorem Vf:Gd (α:=PayList) 3 PayList.Cap (fun x y=>{ x with Cap:=y }):=Gd.of (Gd.comp Gd.snd (Gd.comp Gd.snd (Gd.comp Gd.snd Gd.id_ rfl) rfl) rfl) (fun _=>rfl) (fun _ _=>rfl)
theorem Mq (a:Addr) (w:World):(Instr.fieldAt 37 (.pointer (some a)) 3).run Tryz.prog w=.ok (.pointer (some (a.add 3))) w:=by simp [Instr.fieldAt,run_underlying Tryz.underlying37,Instr.sureAddr,fieldPlace,Result.andThen]
structure Gw where
 Name:Str
 Harness:TieHarness
 deriving DecidableEq,Inhabited
instance:GoT Gw:=GoT.struct Gw (β:=Str × TieHarness) (fun x=>(x.Name,x.Harness))
theorem Uz:Gd (α:=Gw) 0 Gw.Name (fun x y=>{ x with Name:=y }):=Gd.of Gd.fst (fun _=>rfl) (fun _ _=>rfl)
theorem Aq (a:Addr) (w:World):(Instr.fieldAt 99 (.pointer (some a)) 0).run Tryz.prog w=.ok (.pointer (some (a.add 0))) w:=by simp [Instr.fieldAt,run_underlying Tryz.underlying99,Instr.sureAddr,fieldPlace,Result.andThen]
theorem Jy:Gd (α:=Gw) 1 Gw.Harness (fun x y=>{ x with Harness:=y }):=Gd.of (Gd.comp Gd.snd Gd.id_ rfl) (fun _=>rfl) (fun _ _=>rfl)
theorem B8 (a:Addr) (w:World):(Instr.fieldAt 99 (.pointer (some a)) 1).run Tryz.prog w=.ok (.pointer (some (a.add 1))) w:=by simp [Instr.fieldAt,run_underlying Tryz.underlying99,Instr.sureAddr,fieldPlace,Result.andThen]
structure Gc where
 Number:Int
 Row:Int
 Turned:Bool
 deriving DecidableEq,Inhabited
instance:GoT Gc:=GoT.struct Gc (β:=Int × Int × Bool) (fun x=>(x.Number,x.Row,x.Turned))
theorem H8:Gd (α:=Gc) 0 Gc.Number (fun x y=>{ x with Number:=y }):=Gd.of Gd.fst (fun _=>rfl) (fun _ _=>rfl)
theorem C0 (a:Addr) (w:World):(Instr.fieldAt 96 (.pointer (some a)) 0).run Tryz.prog w=.ok (.pointer (some (a.add 0))) w:=by simp [Instr.fieldAt,run_underlying Tryz.underlying96,Instr.sureAddr,fieldPlace,Result.andThen]
theorem K5:Gd (α:=Gc) 1 Gc.Row (fun x y=>{ x with Row:=y }):=Gd.of (Gd.comp Gd.snd Gd.fst rfl) (fun _=>rfl) (fun _ _=>rfl)
theorem B5 (a:Addr) (w:World):(Instr.fieldAt 96 (.pointer (some a)) 1).run Tryz.prog w=.ok (.pointer (some (a.add 1))) w:=by simp [Instr.fieldAt,run_underlying Tryz.underlying96,Instr.sureAddr,fieldPlace,Result.andThen]
theorem Yw:Gd (α:=Gc) 2 Gc.Turned (fun x y=>{ x with Turned:=y }):=Gd.of (Gd.comp Gd.snd (Gd.comp Gd.snd Gd.id_ rfl) rfl) (fun _=>rfl) (fun _ _=>rfl)
theorem Mc (a:Addr) (w:World):(Instr.fieldAt 96 (.pointer (some a)) 2).run Tryz.prog w=.ok (.pointer (some (a.add 2))) w:=by simp [Instr.fieldAt,run_underlying Tryz.underlying96,Instr.sureAddr,fieldPlace,Result.andThen]
structure ChainBelt where
 Hooks:Int
 Cards:List Gc
 deriving DecidableEq,Inhabited
instance:GoT ChainBelt:=GoT.struct ChainBelt (β:=Int × (List Gc)) (fun x=>(x.Hooks,x.Cards))
theorem Kf:Gd (α:=ChainBelt) 0 ChainBelt.Hooks (fun x y=>{ x with Hooks:=y }):=Gd.of Gd.fst (fun _=>rfl) (fun _ _=>rfl)
theorem Xt (a:Addr) (w:World):(Instr.fieldAt 94 (.pointer (some a)) 0).run Tryz.prog w=.ok (.pointer (some (a.add 0))) w:=by simp [Instr.fieldAt,run_underlying Tryz.underlying94,Instr.sureAddr,fieldPlace,Result.andThen]
theorem Qq:Gd (α:=ChainBelt) 1 ChainBelt.Cards (fun x y=>{ x with Cards:=y }):=Gd.of (Gd.comp Gd.snd Gd.id_ rfl) (fun _=>rfl) (fun _ _=>rfl)
theorem Js (a:Addr) (w:World):(Instr.fieldAt 94 (.pointer (some a)) 1).run Tryz.prog w=.ok (.pointer (some (a.add 1))) w:=by simp [Instr.fieldAt,run_underlying Tryz.underlying94,Instr.sureAddr,fieldPlace,Result.andThen]
structure Gj where
 Name:Str
 Chain:ChainBelt
 deriving DecidableEq,Inhabited
instance:GoT Gj:=GoT.struct Gj (β:=Str × ChainBelt) (fun x=>(x.Name,x.Chain))
theorem Yq:Gd (α:=Gj) 0 Gj.Name (fun x y=>{ x with Name:=y }):=Gd.of Gd.fst (fun _=>rfl) (fun _ _=>rfl)
theorem Li (a:Addr) (w:World):(Instr.fieldAt 101 (.pointer (some a)) 0).run Tryz.prog w=.ok (.pointer (some (a.add 0))) w:=by simp [Instr.fieldAt,run_underlying Tryz.underlying101,Instr.sureAddr,fieldPlace,Result.andThen]
theorem H6:Gd (α:=Gj) 1 Gj.Chain (fun x y=>{ x with Chain:=y }):=Gd.of (Gd.comp Gd.snd Gd.id_ rfl) (fun _=>rfl) (fun _ _=>rfl)
theorem Vc (a:Addr) (w:World):(Instr.fieldAt 101 (.pointer (some a)) 1).run Tryz.prog w=.ok (.pointer (some (a.add 1))) w:=by simp [Instr.fieldAt,run_underlying Tryz.underlying101,Instr.sureAddr,fieldPlace,Result.andThen]
structure Tq where
 Ties:List Gw
 Chains:List Gj
 deriving DecidableEq,Inhabited
instance:GoT Tq:=GoT.struct Tq (β:=(List Gw) × (List Gj)) (fun x=>(x.Ties,x.Chains))
theorem W3:Gd (α:=Tq) 0 Tq.Ties (fun x y=>{ x with Ties:=y }):=Gd.of Gd.fst (fun _=>rfl) (fun _ _=>rfl)
theorem Vn (a:Addr) (w:World):(Instr.fieldAt 55 (.pointer (some a)) 0).run Tryz.prog w=.ok (.pointer (some (a.add 0))) w:=by simp [Instr.fieldAt,run_underlying Tryz.underlying55,Instr.sureAddr,fieldPlace,Result.andThen]
theorem W4:Gd (α:=Tq) 1 Tq.Chains (fun x y=>{ x with Chains:=y }):=Gd.of (Gd.comp Gd.snd Gd.id_ rfl) (fun _=>rfl) (fun _ _=>rfl)
theorem Vm (a:Addr) (w:World):(Instr.fieldAt 55 (.pointer (some a)) 1).run Tryz.prog w=.ok (.pointer (some (a.add 1))) w:=by simp [Instr.fieldAt,run_underlying Tryz.underlying55,Instr.sureAddr,fieldPlace,Result.andThen]
structure Z2 where
 Day:Int
 Loom:Int
 Chain:Int
 Tie:Int
 Picks:Int
 deriving DecidableEq,Inhabited
instance:GoT Z2:=GoT.struct Z2 (β:=Int × Int × Int × Int × Int) (fun x=>(x.Day,x.Loom,x.Chain,x.Tie,x.Picks))
theorem Qz:Gd (α:=Z2) 0 Z2.Day (fun x y=>{ x with Day:=y }):=Gd.of Gd.fst (fun _=>rfl) (fun _ _=>rfl)
theorem Yd (a:Addr) (w:World):(Instr.fieldAt 60 (.pointer (some a)) 0).run Tryz.prog w=.ok (.pointer (some (a.add 0))) w:=by simp [Instr.fieldAt,run_underlying Tryz.underlying60,Instr.sureAddr,fieldPlace,Result.andThen]
theorem Qg:Gd (α:=Z2) 1 Z2.Loom (fun x y=>{ x with Loom:=y }):=Gd.of (Gd.comp Gd.snd Gd.fst rfl) (fun _=>rfl) (fun _ _=>rfl)
theorem Hw (a:Addr) (w:World):(Instr.fieldAt 60 (.pointer (some a)) 1).run Tryz.prog w=.ok (.pointer (some (a.add 1))) w:=by simp [Instr.fieldAt,run_underlying Tryz.underlying60,Instr.sureAddr,fieldPlace,Result.andThen]
theorem Wt:Gd (α:=Z2) 2 Z2.Chain (fun x y=>{ x with Chain:=y }):=Gd.of (Gd.comp Gd.snd (Gd.comp Gd.snd Gd.fst rfl) rfl) (fun _=>rfl) (fun _ _=>rfl)
theorem Vx (a:Addr) (w:World):(Instr.fieldAt 60 (.pointer (some a)) 2).run Tryz.prog w=.ok (.pointer (some (a.add 2))) w:=by simp [Instr.fieldAt,run_underlying Tryz.underlying60,Instr.sureAddr,fieldPlace,Result.andThen]
theorem K4:Gd (α:=Z2) 3 Z2.Tie (fun x y=>{ x with Tie:=y }):=Gd.of (Gd.comp Gd.snd (Gd.comp Gd.snd (Gd.comp Gd.snd Gd.fst rfl) rfl) rfl) (fun _=>rfl) (fun _ _=>rfl)
theorem B0 (a:Addr) (w:World):(Instr.fieldAt 60 (.pointer (some a)) 3).run Tryz.prog w=.ok (.pointer (some (a.add 3))) w:=by simp [Instr.fieldAt,run_underlying Tryz.underlying60,Instr.sureAddr,fieldPlace,Result.andThen]
theorem Wv:Gd (α:=Z2) 4 Z2.Picks (fun x y=>{ x with Picks:=y }):=Gd.of (Gd.comp Gd.snd (Gd.comp Gd.snd (Gd.comp Gd.snd (Gd.comp Gd.snd Gd.id_ rfl) rfl) rfl) rfl) (fun _=>rfl) (fun _ _=>rfl)
theorem Vu (a:Addr) (w:World):(Instr.fieldAt 60 (.pointer (some a)) 4).run Tryz.prog w=.ok (.pointer (some (a.add 4))) w:=by simp [Instr.fieldAt,run_underlying Tryz.underlying60,Instr.sureAddr,fieldPlace,Result.andThen]
structure Gf where
 Weaver:Int
 Dense:Int
 Picks:Int
 Extras:List Int
 Faults:Int
 deriving DecidableEq,Inhabited
instance:GoT Gf:=GoT.struct Gf (β:=Int × Int × Int × (List Int) × Int) (fun x=>(x.Weaver,x.Dense,x.Picks,x.Extras,x.Faults))
theorem Ug:Gd (α:=Gf) 0 Gf.Weaver (fun x y=>{ x with Weaver:=y }):=Gd.of Gd.fst (fun _=>rfl) (fun _ _=>rfl)
theorem Mi (a:Addr) (w:World):(Instr.fieldAt 62 (.pointer (some a)) 0).run Tryz.prog w=.ok (.pointer (some (a.add 0))) w:=by simp [Instr.fieldAt,run_underlying Tryz.underlying62,Instr.sureAddr,fieldPlace,Result.andThen]
theorem Un:Gd (α:=Gf) 1 Gf.Dense (fun x y=>{ x with Dense:=y }):=Gd.of (Gd.comp Gd.snd Gd.fst rfl) (fun _=>rfl) (fun _ _=>rfl)
theorem Mv (a:Addr) (w:World):(Instr.fieldAt 62 (.pointer (some a)) 1).run Tryz.prog w=.ok (.pointer (some (a.add 1))) w:=by simp [Instr.fieldAt,run_underlying Tryz.underlying62,Instr.sureAddr,fieldPlace,Result.andThen]
theorem Ul:Gd (α:=Gf) 2 Gf.Picks (fun x y=>{ x with Picks:=y }):=Gd.of (Gd.comp Gd.snd (Gd.comp Gd.snd Gd.fst rfl) rfl) (fun _=>rfl) (fun _ _=>rfl)
theorem At (a:Addr) (w:World):(Instr.fieldAt 62 (.pointer (some a)) 2).run Tryz.prog w=.ok (.pointer (some (a.add 2))) w:=by simp [Instr.fieldAt,run_underlying Tryz.underlying62,Instr.sureAddr,fieldPlace,Result.andThen]
theorem Jl:Gd (α:=Gf) 3 Gf.Extras (fun x y=>{ x with Extras:=y }):=Gd.of (Gd.comp Gd.snd (Gd.comp Gd.snd (Gd.comp Gd.snd Gd.fst rfl) rfl) rfl) (fun _=>rfl) (fun _ _=>rfl)
theorem Ff (a:Addr) (w:World):(Instr.fieldAt 62 (.pointer (some a)) 3).run Tryz.prog w=.ok (.pointer (some (a.add 3))) w:=by simp [Instr.fieldAt,run_underlying Tryz.underlying62,Instr.sureAddr,fieldPlace,Result.andThen]
theorem Hh:Gd (α:=Gf) 4 Gf.Faults (fun x y=>{ x with Faults:=y }):=Gd.of (Gd.comp Gd.snd (Gd.comp Gd.snd (Gd.comp Gd.snd (Gd.comp Gd.snd Gd.id_ rfl) rfl) rfl) rfl) (fun _=>rfl) (fun _ _=>rfl)
theorem Sa (a:Addr) (w:World):(Instr.fieldAt 62 (.pointer (some a)) 4).run Tryz.prog w=.ok (.pointer (some (a.add 4))) w:=by simp [Instr.fieldAt,run_underlying Tryz.underlying62,Instr.sureAddr,fieldPlace,Result.andThen]
structure T4 where
 chain:Int
 card:Int
 deriving DecidableEq,Inhabited
instance:GoT T4:=GoT.struct T4 (β:=Int × Int) (fun x=>(x.chain,x.card))
theorem Vy:Gd (α:=T4) 0 T4.chain (fun x y=>{ x with chain:=y }):=Gd.of Gd.fst (fun _=>rfl) (fun _ _=>rfl)
theorem Ev (a:Addr) (w:World):(Instr.fieldAt 90 (.pointer (some a)) 0).run Tryz.prog w=.ok (.pointer (some (a.add 0))) w:=by simp [Instr.fieldAt,run_underlying Tryz.underlying90,Instr.sureAddr,fieldPlace,Result.andThen]
theorem Jp:Gd (α:=T4) 1 T4.card (fun x y=>{ x with card:=y }):=Gd.of (Gd.comp Gd.snd Gd.id_ rfl) (fun _=>rfl) (fun _ _=>rfl)
theorem A2 (a:Addr) (w:World):(Instr.fieldAt 90 (.pointer (some a)) 1).run Tryz.prog w=.ok (.pointer (some (a.add 1))) w:=by simp [Instr.fieldAt,run_underlying Tryz.underlying90,Instr.sureAddr,fieldPlace,Result.andThen]
structure Gy where
 PayList:PayList
 deriving DecidableEq,Inhabited
instance:GoT Gy:=GoT.struct Gy (β:=PayList) (fun x=>x.PayList)
theorem Qs:Gd (α:=Gy) 0 Gy.PayList (fun x y=>{ x with PayList:=y }):=Gd.of Gd.id_ (fun _=>rfl) (fun _ _=>rfl)
theorem Jh (a:Addr) (w:World):(Instr.fieldAt 105 (.pointer (some a)) 0).run Tryz.prog w=.ok (.pointer (some (a.add 0))) w:=by simp [Instr.fieldAt,run_underlying Tryz.underlying105,Instr.sureAddr,fieldPlace,Result.andThen]
structure Ts where
 Kind:Int
 Row:Int
 Column:Int
 Number:Int
 deriving DecidableEq,Inhabited
instance:GoT Ts:=GoT.struct Ts (β:=Int × Int × Int × Int) (fun x=>(x.Kind,x.Row,x.Column,x.Number))
theorem Jk:Gd (α:=Ts) 3 Ts.Number (fun x y=>{ x with Number:=y }):=Gd.of (Gd.comp Gd.snd (Gd.comp Gd.snd (Gd.comp Gd.snd Gd.id_ rfl) rfl) rfl) (fun _=>rfl) (fun _ _=>rfl)
theorem Sw (a:Addr) (w:World):(Instr.fieldAt 119 (.pointer (some a)) 3).run Tryz.prog w=.ok (.pointer (some (a.add 3))) w:=by simp [Instr.fieldAt,run_underlying Tryz.underlying119,Instr.sureAddr,fieldPlace,Result.andThen]
structure PayTable where
 Rows:List (List Int)
 Across:List Int
 Down:List Int
 Total:Int
 deriving DecidableEq,Inhabited
instance:GoT PayTable:=GoT.struct PayTable (β:=(List (List Int)) × (List Int) × (List Int) × Int) (fun x=>(x.Rows,x.Across,x.Down,x.Total))
theorem Qf:Gd (α:=PayTable) 0 PayTable.Rows (fun x y=>{ x with Rows:=y }):=Gd.of Gd.fst (fun _=>rfl) (fun _ _=>rfl)
theorem Q7 (a:Addr) (w:World):(Instr.fieldAt 124 (.pointer (some a)) 0).run Tryz.prog w=.ok (.pointer (some (a.add 0))) w:=by simp [Instr.fieldAt,run_underlying Tryz.underlying124,Instr.sureAddr,fieldPlace,Result.andThen]
theorem Kp:Gd (α:=PayTable) 1 PayTable.Across (fun x y=>{ x with Across:=y }):=Gd.of (Gd.comp Gd.snd Gd.fst rfl) (fun _=>rfl) (fun _ _=>rfl)
theorem Y5 (a:Addr) (w:World):(Instr.fieldAt 124 (.pointer (some a)) 1).run Tryz.prog w=.ok (.pointer (some (a.add 1))) w:=by simp [Instr.fieldAt,run_underlying Tryz.underlying124,Instr.sureAddr,fieldPlace,Result.andThen]
theorem W1:Gd (α:=PayTable) 2 PayTable.Down (fun x y=>{ x with Down:=y }):=Gd.of (Gd.comp Gd.snd (Gd.comp Gd.snd Gd.fst rfl) rfl) (fun _=>rfl) (fun _ _=>rfl)
theorem Yo (a:Addr) (w:World):(Instr.fieldAt 124 (.pointer (some a)) 2).run Tryz.prog w=.ok (.pointer (some (a.add 2))) w:=by simp [Instr.fieldAt,run_underlying Tryz.underlying124,Instr.sureAddr,fieldPlace,Result.andThen]
theorem Hi:Gd (α:=PayTable) 3 PayTable.Total (fun x y=>{ x with Total:=y }):=Gd.of (Gd.comp Gd.snd (Gd.comp Gd.snd (Gd.comp Gd.snd Gd.id_ rfl) rfl) rfl) (fun _=>rfl) (fun _ _=>rfl)
theorem Dj (a:Addr) (w:World):(Instr.fieldAt 124 (.pointer (some a)) 3).run Tryz.prog w=.ok (.pointer (some (a.add 3))) w:=by simp [Instr.fieldAt,run_underlying Tryz.underlying124,Instr.sureAddr,fieldPlace,Result.andThen]
structure Th where
 day:Int
 loom:Int
 deriving DecidableEq,Inhabited
instance:GoT Th:=GoT.struct Th (β:=Int × Int) (fun x=>(x.day,x.loom))
theorem Ui:Gd (α:=Th) 0 Th.day (fun x y=>{ x with day:=y }):=Gd.of Gd.fst (fun _=>rfl) (fun _ _=>rfl)
theorem Um:Gd (α:=Th) 1 Th.loom (fun x y=>{ x with loom:=y }):=Gd.of (Gd.comp Gd.snd Gd.id_ rfl) (fun _=>rfl) (fun _ _=>rfl)
structure Gr where
 PayTable:PayTable
 deriving DecidableEq,Inhabited
instance:GoT Gr:=GoT.struct Gr (β:=PayTable) (fun x=>x.PayTable)
theorem G0:Gd (α:=Gr) 0 Gr.PayTable (fun x y=>{ x with PayTable:=y }):=Gd.of Gd.id_ (fun _=>rfl) (fun _ _=>rfl)
theorem Tz (a:Addr) (w:World):(Instr.fieldAt 169 (.pointer (some a)) 0).run Tryz.prog w=.ok (.pointer (some (a.add 0))) w:=by simp [Instr.fieldAt,run_underlying Tryz.underlying169,Instr.sureAddr,fieldPlace,Result.andThen]
structure Gv where
 ChainBelt:ChainBelt
 frame:Int
 deriving DecidableEq,Inhabited
instance:GoT Gv:=GoT.struct Gv (β:=ChainBelt × Int) (fun x=>(x.ChainBelt,x.frame))
theorem Ks:Gd (α:=Gv) 0 Gv.ChainBelt (fun x y=>{ x with ChainBelt:=y }):=Gd.of Gd.fst (fun _=>rfl) (fun _ _=>rfl)
theorem Sh (a:Addr) (w:World):(Instr.fieldAt 192 (.pointer (some a)) 0).run Tryz.prog w=.ok (.pointer (some (a.add 0))) w:=by simp [Instr.fieldAt,run_underlying Tryz.underlying192,Instr.sureAddr,fieldPlace,Result.andThen]
theorem Ku:Gd (α:=Gv) 2 Gv.frame (fun x y=>{ x with frame:=y }):=Gd.of (Gd.comp Gd.snd Gd.id_ rfl) (fun _=>rfl) (fun _ _=>rfl)
theorem Ra (a:Addr) (w:World):(Instr.fieldAt 192 (.pointer (some a)) 1).run Tryz.prog w=.ok (.pointer (some (a.add 2))) w:=by simp [Instr.fieldAt,run_underlying Tryz.underlying192,Instr.sureAddr,fieldPlace,Result.andThen]
structure Qp where
 TieHarness:TieHarness
 deriving DecidableEq,Inhabited
instance:GoT Qp:=GoT.struct Qp (β:=TieHarness) (fun x=>x.TieHarness)
theorem Je:Gd (α:=Qp) 0 Qp.TieHarness (fun x y=>{ x with TieHarness:=y }):=Gd.of Gd.id_ (fun _=>rfl) (fun _ _=>rfl)
theorem Ly (a:Addr) (w:World):(Instr.fieldAt 204 (.pointer (some a)) 0).run Tryz.prog w=.ok (.pointer (some (a.add 0))) w:=by simp [Instr.fieldAt,run_underlying Tryz.underlying204,Instr.sureAddr,fieldPlace,Result.andThen]
structure Qj where
 row:Int
 column:Int
 deriving DecidableEq,Inhabited
instance:GoT Qj:=GoT.struct Qj (β:=Int × Int) (fun x=>(x.row,x.column))
end Go.Proofs.YtjjbobaoifflpaaGreatDoor
