/- The types of this seat, as data: structures, how they lie in memory, their parts. Printed by gtypes.py. -/
import Derived.Test.YtomjodbnpgbjnaaGreatShort
import Derived.Test.YtomjodbnpgbjnaaGreatProg
namespace Go.Proofs.YtomjodbnpgbjnaaGreat
open Go.RowKit
theorem SubS.of {α β γ:Type} [GoT β] [GoT γ] {to:α→β} {off:Nat} {f:α→γ} {st:α→γ→α} {f':β→γ} {s':β→γ→β} (h:SubS off f' s') (h1:∀ x,f' (to x)=f x) (h2:∀ x y,to (st x y)=s' (to x) y):@SubS α γ (GoT.struct α to) _ off f st:=by
 refine ⟨⟨h.1.1,fun m w x cs hr=>?_⟩,fun m w x y cs cy hr hy=>?_⟩
 ·rw [← h1]; exact h.1.2 m w (to x) cs hr
 ·show GoT.rep m w (to (st x y)) _; rw [h2]; exact h.2 m w (to x) y cs cy hr hy
structure LoomMill where
 Widths:List Int
 Change:Int
 deriving DecidableEq,Inhabited
instance:GoT LoomMill:=GoT.struct LoomMill (β:=(List Int) × Int) (fun x=>(x.Widths,x.Change))
theorem part_LoomMill_0:SubS (α:=LoomMill) 0 LoomMill.Widths (fun x y=>{ x with Widths:=y }):=SubS.of SubS.fst (fun _=>rfl) (fun _ _=>rfl)
theorem at_28_0 (a:Addr) (w:World):(Instr.fieldAt 28 (.pointer (some a)) 0).run Tryz.prog w=.ok (.pointer (some (a.add 0))) w:=by simp [Instr.fieldAt,run_underlying Tryz.underlying28,Instr.sureAddr,fieldPlace,Result.andThen]
theorem part_LoomMill_1:SubS (α:=LoomMill) 1 LoomMill.Change (fun x y=>{ x with Change:=y }):=SubS.of (SubS.comp SubS.snd SubS.id_ rfl) (fun _=>rfl) (fun _ _=>rfl)
theorem at_28_1 (a:Addr) (w:World):(Instr.fieldAt 28 (.pointer (some a)) 1).run Tryz.prog w=.ok (.pointer (some (a.add 1))) w:=by simp [Instr.fieldAt,run_underlying Tryz.underlying28,Instr.sureAddr,fieldPlace,Result.andThen]
structure TieHarness where
 Hooks:Int
 Warps:List Int
 deriving DecidableEq,Inhabited
instance:GoT TieHarness:=GoT.struct TieHarness (β:=Int × (List Int)) (fun x=>(x.Hooks,x.Warps))
theorem part_TieHarness_0:SubS (α:=TieHarness) 0 TieHarness.Hooks (fun x y=>{ x with Hooks:=y }):=SubS.of SubS.fst (fun _=>rfl) (fun _ _=>rfl)
theorem at_33_0 (a:Addr) (w:World):(Instr.fieldAt 33 (.pointer (some a)) 0).run Tryz.prog w=.ok (.pointer (some (a.add 0))) w:=by simp [Instr.fieldAt,run_underlying Tryz.underlying33,Instr.sureAddr,fieldPlace,Result.andThen]
theorem part_TieHarness_1:SubS (α:=TieHarness) 1 TieHarness.Warps (fun x y=>{ x with Warps:=y }):=SubS.of (SubS.comp SubS.snd SubS.id_ rfl) (fun _=>rfl) (fun _ _=>rfl)
theorem at_33_1 (a:Addr) (w:World):(Instr.fieldAt 33 (.pointer (some a)) 1).run Tryz.prog w=.ok (.pointer (some (a.add 1))) w:=by simp [Instr.fieldAt,run_underlying Tryz.underlying33,Instr.sureAddr,fieldPlace,Result.andThen]
structure Design where
 Hooks:Int
 Rows:List Int
 deriving DecidableEq,Inhabited
instance:GoT Design:=GoT.struct Design (β:=Int × (List Int)) (fun x=>(x.Hooks,x.Rows))
theorem part_Design_0:SubS (α:=Design) 0 Design.Hooks (fun x y=>{ x with Hooks:=y }):=SubS.of SubS.fst (fun _=>rfl) (fun _ _=>rfl)
theorem at_35_0 (a:Addr) (w:World):(Instr.fieldAt 35 (.pointer (some a)) 0).run Tryz.prog w=.ok (.pointer (some (a.add 0))) w:=by simp [Instr.fieldAt,run_underlying Tryz.underlying35,Instr.sureAddr,fieldPlace,Result.andThen]
theorem part_Design_1:SubS (α:=Design) 1 Design.Rows (fun x y=>{ x with Rows:=y }):=SubS.of (SubS.comp SubS.snd SubS.id_ rfl) (fun _=>rfl) (fun _ _=>rfl)
theorem at_35_1 (a:Addr) (w:World):(Instr.fieldAt 35 (.pointer (some a)) 1).run Tryz.prog w=.ok (.pointer (some (a.add 1))) w:=by simp [Instr.fieldAt,run_underlying Tryz.underlying35,Instr.sureAddr,fieldPlace,Result.andThen]
structure FaultLoom where
 Harness:TieHarness
 Design:Design
 deriving DecidableEq,Inhabited
instance:GoT FaultLoom:=GoT.struct FaultLoom (β:=TieHarness × Design) (fun x=>(x.Harness,x.Design))
theorem part_FaultLoom_0:SubS (α:=FaultLoom) 0 FaultLoom.Harness (fun x y=>{ x with Harness:=y }):=SubS.of SubS.fst (fun _=>rfl) (fun _ _=>rfl)
theorem at_37_0 (a:Addr) (w:World):(Instr.fieldAt 37 (.pointer (some a)) 0).run Tryz.prog w=.ok (.pointer (some (a.add 0))) w:=by simp [Instr.fieldAt,run_underlying Tryz.underlying37,Instr.sureAddr,fieldPlace,Result.andThen]
theorem part_FaultLoom_1:SubS (α:=FaultLoom) 2 FaultLoom.Design (fun x y=>{ x with Design:=y }):=SubS.of (SubS.comp SubS.snd SubS.id_ rfl) (fun _=>rfl) (fun _ _=>rfl)
theorem at_37_1 (a:Addr) (w:World):(Instr.fieldAt 37 (.pointer (some a)) 1).run Tryz.prog w=.ok (.pointer (some (a.add 2))) w:=by simp [Instr.fieldAt,run_underlying Tryz.underlying37,Instr.sureAddr,fieldPlace,Result.andThen]
structure FaultDamage where
 Kind:Int
 Pick:Int
 Hook:Int
 Warp:Int
 Up:Bool
 deriving DecidableEq,Inhabited
instance:GoT FaultDamage:=GoT.struct FaultDamage (β:=Int × Int × Int × Int × Bool) (fun x=>(x.Kind,x.Pick,x.Hook,x.Warp,x.Up))
theorem part_FaultDamage_0:SubS (α:=FaultDamage) 0 FaultDamage.Kind (fun x y=>{ x with Kind:=y }):=SubS.of SubS.fst (fun _=>rfl) (fun _ _=>rfl)
theorem at_45_0 (a:Addr) (w:World):(Instr.fieldAt 45 (.pointer (some a)) 0).run Tryz.prog w=.ok (.pointer (some (a.add 0))) w:=by simp [Instr.fieldAt,run_underlying Tryz.underlying45,Instr.sureAddr,fieldPlace,Result.andThen]
theorem part_FaultDamage_1:SubS (α:=FaultDamage) 1 FaultDamage.Pick (fun x y=>{ x with Pick:=y }):=SubS.of (SubS.comp SubS.snd SubS.fst rfl) (fun _=>rfl) (fun _ _=>rfl)
theorem at_45_1 (a:Addr) (w:World):(Instr.fieldAt 45 (.pointer (some a)) 1).run Tryz.prog w=.ok (.pointer (some (a.add 1))) w:=by simp [Instr.fieldAt,run_underlying Tryz.underlying45,Instr.sureAddr,fieldPlace,Result.andThen]
theorem part_FaultDamage_2:SubS (α:=FaultDamage) 2 FaultDamage.Hook (fun x y=>{ x with Hook:=y }):=SubS.of (SubS.comp SubS.snd (SubS.comp SubS.snd SubS.fst rfl) rfl) (fun _=>rfl) (fun _ _=>rfl)
theorem at_45_2 (a:Addr) (w:World):(Instr.fieldAt 45 (.pointer (some a)) 2).run Tryz.prog w=.ok (.pointer (some (a.add 2))) w:=by simp [Instr.fieldAt,run_underlying Tryz.underlying45,Instr.sureAddr,fieldPlace,Result.andThen]
theorem part_FaultDamage_3:SubS (α:=FaultDamage) 3 FaultDamage.Warp (fun x y=>{ x with Warp:=y }):=SubS.of (SubS.comp SubS.snd (SubS.comp SubS.snd (SubS.comp SubS.snd SubS.fst rfl) rfl) rfl) (fun _=>rfl) (fun _ _=>rfl)
theorem at_45_3 (a:Addr) (w:World):(Instr.fieldAt 45 (.pointer (some a)) 3).run Tryz.prog w=.ok (.pointer (some (a.add 3))) w:=by simp [Instr.fieldAt,run_underlying Tryz.underlying45,Instr.sureAddr,fieldPlace,Result.andThen]
theorem part_FaultDamage_4:SubS (α:=FaultDamage) 4 FaultDamage.Up (fun x y=>{ x with Up:=y }):=SubS.of (SubS.comp SubS.snd (SubS.comp SubS.snd (SubS.comp SubS.snd (SubS.comp SubS.snd SubS.id_ rfl) rfl) rfl) rfl) (fun _=>rfl) (fun _ _=>rfl)
theorem at_45_4 (a:Addr) (w:World):(Instr.fieldAt 45 (.pointer (some a)) 4).run Tryz.prog w=.ok (.pointer (some (a.add 4))) w:=by simp [Instr.fieldAt,run_underlying Tryz.underlying45,Instr.sureAddr,fieldPlace,Result.andThen]
structure Span where
 Low:Int
 High:Int
 deriving DecidableEq,Inhabited
instance:GoT Span:=GoT.struct Span (β:=Int × Int) (fun x=>(x.Low,x.High))
theorem part_Span_0:SubS (α:=Span) 0 Span.Low (fun x y=>{ x with Low:=y }):=SubS.of SubS.fst (fun _=>rfl) (fun _ _=>rfl)
theorem at_55_0 (a:Addr) (w:World):(Instr.fieldAt 55 (.pointer (some a)) 0).run Tryz.prog w=.ok (.pointer (some (a.add 0))) w:=by simp [Instr.fieldAt,run_underlying Tryz.underlying55,Instr.sureAddr,fieldPlace,Result.andThen]
theorem part_Span_1:SubS (α:=Span) 1 Span.High (fun x y=>{ x with High:=y }):=SubS.of (SubS.comp SubS.snd SubS.id_ rfl) (fun _=>rfl) (fun _ _=>rfl)
theorem at_55_1 (a:Addr) (w:World):(Instr.fieldAt 55 (.pointer (some a)) 1).run Tryz.prog w=.ok (.pointer (some (a.add 1))) w:=by simp [Instr.fieldAt,run_underlying Tryz.underlying55,Instr.sureAddr,fieldPlace,Result.andThen]
structure LoomStop where
 Loom:Int
 Days:Span
 deriving DecidableEq,Inhabited
instance:GoT LoomStop:=GoT.struct LoomStop (β:=Int × Span) (fun x=>(x.Loom,x.Days))
theorem part_LoomStop_0:SubS (α:=LoomStop) 0 LoomStop.Loom (fun x y=>{ x with Loom:=y }):=SubS.of SubS.fst (fun _=>rfl) (fun _ _=>rfl)
theorem at_58_0 (a:Addr) (w:World):(Instr.fieldAt 58 (.pointer (some a)) 0).run Tryz.prog w=.ok (.pointer (some (a.add 0))) w:=by simp [Instr.fieldAt,run_underlying Tryz.underlying58,Instr.sureAddr,fieldPlace,Result.andThen]
theorem part_LoomStop_1:SubS (α:=LoomStop) 1 LoomStop.Days (fun x y=>{ x with Days:=y }):=SubS.of (SubS.comp SubS.snd SubS.id_ rfl) (fun _=>rfl) (fun _ _=>rfl)
theorem at_58_1 (a:Addr) (w:World):(Instr.fieldAt 58 (.pointer (some a)) 1).run Tryz.prog w=.ok (.pointer (some (a.add 1))) w:=by simp [Instr.fieldAt,run_underlying Tryz.underlying58,Instr.sureAddr,fieldPlace,Result.andThen]
structure LoomRun where
 Order:Int
 Loom:Int
 From:Int
 deriving DecidableEq,Inhabited
instance:GoT LoomRun:=GoT.struct LoomRun (β:=Int × Int × Int) (fun x=>(x.Order,x.Loom,x.From))
theorem part_LoomRun_0:SubS (α:=LoomRun) 0 LoomRun.Order (fun x y=>{ x with Order:=y }):=SubS.of SubS.fst (fun _=>rfl) (fun _ _=>rfl)
theorem at_65_0 (a:Addr) (w:World):(Instr.fieldAt 65 (.pointer (some a)) 0).run Tryz.prog w=.ok (.pointer (some (a.add 0))) w:=by simp [Instr.fieldAt,run_underlying Tryz.underlying65,Instr.sureAddr,fieldPlace,Result.andThen]
theorem part_LoomRun_1:SubS (α:=LoomRun) 1 LoomRun.Loom (fun x y=>{ x with Loom:=y }):=SubS.of (SubS.comp SubS.snd SubS.fst rfl) (fun _=>rfl) (fun _ _=>rfl)
theorem at_65_1 (a:Addr) (w:World):(Instr.fieldAt 65 (.pointer (some a)) 1).run Tryz.prog w=.ok (.pointer (some (a.add 1))) w:=by simp [Instr.fieldAt,run_underlying Tryz.underlying65,Instr.sureAddr,fieldPlace,Result.andThen]
theorem part_LoomRun_2:SubS (α:=LoomRun) 2 LoomRun.From (fun x y=>{ x with From:=y }):=SubS.of (SubS.comp SubS.snd (SubS.comp SubS.snd SubS.id_ rfl) rfl) (fun _=>rfl) (fun _ _=>rfl)
theorem at_65_2 (a:Addr) (w:World):(Instr.fieldAt 65 (.pointer (some a)) 2).run Tryz.prog w=.ok (.pointer (some (a.add 2))) w:=by simp [Instr.fieldAt,run_underlying Tryz.underlying65,Instr.sureAddr,fieldPlace,Result.andThen]
structure LoomOrder where
 Width:Int
 Chain:Int
 Woven:Int
 Early:Int
 Late:Int
 deriving DecidableEq,Inhabited
instance:GoT LoomOrder:=GoT.struct LoomOrder (β:=Int × Int × Int × Int × Int) (fun x=>(x.Width,x.Chain,x.Woven,x.Early,x.Late))
theorem part_LoomOrder_0:SubS (α:=LoomOrder) 0 LoomOrder.Width (fun x y=>{ x with Width:=y }):=SubS.of SubS.fst (fun _=>rfl) (fun _ _=>rfl)
theorem at_67_0 (a:Addr) (w:World):(Instr.fieldAt 67 (.pointer (some a)) 0).run Tryz.prog w=.ok (.pointer (some (a.add 0))) w:=by simp [Instr.fieldAt,run_underlying Tryz.underlying67,Instr.sureAddr,fieldPlace,Result.andThen]
theorem part_LoomOrder_1:SubS (α:=LoomOrder) 1 LoomOrder.Chain (fun x y=>{ x with Chain:=y }):=SubS.of (SubS.comp SubS.snd SubS.fst rfl) (fun _=>rfl) (fun _ _=>rfl)
theorem at_67_1 (a:Addr) (w:World):(Instr.fieldAt 67 (.pointer (some a)) 1).run Tryz.prog w=.ok (.pointer (some (a.add 1))) w:=by simp [Instr.fieldAt,run_underlying Tryz.underlying67,Instr.sureAddr,fieldPlace,Result.andThen]
theorem part_LoomOrder_2:SubS (α:=LoomOrder) 2 LoomOrder.Woven (fun x y=>{ x with Woven:=y }):=SubS.of (SubS.comp SubS.snd (SubS.comp SubS.snd SubS.fst rfl) rfl) (fun _=>rfl) (fun _ _=>rfl)
theorem at_67_2 (a:Addr) (w:World):(Instr.fieldAt 67 (.pointer (some a)) 2).run Tryz.prog w=.ok (.pointer (some (a.add 2))) w:=by simp [Instr.fieldAt,run_underlying Tryz.underlying67,Instr.sureAddr,fieldPlace,Result.andThen]
theorem part_LoomOrder_3:SubS (α:=LoomOrder) 3 LoomOrder.Early (fun x y=>{ x with Early:=y }):=SubS.of (SubS.comp SubS.snd (SubS.comp SubS.snd (SubS.comp SubS.snd SubS.fst rfl) rfl) rfl) (fun _=>rfl) (fun _ _=>rfl)
theorem at_67_3 (a:Addr) (w:World):(Instr.fieldAt 67 (.pointer (some a)) 3).run Tryz.prog w=.ok (.pointer (some (a.add 3))) w:=by simp [Instr.fieldAt,run_underlying Tryz.underlying67,Instr.sureAddr,fieldPlace,Result.andThen]
theorem part_LoomOrder_4:SubS (α:=LoomOrder) 4 LoomOrder.Late (fun x y=>{ x with Late:=y }):=SubS.of (SubS.comp SubS.snd (SubS.comp SubS.snd (SubS.comp SubS.snd (SubS.comp SubS.snd SubS.id_ rfl) rfl) rfl) rfl) (fun _=>rfl) (fun _ _=>rfl)
theorem at_67_4 (a:Addr) (w:World):(Instr.fieldAt 67 (.pointer (some a)) 4).run Tryz.prog w=.ok (.pointer (some (a.add 4))) w:=by simp [Instr.fieldAt,run_underlying Tryz.underlying67,Instr.sureAddr,fieldPlace,Result.andThen]
structure FaultFaultLoom where
 FaultLoom:FaultLoom
 deriving DecidableEq,Inhabited
instance:GoT FaultFaultLoom:=GoT.struct FaultFaultLoom (β:=FaultLoom) (fun x=>x.FaultLoom)
theorem part_FaultFaultLoom_0:SubS (α:=FaultFaultLoom) 0 FaultFaultLoom.FaultLoom (fun x y=>{ x with FaultLoom:=y }):=SubS.of SubS.id_ (fun _=>rfl) (fun _ _=>rfl)
theorem at_73_0 (a:Addr) (w:World):(Instr.fieldAt 73 (.pointer (some a)) 0).run Tryz.prog w=.ok (.pointer (some (a.add 0))) w:=by simp [Instr.fieldAt,run_underlying Tryz.underlying73,Instr.sureAddr,fieldPlace,Result.andThen]
structure LoomLoomMill where
 LoomMill:LoomMill
 orders:List LoomOrder
 deriving DecidableEq,Inhabited
instance:GoT LoomLoomMill:=GoT.struct LoomLoomMill (β:=LoomMill × (List LoomOrder)) (fun x=>(x.LoomMill,x.orders))
theorem part_LoomLoomMill_0:SubS (α:=LoomLoomMill) 0 LoomLoomMill.LoomMill (fun x y=>{ x with LoomMill:=y }):=SubS.of SubS.fst (fun _=>rfl) (fun _ _=>rfl)
theorem at_81_0 (a:Addr) (w:World):(Instr.fieldAt 81 (.pointer (some a)) 0).run Tryz.prog w=.ok (.pointer (some (a.add 0))) w:=by simp [Instr.fieldAt,run_underlying Tryz.underlying81,Instr.sureAddr,fieldPlace,Result.andThen]
theorem part_LoomLoomMill_1:SubS (α:=LoomLoomMill) 2 LoomLoomMill.orders (fun x y=>{ x with orders:=y }):=SubS.of (SubS.comp SubS.snd SubS.id_ rfl) (fun _=>rfl) (fun _ _=>rfl)
theorem at_81_1 (a:Addr) (w:World):(Instr.fieldAt 81 (.pointer (some a)) 1).run Tryz.prog w=.ok (.pointer (some (a.add 2))) w:=by simp [Instr.fieldAt,run_underlying Tryz.underlying81,Instr.sureAddr,fieldPlace,Result.andThen]
structure LoomStill where
 mill:LoomLoomMill
 LoomStop:LoomStop
 deriving DecidableEq,Inhabited
instance:GoT LoomStill:=GoT.struct LoomStill (β:=LoomLoomMill × LoomStop) (fun x=>(x.mill,x.LoomStop))
theorem part_LoomStill_0:SubS (α:=LoomStill) 0 LoomStill.mill (fun x y=>{ x with mill:=y }):=SubS.of SubS.fst (fun _=>rfl) (fun _ _=>rfl)
theorem at_99_0 (a:Addr) (w:World):(Instr.fieldAt 99 (.pointer (some a)) 0).run Tryz.prog w=.ok (.pointer (some (a.add 0))) w:=by simp [Instr.fieldAt,run_underlying Tryz.underlying99,Instr.sureAddr,fieldPlace,Result.andThen]
theorem part_LoomStill_1:SubS (α:=LoomStill) 3 LoomStill.LoomStop (fun x y=>{ x with LoomStop:=y }):=SubS.of (SubS.comp SubS.snd SubS.id_ rfl) (fun _=>rfl) (fun _ _=>rfl)
theorem at_99_1 (a:Addr) (w:World):(Instr.fieldAt 99 (.pointer (some a)) 1).run Tryz.prog w=.ok (.pointer (some (a.add 3))) w:=by simp [Instr.fieldAt,run_underlying Tryz.underlying99,Instr.sureAddr,fieldPlace,Result.andThen]
structure TieTieHarness where
 TieHarness:TieHarness
 deriving DecidableEq,Inhabited
instance:GoT TieTieHarness:=GoT.struct TieTieHarness (β:=TieHarness) (fun x=>x.TieHarness)
theorem part_TieTieHarness_0:SubS (α:=TieTieHarness) 0 TieTieHarness.TieHarness (fun x y=>{ x with TieHarness:=y }):=SubS.of SubS.id_ (fun _=>rfl) (fun _ _=>rfl)
theorem at_160_0 (a:Addr) (w:World):(Instr.fieldAt 160 (.pointer (some a)) 0).run Tryz.prog w=.ok (.pointer (some (a.add 0))) w:=by simp [Instr.fieldAt,run_underlying Tryz.underlying160,Instr.sureAddr,fieldPlace,Result.andThen]
end Go.Proofs.YtomjodbnpgbjnaaGreat
