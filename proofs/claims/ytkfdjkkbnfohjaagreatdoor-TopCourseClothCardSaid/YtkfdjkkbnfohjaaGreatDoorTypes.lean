/- The types of this seat, as data: structures, how they lie in memory, their parts. Printed by gtypes.py. -/
import Derived.Test.YtkfdjkkbnfohjaaGreatDoorCp
import Derived.Test.YtkfdjkkbnfohjaaGreatDoorProg
namespace Go.Proofs.YtkfdjkkbnfohjaaGreatDoor
open Go.RowKit
theorem SubS.of {α β γ:Type} [GoT β] [GoT γ] {to:α→β} {off:Nat} {f:α→γ} {st:α→γ→α} {f':β→γ} {s':β→γ→β} (h:SubS off f' s') (h1:∀ x,f' (to x)=f x) (h2:∀ x y,to (st x y)=s' (to x) y):@SubS α γ (GoT.struct α to) _ off f st:=by
 refine ⟨⟨h.1.1,fun m w x cs hr=>?_⟩,fun m w x y cs cy hr hy=>?_⟩
 ·rw [← h1]; exact h.1.2 m w (to x) cs hr
 ·show GoT.rep m w (to (st x y)) _; rw [h2]; exact h.2 m w (to x) y cs cy hr hy
structure Loom where
 Hooks:UInt8
 Warps:List UInt8
 Rows:List UInt16
 Cards:List UInt8
 deriving DecidableEq,Inhabited
instance:GoT Loom:=GoT.struct Loom (β:=UInt8 × (List UInt8) × (List UInt16) × (List UInt8)) (fun x=>(x.Hooks,x.Warps,x.Rows,x.Cards))
theorem part_Loom_0:SubS (α:=Loom) 0 Loom.Hooks (fun x y=>{ x with Hooks:=y }):=SubS.of SubS.fst (fun _=>rfl) (fun _ _=>rfl)
theorem at_25_0 (a:Addr) (w:World):(Instr.fieldAt 25 (.pointer (some a)) 0).run Tryz.prog w=.ok (.pointer (some (a.add 0))) w:=by simp [Instr.fieldAt,run_underlying Tryz.underlying25,Instr.sureAddr,fieldPlace,Result.andThen]
theorem part_Loom_1:SubS (α:=Loom) 1 Loom.Warps (fun x y=>{ x with Warps:=y }):=SubS.of (SubS.comp SubS.snd SubS.fst rfl) (fun _=>rfl) (fun _ _=>rfl)
theorem at_25_1 (a:Addr) (w:World):(Instr.fieldAt 25 (.pointer (some a)) 1).run Tryz.prog w=.ok (.pointer (some (a.add 1))) w:=by simp [Instr.fieldAt,run_underlying Tryz.underlying25,Instr.sureAddr,fieldPlace,Result.andThen]
theorem part_Loom_2:SubS (α:=Loom) 2 Loom.Rows (fun x y=>{ x with Rows:=y }):=SubS.of (SubS.comp SubS.snd (SubS.comp SubS.snd SubS.fst rfl) rfl) (fun _=>rfl) (fun _ _=>rfl)
theorem at_25_2 (a:Addr) (w:World):(Instr.fieldAt 25 (.pointer (some a)) 2).run Tryz.prog w=.ok (.pointer (some (a.add 2))) w:=by simp [Instr.fieldAt,run_underlying Tryz.underlying25,Instr.sureAddr,fieldPlace,Result.andThen]
theorem part_Loom_3:SubS (α:=Loom) 3 Loom.Cards (fun x y=>{ x with Cards:=y }):=SubS.of (SubS.comp SubS.snd (SubS.comp SubS.snd (SubS.comp SubS.snd SubS.id_ rfl) rfl) rfl) (fun _=>rfl) (fun _ _=>rfl)
theorem at_25_3 (a:Addr) (w:World):(Instr.fieldAt 25 (.pointer (some a)) 3).run Tryz.prog w=.ok (.pointer (some (a.add 3))) w:=by simp [Instr.fieldAt,run_underlying Tryz.underlying25,Instr.sureAddr,fieldPlace,Result.andThen]
structure TieHarness where
 Hooks:Int
 Warps:List Int
 deriving DecidableEq,Inhabited
instance:GoT TieHarness:=GoT.struct TieHarness (β:=Int × (List Int)) (fun x=>(x.Hooks,x.Warps))
theorem part_TieHarness_0:SubS (α:=TieHarness) 0 TieHarness.Hooks (fun x y=>{ x with Hooks:=y }):=SubS.of SubS.fst (fun _=>rfl) (fun _ _=>rfl)
theorem at_28_0 (a:Addr) (w:World):(Instr.fieldAt 28 (.pointer (some a)) 0).run Tryz.prog w=.ok (.pointer (some (a.add 0))) w:=by simp [Instr.fieldAt,run_underlying Tryz.underlying28,Instr.sureAddr,fieldPlace,Result.andThen]
theorem part_TieHarness_1:SubS (α:=TieHarness) 1 TieHarness.Warps (fun x y=>{ x with Warps:=y }):=SubS.of (SubS.comp SubS.snd SubS.id_ rfl) (fun _=>rfl) (fun _ _=>rfl)
theorem at_28_1 (a:Addr) (w:World):(Instr.fieldAt 28 (.pointer (some a)) 1).run Tryz.prog w=.ok (.pointer (some (a.add 1))) w:=by simp [Instr.fieldAt,run_underlying Tryz.underlying28,Instr.sureAddr,fieldPlace,Result.andThen]
structure Design where
 Hooks:Int
 Rows:List Int
 deriving DecidableEq,Inhabited
instance:GoT Design:=GoT.struct Design (β:=Int × (List Int)) (fun x=>(x.Hooks,x.Rows))
theorem part_Design_0:SubS (α:=Design) 0 Design.Hooks (fun x y=>{ x with Hooks:=y }):=SubS.of SubS.fst (fun _=>rfl) (fun _ _=>rfl)
theorem at_31_0 (a:Addr) (w:World):(Instr.fieldAt 31 (.pointer (some a)) 0).run Tryz.prog w=.ok (.pointer (some (a.add 0))) w:=by simp [Instr.fieldAt,run_underlying Tryz.underlying31,Instr.sureAddr,fieldPlace,Result.andThen]
theorem part_Design_1:SubS (α:=Design) 1 Design.Rows (fun x y=>{ x with Rows:=y }):=SubS.of (SubS.comp SubS.snd SubS.id_ rfl) (fun _=>rfl) (fun _ _=>rfl)
theorem at_31_1 (a:Addr) (w:World):(Instr.fieldAt 31 (.pointer (some a)) 1).run Tryz.prog w=.ok (.pointer (some (a.add 1))) w:=by simp [Instr.fieldAt,run_underlying Tryz.underlying31,Instr.sureAddr,fieldPlace,Result.andThen]
structure ChainCard where
 Number:Int
 Row:Int
 Turned:Bool
 deriving DecidableEq,Inhabited
instance:GoT ChainCard:=GoT.struct ChainCard (β:=Int × Int × Bool) (fun x=>(x.Number,x.Row,x.Turned))
theorem part_ChainCard_0:SubS (α:=ChainCard) 0 ChainCard.Number (fun x y=>{ x with Number:=y }):=SubS.of SubS.fst (fun _=>rfl) (fun _ _=>rfl)
theorem at_62_0 (a:Addr) (w:World):(Instr.fieldAt 62 (.pointer (some a)) 0).run Tryz.prog w=.ok (.pointer (some (a.add 0))) w:=by simp [Instr.fieldAt,run_underlying Tryz.underlying62,Instr.sureAddr,fieldPlace,Result.andThen]
theorem part_ChainCard_1:SubS (α:=ChainCard) 1 ChainCard.Row (fun x y=>{ x with Row:=y }):=SubS.of (SubS.comp SubS.snd SubS.fst rfl) (fun _=>rfl) (fun _ _=>rfl)
theorem at_62_1 (a:Addr) (w:World):(Instr.fieldAt 62 (.pointer (some a)) 1).run Tryz.prog w=.ok (.pointer (some (a.add 1))) w:=by simp [Instr.fieldAt,run_underlying Tryz.underlying62,Instr.sureAddr,fieldPlace,Result.andThen]
theorem part_ChainCard_2:SubS (α:=ChainCard) 2 ChainCard.Turned (fun x y=>{ x with Turned:=y }):=SubS.of (SubS.comp SubS.snd (SubS.comp SubS.snd SubS.id_ rfl) rfl) (fun _=>rfl) (fun _ _=>rfl)
theorem at_62_2 (a:Addr) (w:World):(Instr.fieldAt 62 (.pointer (some a)) 2).run Tryz.prog w=.ok (.pointer (some (a.add 2))) w:=by simp [Instr.fieldAt,run_underlying Tryz.underlying62,Instr.sureAddr,fieldPlace,Result.andThen]
structure ChainBelt where
 Hooks:Int
 Cards:List ChainCard
 deriving DecidableEq,Inhabited
instance:GoT ChainBelt:=GoT.struct ChainBelt (β:=Int × (List ChainCard)) (fun x=>(x.Hooks,x.Cards))
theorem part_ChainBelt_0:SubS (α:=ChainBelt) 0 ChainBelt.Hooks (fun x y=>{ x with Hooks:=y }):=SubS.of SubS.fst (fun _=>rfl) (fun _ _=>rfl)
theorem at_36_0 (a:Addr) (w:World):(Instr.fieldAt 36 (.pointer (some a)) 0).run Tryz.prog w=.ok (.pointer (some (a.add 0))) w:=by simp [Instr.fieldAt,run_underlying Tryz.underlying36,Instr.sureAddr,fieldPlace,Result.andThen]
theorem part_ChainBelt_1:SubS (α:=ChainBelt) 1 ChainBelt.Cards (fun x y=>{ x with Cards:=y }):=SubS.of (SubS.comp SubS.snd SubS.id_ rfl) (fun _=>rfl) (fun _ _=>rfl)
theorem at_36_1 (a:Addr) (w:World):(Instr.fieldAt 36 (.pointer (some a)) 1).run Tryz.prog w=.ok (.pointer (some (a.add 1))) w:=by simp [Instr.fieldAt,run_underlying Tryz.underlying36,Instr.sureAddr,fieldPlace,Result.andThen]
structure TieGroup where
 First:Int
 Last:Int
 Way:Int
 Times:Int
 deriving DecidableEq,Inhabited
instance:GoT TieGroup:=GoT.struct TieGroup (β:=Int × Int × Int × Int) (fun x=>(x.First,x.Last,x.Way,x.Times))
theorem part_TieGroup_0:SubS (α:=TieGroup) 0 TieGroup.First (fun x y=>{ x with First:=y }):=SubS.of SubS.fst (fun _=>rfl) (fun _ _=>rfl)
theorem at_69_0 (a:Addr) (w:World):(Instr.fieldAt 69 (.pointer (some a)) 0).run Tryz.prog w=.ok (.pointer (some (a.add 0))) w:=by simp [Instr.fieldAt,run_underlying Tryz.underlying69,Instr.sureAddr,fieldPlace,Result.andThen]
theorem part_TieGroup_1:SubS (α:=TieGroup) 1 TieGroup.Last (fun x y=>{ x with Last:=y }):=SubS.of (SubS.comp SubS.snd SubS.fst rfl) (fun _=>rfl) (fun _ _=>rfl)
theorem at_69_1 (a:Addr) (w:World):(Instr.fieldAt 69 (.pointer (some a)) 1).run Tryz.prog w=.ok (.pointer (some (a.add 1))) w:=by simp [Instr.fieldAt,run_underlying Tryz.underlying69,Instr.sureAddr,fieldPlace,Result.andThen]
theorem part_TieGroup_2:SubS (α:=TieGroup) 2 TieGroup.Way (fun x y=>{ x with Way:=y }):=SubS.of (SubS.comp SubS.snd (SubS.comp SubS.snd SubS.fst rfl) rfl) (fun _=>rfl) (fun _ _=>rfl)
theorem at_69_2 (a:Addr) (w:World):(Instr.fieldAt 69 (.pointer (some a)) 2).run Tryz.prog w=.ok (.pointer (some (a.add 2))) w:=by simp [Instr.fieldAt,run_underlying Tryz.underlying69,Instr.sureAddr,fieldPlace,Result.andThen]
theorem part_TieGroup_3:SubS (α:=TieGroup) 3 TieGroup.Times (fun x y=>{ x with Times:=y }):=SubS.of (SubS.comp SubS.snd (SubS.comp SubS.snd (SubS.comp SubS.snd SubS.id_ rfl) rfl) rfl) (fun _=>rfl) (fun _ _=>rfl)
theorem at_69_3 (a:Addr) (w:World):(Instr.fieldAt 69 (.pointer (some a)) 3).run Tryz.prog w=.ok (.pointer (some (a.add 3))) w:=by simp [Instr.fieldAt,run_underlying Tryz.underlying69,Instr.sureAddr,fieldPlace,Result.andThen]
structure ChainChainBelt where
 ChainBelt:ChainBelt
 frame:Int
 deriving DecidableEq,Inhabited
instance:GoT ChainChainBelt:=GoT.struct ChainChainBelt (β:=ChainBelt × Int) (fun x=>(x.ChainBelt,x.frame))
theorem part_ChainChainBelt_0:SubS (α:=ChainChainBelt) 0 ChainChainBelt.ChainBelt (fun x y=>{ x with ChainBelt:=y }):=SubS.of SubS.fst (fun _=>rfl) (fun _ _=>rfl)
theorem at_74_0 (a:Addr) (w:World):(Instr.fieldAt 74 (.pointer (some a)) 0).run Tryz.prog w=.ok (.pointer (some (a.add 0))) w:=by simp [Instr.fieldAt,run_underlying Tryz.underlying74,Instr.sureAddr,fieldPlace,Result.andThen]
theorem part_ChainChainBelt_1:SubS (α:=ChainChainBelt) 2 ChainChainBelt.frame (fun x y=>{ x with frame:=y }):=SubS.of (SubS.comp SubS.snd SubS.id_ rfl) (fun _=>rfl) (fun _ _=>rfl)
theorem at_74_1 (a:Addr) (w:World):(Instr.fieldAt 74 (.pointer (some a)) 1).run Tryz.prog w=.ok (.pointer (some (a.add 2))) w:=by simp [Instr.fieldAt,run_underlying Tryz.underlying74,Instr.sureAddr,fieldPlace,Result.andThen]
structure TieTieHarness where
 TieHarness:TieHarness
 deriving DecidableEq,Inhabited
instance:GoT TieTieHarness:=GoT.struct TieTieHarness (β:=TieHarness) (fun x=>x.TieHarness)
theorem part_TieTieHarness_0:SubS (α:=TieTieHarness) 0 TieTieHarness.TieHarness (fun x y=>{ x with TieHarness:=y }):=SubS.of SubS.id_ (fun _=>rfl) (fun _ _=>rfl)
theorem at_83_0 (a:Addr) (w:World):(Instr.fieldAt 83 (.pointer (some a)) 0).run Tryz.prog w=.ok (.pointer (some (a.add 0))) w:=by simp [Instr.fieldAt,run_underlying Tryz.underlying83,Instr.sureAddr,fieldPlace,Result.andThen]
structure ChainCylinder where
 belt:ChainChainBelt
 cloth:List Int
 deriving DecidableEq,Inhabited
instance:GoT ChainCylinder:=GoT.struct ChainCylinder (β:=ChainChainBelt × (List Int)) (fun x=>(x.belt,x.cloth))
theorem part_ChainCylinder_0:SubS (α:=ChainCylinder) 0 ChainCylinder.belt (fun x y=>{ x with belt:=y }):=SubS.of SubS.fst (fun _=>rfl) (fun _ _=>rfl)
theorem at_90_0 (a:Addr) (w:World):(Instr.fieldAt 90 (.pointer (some a)) 0).run Tryz.prog w=.ok (.pointer (some (a.add 0))) w:=by simp [Instr.fieldAt,run_underlying Tryz.underlying90,Instr.sureAddr,fieldPlace,Result.andThen]
theorem part_ChainCylinder_1:SubS (α:=ChainCylinder) 3 ChainCylinder.cloth (fun x y=>{ x with cloth:=y }):=SubS.of (SubS.comp SubS.snd SubS.id_ rfl) (fun _=>rfl) (fun _ _=>rfl)
theorem at_90_1 (a:Addr) (w:World):(Instr.fieldAt 90 (.pointer (some a)) 1).run Tryz.prog w=.ok (.pointer (some (a.add 3))) w:=by simp [Instr.fieldAt,run_underlying Tryz.underlying90,Instr.sureAddr,fieldPlace,Result.andThen]
structure TieTieGroup where
 TieGroup:TieGroup
 deriving DecidableEq,Inhabited
instance:GoT TieTieGroup:=GoT.struct TieTieGroup (β:=TieGroup) (fun x=>x.TieGroup)
theorem part_TieTieGroup_0:SubS (α:=TieTieGroup) 0 TieTieGroup.TieGroup (fun x y=>{ x with TieGroup:=y }):=SubS.of SubS.id_ (fun _=>rfl) (fun _ _=>rfl)
theorem at_101_0 (a:Addr) (w:World):(Instr.fieldAt 101 (.pointer (some a)) 0).run Tryz.prog w=.ok (.pointer (some (a.add 0))) w:=by simp [Instr.fieldAt,run_underlying Tryz.underlying101,Instr.sureAddr,fieldPlace,Result.andThen]
structure Utf8AcceptRange where
 lo:UInt8
 hi:UInt8
 deriving DecidableEq,Inhabited
instance:GoT Utf8AcceptRange:=GoT.struct Utf8AcceptRange (β:=UInt8 × UInt8) (fun x=>(x.lo,x.hi))
end Go.Proofs.YtkfdjkkbnfohjaaGreatDoor
