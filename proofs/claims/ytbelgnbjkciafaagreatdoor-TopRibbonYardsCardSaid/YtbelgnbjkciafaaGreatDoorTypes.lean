/- The types of this seat, as data: structures, how they lie in memory, their parts. Printed by gtypes.py. -/
import Derived.Test.YtbelgnbjkciafaaGreatDoorIc
import Derived.Test.YtbelgnbjkciafaaGreatDoorProg
namespace Go.Proofs.YtbelgnbjkciafaaGreatDoor
open Go.RowKit
theorem SubS.of {α β γ:Type} [GoT β] [GoT γ] {to:α→β} {off:Nat} {f:α→γ} {st:α→γ→α} {f':β→γ} {s':β→γ→β} (h:SubS off f' s') (h1:∀ x,f' (to x)=f x) (h2:∀ x y,to (st x y)=s' (to x) y):@SubS α γ (GoT.struct α to) _ off f st:=by
 refine ⟨⟨h.1.1,fun m w x cs hr=>?_⟩,fun m w x y cs cy hr hy=>?_⟩
 ·rw [← h1]; exact h.1.2 m w (to x) cs hr
 ·show GoT.rep m w (to (st x y)) _; rw [h2]; exact h.2 m w (to x) y cs cy hr hy
structure TieHarness where
 Hooks:Int
 Warps:List Int
 deriving DecidableEq,Inhabited
instance:GoT TieHarness:=GoT.struct TieHarness (β:=Int × (List Int)) (fun x=>(x.Hooks,x.Warps))
theorem part_TieHarness_0:SubS (α:=TieHarness) 0 TieHarness.Hooks (fun x y=>{ x with Hooks:=y }):=SubS.of SubS.fst (fun _=>rfl) (fun _ _=>rfl)
theorem at_27_0 (a:Addr) (w:World):(Instr.fieldAt 27 (.pointer (some a)) 0).run Tryz.prog w=.ok (.pointer (some (a.add 0))) w:=by simp [Instr.fieldAt,run_underlying Tryz.underlying27,Instr.sureAddr,fieldPlace,Result.andThen]
theorem part_TieHarness_1:SubS (α:=TieHarness) 1 TieHarness.Warps (fun x y=>{ x with Warps:=y }):=SubS.of (SubS.comp SubS.snd SubS.id_ rfl) (fun _=>rfl) (fun _ _=>rfl)
theorem at_27_1 (a:Addr) (w:World):(Instr.fieldAt 27 (.pointer (some a)) 1).run Tryz.prog w=.ok (.pointer (some (a.add 1))) w:=by simp [Instr.fieldAt,run_underlying Tryz.underlying27,Instr.sureAddr,fieldPlace,Result.andThen]
structure Design where
 Hooks:Int
 Rows:List Int
 deriving DecidableEq,Inhabited
instance:GoT Design:=GoT.struct Design (β:=Int × (List Int)) (fun x=>(x.Hooks,x.Rows))
theorem part_Design_0:SubS (α:=Design) 0 Design.Hooks (fun x y=>{ x with Hooks:=y }):=SubS.of SubS.fst (fun _=>rfl) (fun _ _=>rfl)
theorem at_29_0 (a:Addr) (w:World):(Instr.fieldAt 29 (.pointer (some a)) 0).run Tryz.prog w=.ok (.pointer (some (a.add 0))) w:=by simp [Instr.fieldAt,run_underlying Tryz.underlying29,Instr.sureAddr,fieldPlace,Result.andThen]
theorem part_Design_1:SubS (α:=Design) 1 Design.Rows (fun x y=>{ x with Rows:=y }):=SubS.of (SubS.comp SubS.snd SubS.id_ rfl) (fun _=>rfl) (fun _ _=>rfl)
theorem at_29_1 (a:Addr) (w:World):(Instr.fieldAt 29 (.pointer (some a)) 1).run Tryz.prog w=.ok (.pointer (some (a.add 1))) w:=by simp [Instr.fieldAt,run_underlying Tryz.underlying29,Instr.sureAddr,fieldPlace,Result.andThen]
structure FaultLoom where
 Harness:TieHarness
 Design:Design
 deriving DecidableEq,Inhabited
instance:GoT FaultLoom:=GoT.struct FaultLoom (β:=TieHarness × Design) (fun x=>(x.Harness,x.Design))
theorem part_FaultLoom_0:SubS (α:=FaultLoom) 0 FaultLoom.Harness (fun x y=>{ x with Harness:=y }):=SubS.of SubS.fst (fun _=>rfl) (fun _ _=>rfl)
theorem at_31_0 (a:Addr) (w:World):(Instr.fieldAt 31 (.pointer (some a)) 0).run Tryz.prog w=.ok (.pointer (some (a.add 0))) w:=by simp [Instr.fieldAt,run_underlying Tryz.underlying31,Instr.sureAddr,fieldPlace,Result.andThen]
theorem part_FaultLoom_1:SubS (α:=FaultLoom) 2 FaultLoom.Design (fun x y=>{ x with Design:=y }):=SubS.of (SubS.comp SubS.snd SubS.id_ rfl) (fun _=>rfl) (fun _ _=>rfl)
theorem at_31_1 (a:Addr) (w:World):(Instr.fieldAt 31 (.pointer (some a)) 1).run Tryz.prog w=.ok (.pointer (some (a.add 2))) w:=by simp [Instr.fieldAt,run_underlying Tryz.underlying31,Instr.sureAddr,fieldPlace,Result.andThen]
structure BeamPair where
 Driver:Int
 Driven:Int
 deriving DecidableEq,Inhabited
instance:GoT BeamPair:=GoT.struct BeamPair (β:=Int × Int) (fun x=>(x.Driver,x.Driven))
theorem part_BeamPair_0:SubS (α:=BeamPair) 0 BeamPair.Driver (fun x y=>{ x with Driver:=y }):=SubS.of SubS.fst (fun _=>rfl) (fun _ _=>rfl)
theorem at_69_0 (a:Addr) (w:World):(Instr.fieldAt 69 (.pointer (some a)) 0).run Tryz.prog w=.ok (.pointer (some (a.add 0))) w:=by simp [Instr.fieldAt,run_underlying Tryz.underlying69,Instr.sureAddr,fieldPlace,Result.andThen]
theorem part_BeamPair_1:SubS (α:=BeamPair) 1 BeamPair.Driven (fun x y=>{ x with Driven:=y }):=SubS.of (SubS.comp SubS.snd SubS.id_ rfl) (fun _=>rfl) (fun _ _=>rfl)
theorem at_69_1 (a:Addr) (w:World):(Instr.fieldAt 69 (.pointer (some a)) 1).run Tryz.prog w=.ok (.pointer (some (a.add 1))) w:=by simp [Instr.fieldAt,run_underlying Tryz.underlying69,Instr.sureAddr,fieldPlace,Result.andThen]
structure BeamTake where
 Ratchet:Int
 Step:Int
 Pairs:List BeamPair
 Round:Int
 deriving DecidableEq,Inhabited
instance:GoT BeamTake:=GoT.struct BeamTake (β:=Int × Int × (List BeamPair) × Int) (fun x=>(x.Ratchet,x.Step,x.Pairs,x.Round))
theorem part_BeamTake_0:SubS (α:=BeamTake) 0 BeamTake.Ratchet (fun x y=>{ x with Ratchet:=y }):=SubS.of SubS.fst (fun _=>rfl) (fun _ _=>rfl)
theorem at_37_0 (a:Addr) (w:World):(Instr.fieldAt 37 (.pointer (some a)) 0).run Tryz.prog w=.ok (.pointer (some (a.add 0))) w:=by simp [Instr.fieldAt,run_underlying Tryz.underlying37,Instr.sureAddr,fieldPlace,Result.andThen]
theorem part_BeamTake_1:SubS (α:=BeamTake) 1 BeamTake.Step (fun x y=>{ x with Step:=y }):=SubS.of (SubS.comp SubS.snd SubS.fst rfl) (fun _=>rfl) (fun _ _=>rfl)
theorem at_37_1 (a:Addr) (w:World):(Instr.fieldAt 37 (.pointer (some a)) 1).run Tryz.prog w=.ok (.pointer (some (a.add 1))) w:=by simp [Instr.fieldAt,run_underlying Tryz.underlying37,Instr.sureAddr,fieldPlace,Result.andThen]
theorem part_BeamTake_2:SubS (α:=BeamTake) 2 BeamTake.Pairs (fun x y=>{ x with Pairs:=y }):=SubS.of (SubS.comp SubS.snd (SubS.comp SubS.snd SubS.fst rfl) rfl) (fun _=>rfl) (fun _ _=>rfl)
theorem at_37_2 (a:Addr) (w:World):(Instr.fieldAt 37 (.pointer (some a)) 2).run Tryz.prog w=.ok (.pointer (some (a.add 2))) w:=by simp [Instr.fieldAt,run_underlying Tryz.underlying37,Instr.sureAddr,fieldPlace,Result.andThen]
theorem part_BeamTake_3:SubS (α:=BeamTake) 3 BeamTake.Round (fun x y=>{ x with Round:=y }):=SubS.of (SubS.comp SubS.snd (SubS.comp SubS.snd (SubS.comp SubS.snd SubS.id_ rfl) rfl) rfl) (fun _=>rfl) (fun _ _=>rfl)
theorem at_37_3 (a:Addr) (w:World):(Instr.fieldAt 37 (.pointer (some a)) 3).run Tryz.prog w=.ok (.pointer (some (a.add 3))) w:=by simp [Instr.fieldAt,run_underlying Tryz.underlying37,Instr.sureAddr,fieldPlace,Result.andThen]
structure BookTie where
 Name:Str
 Harness:TieHarness
 deriving DecidableEq,Inhabited
instance:GoT BookTie:=GoT.struct BookTie (β:=Str × TieHarness) (fun x=>(x.Name,x.Harness))
theorem part_BookTie_0:SubS (α:=BookTie) 0 BookTie.Name (fun x y=>{ x with Name:=y }):=SubS.of SubS.fst (fun _=>rfl) (fun _ _=>rfl)
theorem at_90_0 (a:Addr) (w:World):(Instr.fieldAt 90 (.pointer (some a)) 0).run Tryz.prog w=.ok (.pointer (some (a.add 0))) w:=by simp [Instr.fieldAt,run_underlying Tryz.underlying90,Instr.sureAddr,fieldPlace,Result.andThen]
theorem part_BookTie_1:SubS (α:=BookTie) 1 BookTie.Harness (fun x y=>{ x with Harness:=y }):=SubS.of (SubS.comp SubS.snd SubS.id_ rfl) (fun _=>rfl) (fun _ _=>rfl)
theorem at_90_1 (a:Addr) (w:World):(Instr.fieldAt 90 (.pointer (some a)) 1).run Tryz.prog w=.ok (.pointer (some (a.add 1))) w:=by simp [Instr.fieldAt,run_underlying Tryz.underlying90,Instr.sureAddr,fieldPlace,Result.andThen]
structure ChainCard where
 Number:Int
 Row:Int
 Turned:Bool
 deriving DecidableEq,Inhabited
instance:GoT ChainCard:=GoT.struct ChainCard (β:=Int × Int × Bool) (fun x=>(x.Number,x.Row,x.Turned))
theorem part_ChainCard_0:SubS (α:=ChainCard) 0 ChainCard.Number (fun x y=>{ x with Number:=y }):=SubS.of SubS.fst (fun _=>rfl) (fun _ _=>rfl)
theorem at_87_0 (a:Addr) (w:World):(Instr.fieldAt 87 (.pointer (some a)) 0).run Tryz.prog w=.ok (.pointer (some (a.add 0))) w:=by simp [Instr.fieldAt,run_underlying Tryz.underlying87,Instr.sureAddr,fieldPlace,Result.andThen]
theorem part_ChainCard_1:SubS (α:=ChainCard) 1 ChainCard.Row (fun x y=>{ x with Row:=y }):=SubS.of (SubS.comp SubS.snd SubS.fst rfl) (fun _=>rfl) (fun _ _=>rfl)
theorem at_87_1 (a:Addr) (w:World):(Instr.fieldAt 87 (.pointer (some a)) 1).run Tryz.prog w=.ok (.pointer (some (a.add 1))) w:=by simp [Instr.fieldAt,run_underlying Tryz.underlying87,Instr.sureAddr,fieldPlace,Result.andThen]
theorem part_ChainCard_2:SubS (α:=ChainCard) 2 ChainCard.Turned (fun x y=>{ x with Turned:=y }):=SubS.of (SubS.comp SubS.snd (SubS.comp SubS.snd SubS.id_ rfl) rfl) (fun _=>rfl) (fun _ _=>rfl)
theorem at_87_2 (a:Addr) (w:World):(Instr.fieldAt 87 (.pointer (some a)) 2).run Tryz.prog w=.ok (.pointer (some (a.add 2))) w:=by simp [Instr.fieldAt,run_underlying Tryz.underlying87,Instr.sureAddr,fieldPlace,Result.andThen]
structure ChainBelt where
 Hooks:Int
 Cards:List ChainCard
 deriving DecidableEq,Inhabited
instance:GoT ChainBelt:=GoT.struct ChainBelt (β:=Int × (List ChainCard)) (fun x=>(x.Hooks,x.Cards))
theorem part_ChainBelt_0:SubS (α:=ChainBelt) 0 ChainBelt.Hooks (fun x y=>{ x with Hooks:=y }):=SubS.of SubS.fst (fun _=>rfl) (fun _ _=>rfl)
theorem at_85_0 (a:Addr) (w:World):(Instr.fieldAt 85 (.pointer (some a)) 0).run Tryz.prog w=.ok (.pointer (some (a.add 0))) w:=by simp [Instr.fieldAt,run_underlying Tryz.underlying85,Instr.sureAddr,fieldPlace,Result.andThen]
theorem part_ChainBelt_1:SubS (α:=ChainBelt) 1 ChainBelt.Cards (fun x y=>{ x with Cards:=y }):=SubS.of (SubS.comp SubS.snd SubS.id_ rfl) (fun _=>rfl) (fun _ _=>rfl)
theorem at_85_1 (a:Addr) (w:World):(Instr.fieldAt 85 (.pointer (some a)) 1).run Tryz.prog w=.ok (.pointer (some (a.add 1))) w:=by simp [Instr.fieldAt,run_underlying Tryz.underlying85,Instr.sureAddr,fieldPlace,Result.andThen]
structure BookChain where
 Name:Str
 Chain:ChainBelt
 deriving DecidableEq,Inhabited
instance:GoT BookChain:=GoT.struct BookChain (β:=Str × ChainBelt) (fun x=>(x.Name,x.Chain))
theorem part_BookChain_0:SubS (α:=BookChain) 0 BookChain.Name (fun x y=>{ x with Name:=y }):=SubS.of SubS.fst (fun _=>rfl) (fun _ _=>rfl)
theorem at_92_0 (a:Addr) (w:World):(Instr.fieldAt 92 (.pointer (some a)) 0).run Tryz.prog w=.ok (.pointer (some (a.add 0))) w:=by simp [Instr.fieldAt,run_underlying Tryz.underlying92,Instr.sureAddr,fieldPlace,Result.andThen]
theorem part_BookChain_1:SubS (α:=BookChain) 1 BookChain.Chain (fun x y=>{ x with Chain:=y }):=SubS.of (SubS.comp SubS.snd SubS.id_ rfl) (fun _=>rfl) (fun _ _=>rfl)
theorem at_92_1 (a:Addr) (w:World):(Instr.fieldAt 92 (.pointer (some a)) 1).run Tryz.prog w=.ok (.pointer (some (a.add 1))) w:=by simp [Instr.fieldAt,run_underlying Tryz.underlying92,Instr.sureAddr,fieldPlace,Result.andThen]
structure BookMill where
 Ties:List BookTie
 Chains:List BookChain
 deriving DecidableEq,Inhabited
instance:GoT BookMill:=GoT.struct BookMill (β:=(List BookTie) × (List BookChain)) (fun x=>(x.Ties,x.Chains))
theorem part_BookMill_0:SubS (α:=BookMill) 0 BookMill.Ties (fun x y=>{ x with Ties:=y }):=SubS.of SubS.fst (fun _=>rfl) (fun _ _=>rfl)
theorem at_50_0 (a:Addr) (w:World):(Instr.fieldAt 50 (.pointer (some a)) 0).run Tryz.prog w=.ok (.pointer (some (a.add 0))) w:=by simp [Instr.fieldAt,run_underlying Tryz.underlying50,Instr.sureAddr,fieldPlace,Result.andThen]
theorem part_BookMill_1:SubS (α:=BookMill) 1 BookMill.Chains (fun x y=>{ x with Chains:=y }):=SubS.of (SubS.comp SubS.snd SubS.id_ rfl) (fun _=>rfl) (fun _ _=>rfl)
theorem at_50_1 (a:Addr) (w:World):(Instr.fieldAt 50 (.pointer (some a)) 1).run Tryz.prog w=.ok (.pointer (some (a.add 1))) w:=by simp [Instr.fieldAt,run_underlying Tryz.underlying50,Instr.sureAddr,fieldPlace,Result.andThen]
structure Span where
 Low:Int
 High:Int
 deriving DecidableEq,Inhabited
instance:GoT Span:=GoT.struct Span (β:=Int × Int) (fun x=>(x.Low,x.High))
theorem part_Span_0:SubS (α:=Span) 0 Span.Low (fun x y=>{ x with Low:=y }):=SubS.of SubS.fst (fun _=>rfl) (fun _ _=>rfl)
theorem at_56_0 (a:Addr) (w:World):(Instr.fieldAt 56 (.pointer (some a)) 0).run Tryz.prog w=.ok (.pointer (some (a.add 0))) w:=by simp [Instr.fieldAt,run_underlying Tryz.underlying56,Instr.sureAddr,fieldPlace,Result.andThen]
theorem part_Span_1:SubS (α:=Span) 1 Span.High (fun x y=>{ x with High:=y }):=SubS.of (SubS.comp SubS.snd SubS.id_ rfl) (fun _=>rfl) (fun _ _=>rfl)
theorem at_56_1 (a:Addr) (w:World):(Instr.fieldAt 56 (.pointer (some a)) 1).run Tryz.prog w=.ok (.pointer (some (a.add 1))) w:=by simp [Instr.fieldAt,run_underlying Tryz.underlying56,Instr.sureAddr,fieldPlace,Result.andThen]
structure BookCloth where
 Day:Int
 Loom:Int
 Chain:Int
 Tie:Int
 Picks:Int
 deriving DecidableEq,Inhabited
instance:GoT BookCloth:=GoT.struct BookCloth (β:=Int × Int × Int × Int × Int) (fun x=>(x.Day,x.Loom,x.Chain,x.Tie,x.Picks))
theorem part_BookCloth_0:SubS (α:=BookCloth) 0 BookCloth.Day (fun x y=>{ x with Day:=y }):=SubS.of SubS.fst (fun _=>rfl) (fun _ _=>rfl)
theorem at_63_0 (a:Addr) (w:World):(Instr.fieldAt 63 (.pointer (some a)) 0).run Tryz.prog w=.ok (.pointer (some (a.add 0))) w:=by simp [Instr.fieldAt,run_underlying Tryz.underlying63,Instr.sureAddr,fieldPlace,Result.andThen]
theorem part_BookCloth_1:SubS (α:=BookCloth) 1 BookCloth.Loom (fun x y=>{ x with Loom:=y }):=SubS.of (SubS.comp SubS.snd SubS.fst rfl) (fun _=>rfl) (fun _ _=>rfl)
theorem at_63_1 (a:Addr) (w:World):(Instr.fieldAt 63 (.pointer (some a)) 1).run Tryz.prog w=.ok (.pointer (some (a.add 1))) w:=by simp [Instr.fieldAt,run_underlying Tryz.underlying63,Instr.sureAddr,fieldPlace,Result.andThen]
theorem part_BookCloth_2:SubS (α:=BookCloth) 2 BookCloth.Chain (fun x y=>{ x with Chain:=y }):=SubS.of (SubS.comp SubS.snd (SubS.comp SubS.snd SubS.fst rfl) rfl) (fun _=>rfl) (fun _ _=>rfl)
theorem at_63_2 (a:Addr) (w:World):(Instr.fieldAt 63 (.pointer (some a)) 2).run Tryz.prog w=.ok (.pointer (some (a.add 2))) w:=by simp [Instr.fieldAt,run_underlying Tryz.underlying63,Instr.sureAddr,fieldPlace,Result.andThen]
theorem part_BookCloth_3:SubS (α:=BookCloth) 3 BookCloth.Tie (fun x y=>{ x with Tie:=y }):=SubS.of (SubS.comp SubS.snd (SubS.comp SubS.snd (SubS.comp SubS.snd SubS.fst rfl) rfl) rfl) (fun _=>rfl) (fun _ _=>rfl)
theorem at_63_3 (a:Addr) (w:World):(Instr.fieldAt 63 (.pointer (some a)) 3).run Tryz.prog w=.ok (.pointer (some (a.add 3))) w:=by simp [Instr.fieldAt,run_underlying Tryz.underlying63,Instr.sureAddr,fieldPlace,Result.andThen]
theorem part_BookCloth_4:SubS (α:=BookCloth) 4 BookCloth.Picks (fun x y=>{ x with Picks:=y }):=SubS.of (SubS.comp SubS.snd (SubS.comp SubS.snd (SubS.comp SubS.snd (SubS.comp SubS.snd SubS.id_ rfl) rfl) rfl) rfl) (fun _=>rfl) (fun _ _=>rfl)
theorem at_63_4 (a:Addr) (w:World):(Instr.fieldAt 63 (.pointer (some a)) 4).run Tryz.prog w=.ok (.pointer (some (a.add 4))) w:=by simp [Instr.fieldAt,run_underlying Tryz.underlying63,Instr.sureAddr,fieldPlace,Result.andThen]
structure BookCylinder where
 chain:Int
 card:Int
 deriving DecidableEq,Inhabited
instance:GoT BookCylinder:=GoT.struct BookCylinder (β:=Int × Int) (fun x=>(x.chain,x.card))
theorem part_BookCylinder_0:SubS (α:=BookCylinder) 0 BookCylinder.chain (fun x y=>{ x with chain:=y }):=SubS.of SubS.fst (fun _=>rfl) (fun _ _=>rfl)
theorem at_81_0 (a:Addr) (w:World):(Instr.fieldAt 81 (.pointer (some a)) 0).run Tryz.prog w=.ok (.pointer (some (a.add 0))) w:=by simp [Instr.fieldAt,run_underlying Tryz.underlying81,Instr.sureAddr,fieldPlace,Result.andThen]
theorem part_BookCylinder_1:SubS (α:=BookCylinder) 1 BookCylinder.card (fun x y=>{ x with card:=y }):=SubS.of (SubS.comp SubS.snd SubS.id_ rfl) (fun _=>rfl) (fun _ _=>rfl)
theorem at_81_1 (a:Addr) (w:World):(Instr.fieldAt 81 (.pointer (some a)) 1).run Tryz.prog w=.ok (.pointer (some (a.add 1))) w:=by simp [Instr.fieldAt,run_underlying Tryz.underlying81,Instr.sureAddr,fieldPlace,Result.andThen]
structure Ratio where
 Num:Int
 Den:Int
 deriving DecidableEq,Inhabited
instance:GoT Ratio:=GoT.struct Ratio (β:=Int × Int) (fun x=>(x.Num,x.Den))
theorem part_Ratio_0:SubS (α:=Ratio) 0 Ratio.Num (fun x y=>{ x with Num:=y }):=SubS.of SubS.fst (fun _=>rfl) (fun _ _=>rfl)
theorem at_97_0 (a:Addr) (w:World):(Instr.fieldAt 97 (.pointer (some a)) 0).run Tryz.prog w=.ok (.pointer (some (a.add 0))) w:=by simp [Instr.fieldAt,run_underlying Tryz.underlying97,Instr.sureAddr,fieldPlace,Result.andThen]
theorem part_Ratio_1:SubS (α:=Ratio) 1 Ratio.Den (fun x y=>{ x with Den:=y }):=SubS.of (SubS.comp SubS.snd SubS.id_ rfl) (fun _=>rfl) (fun _ _=>rfl)
theorem at_97_1 (a:Addr) (w:World):(Instr.fieldAt 97 (.pointer (some a)) 1).run Tryz.prog w=.ok (.pointer (some (a.add 1))) w:=by simp [Instr.fieldAt,run_underlying Tryz.underlying97,Instr.sureAddr,fieldPlace,Result.andThen]
structure BeamRatio where
 Ratio:Ratio
 deriving DecidableEq,Inhabited
instance:GoT BeamRatio:=GoT.struct BeamRatio (β:=Ratio) (fun x=>x.Ratio)
theorem part_BeamRatio_0:SubS (α:=BeamRatio) 0 BeamRatio.Ratio (fun x y=>{ x with Ratio:=y }):=SubS.of SubS.id_ (fun _=>rfl) (fun _ _=>rfl)
theorem at_99_0 (a:Addr) (w:World):(Instr.fieldAt 99 (.pointer (some a)) 0).run Tryz.prog w=.ok (.pointer (some (a.add 0))) w:=by simp [Instr.fieldAt,run_underlying Tryz.underlying99,Instr.sureAddr,fieldPlace,Result.andThen]
theorem of_99_0 (cs:Array Value) (w:World):(Instr.field 99 (.agg cs) 0).run Tryz.prog w=(part 97 cs 0).run Tryz.prog w:=by simp [Instr.field,run_underlying Tryz.underlying99,asAgg,Result.andThen]
structure BeamWarp where
 Length:Span
 Stretch:Span
 Crimp:Span
 Waste:Span
 deriving DecidableEq,Inhabited
instance:GoT BeamWarp:=GoT.struct BeamWarp (β:=Span × Span × Span × Span) (fun x=>(x.Length,x.Stretch,x.Crimp,x.Waste))
theorem part_BeamWarp_0:SubS (α:=BeamWarp) 0 BeamWarp.Length (fun x y=>{ x with Length:=y }):=SubS.of SubS.fst (fun _=>rfl) (fun _ _=>rfl)
theorem at_108_0 (a:Addr) (w:World):(Instr.fieldAt 108 (.pointer (some a)) 0).run Tryz.prog w=.ok (.pointer (some (a.add 0))) w:=by simp [Instr.fieldAt,run_underlying Tryz.underlying108,Instr.sureAddr,fieldPlace,Result.andThen]
theorem part_BeamWarp_1:SubS (α:=BeamWarp) 2 BeamWarp.Stretch (fun x y=>{ x with Stretch:=y }):=SubS.of (SubS.comp SubS.snd SubS.fst rfl) (fun _=>rfl) (fun _ _=>rfl)
theorem at_108_1 (a:Addr) (w:World):(Instr.fieldAt 108 (.pointer (some a)) 1).run Tryz.prog w=.ok (.pointer (some (a.add 2))) w:=by simp [Instr.fieldAt,run_underlying Tryz.underlying108,Instr.sureAddr,fieldPlace,Result.andThen]
theorem part_BeamWarp_2:SubS (α:=BeamWarp) 4 BeamWarp.Crimp (fun x y=>{ x with Crimp:=y }):=SubS.of (SubS.comp SubS.snd (SubS.comp SubS.snd SubS.fst rfl) rfl) (fun _=>rfl) (fun _ _=>rfl)
theorem at_108_2 (a:Addr) (w:World):(Instr.fieldAt 108 (.pointer (some a)) 2).run Tryz.prog w=.ok (.pointer (some (a.add 4))) w:=by simp [Instr.fieldAt,run_underlying Tryz.underlying108,Instr.sureAddr,fieldPlace,Result.andThen]
theorem part_BeamWarp_3:SubS (α:=BeamWarp) 6 BeamWarp.Waste (fun x y=>{ x with Waste:=y }):=SubS.of (SubS.comp SubS.snd (SubS.comp SubS.snd (SubS.comp SubS.snd SubS.id_ rfl) rfl) rfl) (fun _=>rfl) (fun _ _=>rfl)
theorem at_108_3 (a:Addr) (w:World):(Instr.fieldAt 108 (.pointer (some a)) 3).run Tryz.prog w=.ok (.pointer (some (a.add 6))) w:=by simp [Instr.fieldAt,run_underlying Tryz.underlying108,Instr.sureAddr,fieldPlace,Result.andThen]
structure BookSpot where
 day:Int
 loom:Int
 deriving DecidableEq,Inhabited
instance:GoT BookSpot:=GoT.struct BookSpot (β:=Int × Int) (fun x=>(x.day,x.loom))
theorem part_BookSpot_0:SubS (α:=BookSpot) 0 BookSpot.day (fun x y=>{ x with day:=y }):=SubS.of SubS.fst (fun _=>rfl) (fun _ _=>rfl)
theorem part_BookSpot_1:SubS (α:=BookSpot) 1 BookSpot.loom (fun x y=>{ x with loom:=y }):=SubS.of (SubS.comp SubS.snd SubS.id_ rfl) (fun _=>rfl) (fun _ _=>rfl)
structure BeamYields where
 stretch:Int
 crimp:Int
 waste:Int
 deriving DecidableEq,Inhabited
instance:GoT BeamYields:=GoT.struct BeamYields (β:=Int × Int × Int) (fun x=>(x.stretch,x.crimp,x.waste))
theorem part_BeamYields_0:SubS (α:=BeamYields) 0 BeamYields.stretch (fun x y=>{ x with stretch:=y }):=SubS.of SubS.fst (fun _=>rfl) (fun _ _=>rfl)
theorem at_150_0 (a:Addr) (w:World):(Instr.fieldAt 150 (.pointer (some a)) 0).run Tryz.prog w=.ok (.pointer (some (a.add 0))) w:=by simp [Instr.fieldAt,run_underlying Tryz.underlying150,Instr.sureAddr,fieldPlace,Result.andThen]
theorem part_BeamYields_1:SubS (α:=BeamYields) 1 BeamYields.crimp (fun x y=>{ x with crimp:=y }):=SubS.of (SubS.comp SubS.snd SubS.fst rfl) (fun _=>rfl) (fun _ _=>rfl)
theorem at_150_1 (a:Addr) (w:World):(Instr.fieldAt 150 (.pointer (some a)) 1).run Tryz.prog w=.ok (.pointer (some (a.add 1))) w:=by simp [Instr.fieldAt,run_underlying Tryz.underlying150,Instr.sureAddr,fieldPlace,Result.andThen]
theorem part_BeamYields_2:SubS (α:=BeamYields) 2 BeamYields.waste (fun x y=>{ x with waste:=y }):=SubS.of (SubS.comp SubS.snd (SubS.comp SubS.snd SubS.id_ rfl) rfl) (fun _=>rfl) (fun _ _=>rfl)
theorem at_150_2 (a:Addr) (w:World):(Instr.fieldAt 150 (.pointer (some a)) 2).run Tryz.prog w=.ok (.pointer (some (a.add 2))) w:=by simp [Instr.fieldAt,run_underlying Tryz.underlying150,Instr.sureAddr,fieldPlace,Result.andThen]
structure ChainChainBelt where
 ChainBelt:ChainBelt
 frame:Int
 deriving DecidableEq,Inhabited
instance:GoT ChainChainBelt:=GoT.struct ChainChainBelt (β:=ChainBelt × Int) (fun x=>(x.ChainBelt,x.frame))
theorem part_ChainChainBelt_0:SubS (α:=ChainChainBelt) 0 ChainChainBelt.ChainBelt (fun x y=>{ x with ChainBelt:=y }):=SubS.of SubS.fst (fun _=>rfl) (fun _ _=>rfl)
theorem at_171_0 (a:Addr) (w:World):(Instr.fieldAt 171 (.pointer (some a)) 0).run Tryz.prog w=.ok (.pointer (some (a.add 0))) w:=by simp [Instr.fieldAt,run_underlying Tryz.underlying171,Instr.sureAddr,fieldPlace,Result.andThen]
theorem part_ChainChainBelt_1:SubS (α:=ChainChainBelt) 2 ChainChainBelt.frame (fun x y=>{ x with frame:=y }):=SubS.of (SubS.comp SubS.snd SubS.id_ rfl) (fun _=>rfl) (fun _ _=>rfl)
theorem at_171_1 (a:Addr) (w:World):(Instr.fieldAt 171 (.pointer (some a)) 1).run Tryz.prog w=.ok (.pointer (some (a.add 2))) w:=by simp [Instr.fieldAt,run_underlying Tryz.underlying171,Instr.sureAddr,fieldPlace,Result.andThen]
structure TieTieHarness where
 TieHarness:TieHarness
 deriving DecidableEq,Inhabited
instance:GoT TieTieHarness:=GoT.struct TieTieHarness (β:=TieHarness) (fun x=>x.TieHarness)
theorem part_TieTieHarness_0:SubS (α:=TieTieHarness) 0 TieTieHarness.TieHarness (fun x y=>{ x with TieHarness:=y }):=SubS.of SubS.id_ (fun _=>rfl) (fun _ _=>rfl)
theorem at_187_0 (a:Addr) (w:World):(Instr.fieldAt 187 (.pointer (some a)) 0).run Tryz.prog w=.ok (.pointer (some (a.add 0))) w:=by simp [Instr.fieldAt,run_underlying Tryz.underlying187,Instr.sureAddr,fieldPlace,Result.andThen]
end Go.Proofs.YtbelgnbjkciafaaGreatDoor
