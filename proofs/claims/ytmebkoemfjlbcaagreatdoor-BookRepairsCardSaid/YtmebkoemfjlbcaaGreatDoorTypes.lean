/- The types of this seat, as data: structures, how they lie in memory, their parts. Printed by gtypes.py. -/
import Derived.Test.YtmebkoemfjlbcaaGreatDoorIc
import Derived.Test.YtmebkoemfjlbcaaGreatDoorProg
namespace Go.Proofs.YtmebkoemfjlbcaaGreatDoor
open Go.RowKit
theorem SubS.of {α β γ:Type} [GoT β] [GoT γ] {to:α→β} {off:Nat} {f:α→γ} {st:α→γ→α} {f':β→γ} {s':β→γ→β} (h:SubS off f' s') (h1:∀ x,f' (to x)=f x) (h2:∀ x y,to (st x y)=s' (to x) y):@SubS α γ (GoT.struct α to) _ off f st:=by
 refine ⟨⟨h.1.1,fun m w x cs hr=>?_⟩,fun m w x y cs cy hr hy=>?_⟩
 ·rw [← h1]; exact h.1.2 m w (to x) cs hr
 ·show GoT.rep m w (to (st x y)) _; rw [h2]; exact h.2 m w (to x) y cs cy hr hy
structure Design where
 Hooks:Int
 Rows:List Int
 deriving DecidableEq,Inhabited
instance:GoT Design:=GoT.struct Design (β:=Int × (List Int)) (fun x=>(x.Hooks,x.Rows))
theorem part_Design_0:SubS (α:=Design) 0 Design.Hooks (fun x y=>{ x with Hooks:=y }):=SubS.of SubS.fst (fun _=>rfl) (fun _ _=>rfl)
theorem at_24_0 (a:Addr) (w:World):(Instr.fieldAt 24 (.pointer (some a)) 0).run Tryz.prog w=.ok (.pointer (some (a.add 0))) w:=by simp [Instr.fieldAt,run_underlying Tryz.underlying24,Instr.sureAddr,fieldPlace,Result.andThen]
theorem part_Design_1:SubS (α:=Design) 1 Design.Rows (fun x y=>{ x with Rows:=y }):=SubS.of (SubS.comp SubS.snd SubS.id_ rfl) (fun _=>rfl) (fun _ _=>rfl)
theorem at_24_1 (a:Addr) (w:World):(Instr.fieldAt 24 (.pointer (some a)) 1).run Tryz.prog w=.ok (.pointer (some (a.add 1))) w:=by simp [Instr.fieldAt,run_underlying Tryz.underlying24,Instr.sureAddr,fieldPlace,Result.andThen]
structure TieHarness where
 Hooks:Int
 Warps:List Int
 deriving DecidableEq,Inhabited
instance:GoT TieHarness:=GoT.struct TieHarness (β:=Int × (List Int)) (fun x=>(x.Hooks,x.Warps))
theorem part_TieHarness_0:SubS (α:=TieHarness) 0 TieHarness.Hooks (fun x y=>{ x with Hooks:=y }):=SubS.of SubS.fst (fun _=>rfl) (fun _ _=>rfl)
theorem at_106_0 (a:Addr) (w:World):(Instr.fieldAt 106 (.pointer (some a)) 0).run Tryz.prog w=.ok (.pointer (some (a.add 0))) w:=by simp [Instr.fieldAt,run_underlying Tryz.underlying106,Instr.sureAddr,fieldPlace,Result.andThen]
theorem part_TieHarness_1:SubS (α:=TieHarness) 1 TieHarness.Warps (fun x y=>{ x with Warps:=y }):=SubS.of (SubS.comp SubS.snd SubS.id_ rfl) (fun _=>rfl) (fun _ _=>rfl)
theorem at_106_1 (a:Addr) (w:World):(Instr.fieldAt 106 (.pointer (some a)) 1).run Tryz.prog w=.ok (.pointer (some (a.add 1))) w:=by simp [Instr.fieldAt,run_underlying Tryz.underlying106,Instr.sureAddr,fieldPlace,Result.andThen]
structure BookTie where
 Name:Str
 Harness:TieHarness
 deriving DecidableEq,Inhabited
instance:GoT BookTie:=GoT.struct BookTie (β:=Str × TieHarness) (fun x=>(x.Name,x.Harness))
theorem part_BookTie_0:SubS (α:=BookTie) 0 BookTie.Name (fun x y=>{ x with Name:=y }):=SubS.of SubS.fst (fun _=>rfl) (fun _ _=>rfl)
theorem at_108_0 (a:Addr) (w:World):(Instr.fieldAt 108 (.pointer (some a)) 0).run Tryz.prog w=.ok (.pointer (some (a.add 0))) w:=by simp [Instr.fieldAt,run_underlying Tryz.underlying108,Instr.sureAddr,fieldPlace,Result.andThen]
theorem part_BookTie_1:SubS (α:=BookTie) 1 BookTie.Harness (fun x y=>{ x with Harness:=y }):=SubS.of (SubS.comp SubS.snd SubS.id_ rfl) (fun _=>rfl) (fun _ _=>rfl)
theorem at_108_1 (a:Addr) (w:World):(Instr.fieldAt 108 (.pointer (some a)) 1).run Tryz.prog w=.ok (.pointer (some (a.add 1))) w:=by simp [Instr.fieldAt,run_underlying Tryz.underlying108,Instr.sureAddr,fieldPlace,Result.andThen]
structure ChainCard where
 Number:Int
 Row:Int
 Turned:Bool
 deriving DecidableEq,Inhabited
instance:GoT ChainCard:=GoT.struct ChainCard (β:=Int × Int × Bool) (fun x=>(x.Number,x.Row,x.Turned))
theorem part_ChainCard_0:SubS (α:=ChainCard) 0 ChainCard.Number (fun x y=>{ x with Number:=y }):=SubS.of SubS.fst (fun _=>rfl) (fun _ _=>rfl)
theorem at_96_0 (a:Addr) (w:World):(Instr.fieldAt 96 (.pointer (some a)) 0).run Tryz.prog w=.ok (.pointer (some (a.add 0))) w:=by simp [Instr.fieldAt,run_underlying Tryz.underlying96,Instr.sureAddr,fieldPlace,Result.andThen]
theorem part_ChainCard_1:SubS (α:=ChainCard) 1 ChainCard.Row (fun x y=>{ x with Row:=y }):=SubS.of (SubS.comp SubS.snd SubS.fst rfl) (fun _=>rfl) (fun _ _=>rfl)
theorem at_96_1 (a:Addr) (w:World):(Instr.fieldAt 96 (.pointer (some a)) 1).run Tryz.prog w=.ok (.pointer (some (a.add 1))) w:=by simp [Instr.fieldAt,run_underlying Tryz.underlying96,Instr.sureAddr,fieldPlace,Result.andThen]
theorem part_ChainCard_2:SubS (α:=ChainCard) 2 ChainCard.Turned (fun x y=>{ x with Turned:=y }):=SubS.of (SubS.comp SubS.snd (SubS.comp SubS.snd SubS.id_ rfl) rfl) (fun _=>rfl) (fun _ _=>rfl)
theorem at_96_2 (a:Addr) (w:World):(Instr.fieldAt 96 (.pointer (some a)) 2).run Tryz.prog w=.ok (.pointer (some (a.add 2))) w:=by simp [Instr.fieldAt,run_underlying Tryz.underlying96,Instr.sureAddr,fieldPlace,Result.andThen]
structure ChainBelt where
 Hooks:Int
 Cards:List ChainCard
 deriving DecidableEq,Inhabited
instance:GoT ChainBelt:=GoT.struct ChainBelt (β:=Int × (List ChainCard)) (fun x=>(x.Hooks,x.Cards))
theorem part_ChainBelt_0:SubS (α:=ChainBelt) 0 ChainBelt.Hooks (fun x y=>{ x with Hooks:=y }):=SubS.of SubS.fst (fun _=>rfl) (fun _ _=>rfl)
theorem at_92_0 (a:Addr) (w:World):(Instr.fieldAt 92 (.pointer (some a)) 0).run Tryz.prog w=.ok (.pointer (some (a.add 0))) w:=by simp [Instr.fieldAt,run_underlying Tryz.underlying92,Instr.sureAddr,fieldPlace,Result.andThen]
theorem part_ChainBelt_1:SubS (α:=ChainBelt) 1 ChainBelt.Cards (fun x y=>{ x with Cards:=y }):=SubS.of (SubS.comp SubS.snd SubS.id_ rfl) (fun _=>rfl) (fun _ _=>rfl)
theorem at_92_1 (a:Addr) (w:World):(Instr.fieldAt 92 (.pointer (some a)) 1).run Tryz.prog w=.ok (.pointer (some (a.add 1))) w:=by simp [Instr.fieldAt,run_underlying Tryz.underlying92,Instr.sureAddr,fieldPlace,Result.andThen]
structure BookChain where
 Name:Str
 Chain:ChainBelt
 deriving DecidableEq,Inhabited
instance:GoT BookChain:=GoT.struct BookChain (β:=Str × ChainBelt) (fun x=>(x.Name,x.Chain))
theorem part_BookChain_0:SubS (α:=BookChain) 0 BookChain.Name (fun x y=>{ x with Name:=y }):=SubS.of SubS.fst (fun _=>rfl) (fun _ _=>rfl)
theorem at_94_0 (a:Addr) (w:World):(Instr.fieldAt 94 (.pointer (some a)) 0).run Tryz.prog w=.ok (.pointer (some (a.add 0))) w:=by simp [Instr.fieldAt,run_underlying Tryz.underlying94,Instr.sureAddr,fieldPlace,Result.andThen]
theorem part_BookChain_1:SubS (α:=BookChain) 1 BookChain.Chain (fun x y=>{ x with Chain:=y }):=SubS.of (SubS.comp SubS.snd SubS.id_ rfl) (fun _=>rfl) (fun _ _=>rfl)
theorem at_94_1 (a:Addr) (w:World):(Instr.fieldAt 94 (.pointer (some a)) 1).run Tryz.prog w=.ok (.pointer (some (a.add 1))) w:=by simp [Instr.fieldAt,run_underlying Tryz.underlying94,Instr.sureAddr,fieldPlace,Result.andThen]
structure BookMill where
 Ties:List BookTie
 Chains:List BookChain
 deriving DecidableEq,Inhabited
instance:GoT BookMill:=GoT.struct BookMill (β:=(List BookTie) × (List BookChain)) (fun x=>(x.Ties,x.Chains))
theorem part_BookMill_0:SubS (α:=BookMill) 0 BookMill.Ties (fun x y=>{ x with Ties:=y }):=SubS.of SubS.fst (fun _=>rfl) (fun _ _=>rfl)
theorem at_39_0 (a:Addr) (w:World):(Instr.fieldAt 39 (.pointer (some a)) 0).run Tryz.prog w=.ok (.pointer (some (a.add 0))) w:=by simp [Instr.fieldAt,run_underlying Tryz.underlying39,Instr.sureAddr,fieldPlace,Result.andThen]
theorem part_BookMill_1:SubS (α:=BookMill) 1 BookMill.Chains (fun x y=>{ x with Chains:=y }):=SubS.of (SubS.comp SubS.snd SubS.id_ rfl) (fun _=>rfl) (fun _ _=>rfl)
theorem at_39_1 (a:Addr) (w:World):(Instr.fieldAt 39 (.pointer (some a)) 1).run Tryz.prog w=.ok (.pointer (some (a.add 1))) w:=by simp [Instr.fieldAt,run_underlying Tryz.underlying39,Instr.sureAddr,fieldPlace,Result.andThen]
structure BookCloth where
 Day:Int
 Loom:Int
 Chain:Int
 Tie:Int
 Picks:Int
 deriving DecidableEq,Inhabited
instance:GoT BookCloth:=GoT.struct BookCloth (β:=Int × Int × Int × Int × Int) (fun x=>(x.Day,x.Loom,x.Chain,x.Tie,x.Picks))
theorem part_BookCloth_0:SubS (α:=BookCloth) 0 BookCloth.Day (fun x y=>{ x with Day:=y }):=SubS.of SubS.fst (fun _=>rfl) (fun _ _=>rfl)
theorem at_63_0 (a:Addr) (w:World):(Instr.fieldAt 63 (.pointer (some a)) 0).run Tryz.prog w=.ok (.pointer (some (a.add 0))) w:=by simp [Instr.fieldAt,run_underlying Tryz.underlying63,Instr.sureAddr,fieldPlace,Result.andThen]
theorem part_BookCloth_1:SubS (α:=BookCloth) 1 BookCloth.Loom (fun x y=>{ x with Loom:=y }):=SubS.of (SubS.comp SubS.snd SubS.fst rfl) (fun _=>rfl) (fun _ _=>rfl)
theorem at_63_1 (a:Addr) (w:World):(Instr.fieldAt 63 (.pointer (some a)) 1).run Tryz.prog w=.ok (.pointer (some (a.add 1))) w:=by simp [Instr.fieldAt,run_underlying Tryz.underlying63,Instr.sureAddr,fieldPlace,Result.andThen]
theorem part_BookCloth_2:SubS (α:=BookCloth) 2 BookCloth.Chain (fun x y=>{ x with Chain:=y }):=SubS.of (SubS.comp SubS.snd (SubS.comp SubS.snd SubS.fst rfl) rfl) (fun _=>rfl) (fun _ _=>rfl)
theorem at_63_2 (a:Addr) (w:World):(Instr.fieldAt 63 (.pointer (some a)) 2).run Tryz.prog w=.ok (.pointer (some (a.add 2))) w:=by simp [Instr.fieldAt,run_underlying Tryz.underlying63,Instr.sureAddr,fieldPlace,Result.andThen]
theorem part_BookCloth_3:SubS (α:=BookCloth) 3 BookCloth.Tie (fun x y=>{ x with Tie:=y }):=SubS.of (SubS.comp SubS.snd (SubS.comp SubS.snd (SubS.comp SubS.snd SubS.fst rfl) rfl) rfl) (fun _=>rfl) (fun _ _=>rfl)
theorem at_63_3 (a:Addr) (w:World):(Instr.fieldAt 63 (.pointer (some a)) 3).run Tryz.prog w=.ok (.pointer (some (a.add 3))) w:=by simp [Instr.fieldAt,run_underlying Tryz.underlying63,Instr.sureAddr,fieldPlace,Result.andThen]
theorem part_BookCloth_4:SubS (α:=BookCloth) 4 BookCloth.Picks (fun x y=>{ x with Picks:=y }):=SubS.of (SubS.comp SubS.snd (SubS.comp SubS.snd (SubS.comp SubS.snd (SubS.comp SubS.snd SubS.id_ rfl) rfl) rfl) rfl) (fun _=>rfl) (fun _ _=>rfl)
theorem at_63_4 (a:Addr) (w:World):(Instr.fieldAt 63 (.pointer (some a)) 4).run Tryz.prog w=.ok (.pointer (some (a.add 4))) w:=by simp [Instr.fieldAt,run_underlying Tryz.underlying63,Instr.sureAddr,fieldPlace,Result.andThen]
structure Shelf where
 Hooks:UInt8
 Ties:List (List UInt8)
 Chains:List (List UInt8)
 deriving DecidableEq,Inhabited
instance:GoT Shelf:=GoT.struct Shelf (β:=UInt8 × (List (List UInt8)) × (List (List UInt8))) (fun x=>(x.Hooks,x.Ties,x.Chains))
structure BookReader where
 text:Str
 rest:Str
 line:Int
 deriving DecidableEq,Inhabited
instance:GoT BookReader:=GoT.struct BookReader (β:=Str × Str × Int) (fun x=>(x.text,x.rest,x.line))
theorem at_119_0 (a:Addr) (w:World):(Instr.fieldAt 119 (.pointer (some a)) 0).run Tryz.prog w=.ok (.pointer (some (a.add 0))) w:=by simp [Instr.fieldAt,run_underlying Tryz.underlying119,Instr.sureAddr,fieldPlace,Result.andThen]
theorem at_119_1 (a:Addr) (w:World):(Instr.fieldAt 119 (.pointer (some a)) 1).run Tryz.prog w=.ok (.pointer (some (a.add 1))) w:=by simp [Instr.fieldAt,run_underlying Tryz.underlying119,Instr.sureAddr,fieldPlace,Result.andThen]
theorem at_119_2 (a:Addr) (w:World):(Instr.fieldAt 119 (.pointer (some a)) 2).run Tryz.prog w=.ok (.pointer (some (a.add 2))) w:=by simp [Instr.fieldAt,run_underlying Tryz.underlying119,Instr.sureAddr,fieldPlace,Result.andThen]
structure BookMiller where
 reader:BookReader
 mill:BookMill
 deriving DecidableEq,Inhabited
instance:GoT BookMiller:=GoT.struct BookMiller (β:=BookReader × BookMill) (fun x=>(x.reader,x.mill))
theorem at_144_0 (a:Addr) (w:World):(Instr.fieldAt 144 (.pointer (some a)) 0).run Tryz.prog w=.ok (.pointer (some (a.add 0))) w:=by simp [Instr.fieldAt,run_underlying Tryz.underlying144,Instr.sureAddr,fieldPlace,Result.andThen]
theorem at_144_1 (a:Addr) (w:World):(Instr.fieldAt 144 (.pointer (some a)) 1).run Tryz.prog w=.ok (.pointer (some (a.add 3))) w:=by simp [Instr.fieldAt,run_underlying Tryz.underlying144,Instr.sureAddr,fieldPlace,Result.andThen]
structure BookCylinder where
 chain:Int
 card:Int
 deriving DecidableEq,Inhabited
instance:GoT BookCylinder:=GoT.struct BookCylinder (β:=Int × Int) (fun x=>(x.chain,x.card))
theorem part_BookCylinder_0:SubS (α:=BookCylinder) 0 BookCylinder.chain (fun x y=>{ x with chain:=y }):=SubS.of SubS.fst (fun _=>rfl) (fun _ _=>rfl)
theorem at_167_0 (a:Addr) (w:World):(Instr.fieldAt 167 (.pointer (some a)) 0).run Tryz.prog w=.ok (.pointer (some (a.add 0))) w:=by simp [Instr.fieldAt,run_underlying Tryz.underlying167,Instr.sureAddr,fieldPlace,Result.andThen]
theorem part_BookCylinder_1:SubS (α:=BookCylinder) 1 BookCylinder.card (fun x y=>{ x with card:=y }):=SubS.of (SubS.comp SubS.snd SubS.id_ rfl) (fun _=>rfl) (fun _ _=>rfl)
theorem at_167_1 (a:Addr) (w:World):(Instr.fieldAt 167 (.pointer (some a)) 1).run Tryz.prog w=.ok (.pointer (some (a.add 1))) w:=by simp [Instr.fieldAt,run_underlying Tryz.underlying167,Instr.sureAddr,fieldPlace,Result.andThen]
structure BookFault where
 line:Int
 e:Int
 deriving DecidableEq,Inhabited
instance:GoT BookFault:=GoT.struct BookFault (β:=Int × Int) (fun x=>(x.line,x.e))
theorem part_BookFault_0:SubS (α:=BookFault) 0 BookFault.line (fun x y=>{ x with line:=y }):=SubS.of SubS.fst (fun _=>rfl) (fun _ _=>rfl)
theorem at_177_0 (a:Addr) (w:World):(Instr.fieldAt 177 (.pointer (some a)) 0).run Tryz.prog w=.ok (.pointer (some (a.add 0))) w:=by simp [Instr.fieldAt,run_underlying Tryz.underlying177,Instr.sureAddr,fieldPlace,Result.andThen]
theorem part_BookFault_1:SubS (α:=BookFault) 1 BookFault.e (fun x y=>{ x with e:=y }):=SubS.of (SubS.comp SubS.snd SubS.id_ rfl) (fun _=>rfl) (fun _ _=>rfl)
theorem at_177_1 (a:Addr) (w:World):(Instr.fieldAt 177 (.pointer (some a)) 1).run Tryz.prog w=.ok (.pointer (some (a.add 1))) w:=by simp [Instr.fieldAt,run_underlying Tryz.underlying177,Instr.sureAddr,fieldPlace,Result.andThen]
structure BookSpot where
 day:Int
 loom:Int
 deriving DecidableEq,Inhabited
instance:GoT BookSpot:=GoT.struct BookSpot (β:=Int × Int) (fun x=>(x.day,x.loom))
theorem part_BookSpot_0:SubS (α:=BookSpot) 0 BookSpot.day (fun x y=>{ x with day:=y }):=SubS.of SubS.fst (fun _=>rfl) (fun _ _=>rfl)
theorem part_BookSpot_1:SubS (α:=BookSpot) 1 BookSpot.loom (fun x y=>{ x with loom:=y }):=SubS.of (SubS.comp SubS.snd SubS.id_ rfl) (fun _=>rfl) (fun _ _=>rfl)
structure ChainChainBelt where
 ChainBelt:ChainBelt
 frame:Int
 deriving DecidableEq,Inhabited
instance:GoT ChainChainBelt:=GoT.struct ChainChainBelt (β:=ChainBelt × Int) (fun x=>(x.ChainBelt,x.frame))
theorem part_ChainChainBelt_0:SubS (α:=ChainChainBelt) 0 ChainChainBelt.ChainBelt (fun x y=>{ x with ChainBelt:=y }):=SubS.of SubS.fst (fun _=>rfl) (fun _ _=>rfl)
theorem at_220_0 (a:Addr) (w:World):(Instr.fieldAt 220 (.pointer (some a)) 0).run Tryz.prog w=.ok (.pointer (some (a.add 0))) w:=by simp [Instr.fieldAt,run_underlying Tryz.underlying220,Instr.sureAddr,fieldPlace,Result.andThen]
theorem part_ChainChainBelt_1:SubS (α:=ChainChainBelt) 2 ChainChainBelt.frame (fun x y=>{ x with frame:=y }):=SubS.of (SubS.comp SubS.snd SubS.id_ rfl) (fun _=>rfl) (fun _ _=>rfl)
theorem at_220_1 (a:Addr) (w:World):(Instr.fieldAt 220 (.pointer (some a)) 1).run Tryz.prog w=.ok (.pointer (some (a.add 2))) w:=by simp [Instr.fieldAt,run_underlying Tryz.underlying220,Instr.sureAddr,fieldPlace,Result.andThen]
structure TieTieHarness where
 TieHarness:TieHarness
 deriving DecidableEq,Inhabited
instance:GoT TieTieHarness:=GoT.struct TieTieHarness (β:=TieHarness) (fun x=>x.TieHarness)
theorem part_TieTieHarness_0:SubS (α:=TieTieHarness) 0 TieTieHarness.TieHarness (fun x y=>{ x with TieHarness:=y }):=SubS.of SubS.id_ (fun _=>rfl) (fun _ _=>rfl)
theorem at_237_0 (a:Addr) (w:World):(Instr.fieldAt 237 (.pointer (some a)) 0).run Tryz.prog w=.ok (.pointer (some (a.add 0))) w:=by simp [Instr.fieldAt,run_underlying Tryz.underlying237,Instr.sureAddr,fieldPlace,Result.andThen]
structure Utf8AcceptRange where
 lo:UInt8
 hi:UInt8
 deriving DecidableEq,Inhabited
instance:GoT Utf8AcceptRange:=GoT.struct Utf8AcceptRange (β:=UInt8 × UInt8) (fun x=>(x.lo,x.hi))
structure ErrorsErrorString where
 s:Str
 deriving DecidableEq,Inhabited
instance:GoT ErrorsErrorString:=GoT.struct ErrorsErrorString (β:=Str) (fun x=>x.s)
end Go.Proofs.YtmebkoemfjlbcaaGreatDoor
