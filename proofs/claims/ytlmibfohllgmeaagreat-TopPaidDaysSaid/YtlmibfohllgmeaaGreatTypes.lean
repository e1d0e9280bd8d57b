/- The types of this seat, as data: structures, how they lie in memory, their parts. Printed by gtypes.py. -/
import Derived.Test.YtlmibfohllgmeaaGreatQl
import Derived.Test.YtlmibfohllgmeaaGreatProg
namespace Go.Proofs.YtlmibfohllgmeaaGreat
open Go.RowKit
theorem SubS.of {α β γ:Type} [GoT β] [GoT γ] {to:α→β} {off:Nat} {f:α→γ} {st:α→γ→α} {f':β→γ} {s':β→γ→β} (h:SubS off f' s') (h1:∀ x,f' (to x)=f x) (h2:∀ x y,to (st x y)=s' (to x) y):@SubS α γ (GoT.struct α to) _ off f st:=by
 refine ⟨⟨h.1.1,fun m w x cs hr=>?_⟩,fun m w x y cs cy hr hy=>?_⟩
 ·rw [← h1]; exact h.1.2 m w (to x) cs hr
 ·show GoT.rep m w (to (st x y)) _; rw [h2]; exact h.2 m w (to x) y cs cy hr hy
structure Race where
 Boxes:Vector UInt8 2
 Shuttles:Vector (Vector UInt8 2) 3
 deriving DecidableEq
instance:GoT Race:=GoT.struct Race (β:=(Vector UInt8 2) × (Vector (Vector UInt8 2) 3)) (fun x=>(x.Boxes,x.Shuttles))
structure LoomMill where
 Widths:List Int
 Change:Int
 deriving DecidableEq,Inhabited
instance:GoT LoomMill:=GoT.struct LoomMill (β:=(List Int) × Int) (fun x=>(x.Widths,x.Change))
theorem part_LoomMill_0:SubS (α:=LoomMill) 0 LoomMill.Widths (fun x y=>{ x with Widths:=y }):=SubS.of SubS.fst (fun _=>rfl) (fun _ _=>rfl)
theorem at_30_0 (a:Addr) (w:World):(Instr.fieldAt 30 (.pointer (some a)) 0).run Tryz.prog w=.ok (.pointer (some (a.add 0))) w:=by simp [Instr.fieldAt,run_underlying Tryz.underlying30,Instr.sureAddr,fieldPlace,Result.andThen]
theorem part_LoomMill_1:SubS (α:=LoomMill) 1 LoomMill.Change (fun x y=>{ x with Change:=y }):=SubS.of (SubS.comp SubS.snd SubS.id_ rfl) (fun _=>rfl) (fun _ _=>rfl)
theorem at_30_1 (a:Addr) (w:World):(Instr.fieldAt 30 (.pointer (some a)) 1).run Tryz.prog w=.ok (.pointer (some (a.add 1))) w:=by simp [Instr.fieldAt,run_underlying Tryz.underlying30,Instr.sureAddr,fieldPlace,Result.andThen]
structure Span where
 Low:Int
 High:Int
 deriving DecidableEq,Inhabited
instance:GoT Span:=GoT.struct Span (β:=Int × Int) (fun x=>(x.Low,x.High))
structure BoxShuttle where
 Colour:Int
 Side:Int
 Box:Int
 Yarn:Span
 deriving DecidableEq,Inhabited
instance:GoT BoxShuttle:=GoT.struct BoxShuttle (β:=Int × Int × Int × Span) (fun x=>(x.Colour,x.Side,x.Box,x.Yarn))
structure BoxLoom where
 Boxes:List Int
 At:List Int
 Shuttles:List BoxShuttle
 deriving DecidableEq,Inhabited
instance:GoT BoxLoom:=GoT.struct BoxLoom (β:=(List Int) × (List Int) × (List BoxShuttle)) (fun x=>(x.Boxes,x.At,x.Shuttles))
structure LoomOrder where
 Width:Int
 Chain:Int
 Woven:Int
 Early:Int
 Late:Int
 deriving DecidableEq,Inhabited
instance:GoT LoomOrder:=GoT.struct LoomOrder (β:=Int × Int × Int × Int × Int) (fun x=>(x.Width,x.Chain,x.Woven,x.Early,x.Late))
theorem part_LoomOrder_0:SubS (α:=LoomOrder) 0 LoomOrder.Width (fun x y=>{ x with Width:=y }):=SubS.of SubS.fst (fun _=>rfl) (fun _ _=>rfl)
theorem at_49_0 (a:Addr) (w:World):(Instr.fieldAt 49 (.pointer (some a)) 0).run Tryz.prog w=.ok (.pointer (some (a.add 0))) w:=by simp [Instr.fieldAt,run_underlying Tryz.underlying49,Instr.sureAddr,fieldPlace,Result.andThen]
theorem part_LoomOrder_1:SubS (α:=LoomOrder) 1 LoomOrder.Chain (fun x y=>{ x with Chain:=y }):=SubS.of (SubS.comp SubS.snd SubS.fst rfl) (fun _=>rfl) (fun _ _=>rfl)
theorem at_49_1 (a:Addr) (w:World):(Instr.fieldAt 49 (.pointer (some a)) 1).run Tryz.prog w=.ok (.pointer (some (a.add 1))) w:=by simp [Instr.fieldAt,run_underlying Tryz.underlying49,Instr.sureAddr,fieldPlace,Result.andThen]
theorem part_LoomOrder_2:SubS (α:=LoomOrder) 2 LoomOrder.Woven (fun x y=>{ x with Woven:=y }):=SubS.of (SubS.comp SubS.snd (SubS.comp SubS.snd SubS.fst rfl) rfl) (fun _=>rfl) (fun _ _=>rfl)
theorem at_49_2 (a:Addr) (w:World):(Instr.fieldAt 49 (.pointer (some a)) 2).run Tryz.prog w=.ok (.pointer (some (a.add 2))) w:=by simp [Instr.fieldAt,run_underlying Tryz.underlying49,Instr.sureAddr,fieldPlace,Result.andThen]
theorem part_LoomOrder_3:SubS (α:=LoomOrder) 3 LoomOrder.Early (fun x y=>{ x with Early:=y }):=SubS.of (SubS.comp SubS.snd (SubS.comp SubS.snd (SubS.comp SubS.snd SubS.fst rfl) rfl) rfl) (fun _=>rfl) (fun _ _=>rfl)
theorem at_49_3 (a:Addr) (w:World):(Instr.fieldAt 49 (.pointer (some a)) 3).run Tryz.prog w=.ok (.pointer (some (a.add 3))) w:=by simp [Instr.fieldAt,run_underlying Tryz.underlying49,Instr.sureAddr,fieldPlace,Result.andThen]
theorem part_LoomOrder_4:SubS (α:=LoomOrder) 4 LoomOrder.Late (fun x y=>{ x with Late:=y }):=SubS.of (SubS.comp SubS.snd (SubS.comp SubS.snd (SubS.comp SubS.snd (SubS.comp SubS.snd SubS.id_ rfl) rfl) rfl) rfl) (fun _=>rfl) (fun _ _=>rfl)
theorem at_49_4 (a:Addr) (w:World):(Instr.fieldAt 49 (.pointer (some a)) 4).run Tryz.prog w=.ok (.pointer (some (a.add 4))) w:=by simp [Instr.fieldAt,run_underlying Tryz.underlying49,Instr.sureAddr,fieldPlace,Result.andThen]
structure PayRate where
 From:Int
 Rate:Int
 deriving DecidableEq,Inhabited
instance:GoT PayRate:=GoT.struct PayRate (β:=Int × Int) (fun x=>(x.From,x.Rate))
theorem part_PayRate_0:SubS (α:=PayRate) 0 PayRate.From (fun x y=>{ x with From:=y }):=SubS.of SubS.fst (fun _=>rfl) (fun _ _=>rfl)
theorem at_148_0 (a:Addr) (w:World):(Instr.fieldAt 148 (.pointer (some a)) 0).run Tryz.prog w=.ok (.pointer (some (a.add 0))) w:=by simp [Instr.fieldAt,run_underlying Tryz.underlying148,Instr.sureAddr,fieldPlace,Result.andThen]
theorem part_PayRate_1:SubS (α:=PayRate) 1 PayRate.Rate (fun x y=>{ x with Rate:=y }):=SubS.of (SubS.comp SubS.snd SubS.id_ rfl) (fun _=>rfl) (fun _ _=>rfl)
theorem at_148_1 (a:Addr) (w:World):(Instr.fieldAt 148 (.pointer (some a)) 1).run Tryz.prog w=.ok (.pointer (some (a.add 1))) w:=by simp [Instr.fieldAt,run_underlying Tryz.underlying148,Instr.sureAddr,fieldPlace,Result.andThen]
structure PayList where
 Rates:List PayRate
 Extras:List Int
 Fine:Int
 Cap:Int
 deriving DecidableEq,Inhabited
instance:GoT PayList:=GoT.struct PayList (β:=(List PayRate) × (List Int) × Int × Int) (fun x=>(x.Rates,x.Extras,x.Fine,x.Cap))
theorem part_PayList_0:SubS (α:=PayList) 0 PayList.Rates (fun x y=>{ x with Rates:=y }):=SubS.of SubS.fst (fun _=>rfl) (fun _ _=>rfl)
theorem at_59_0 (a:Addr) (w:World):(Instr.fieldAt 59 (.pointer (some a)) 0).run Tryz.prog w=.ok (.pointer (some (a.add 0))) w:=by simp [Instr.fieldAt,run_underlying Tryz.underlying59,Instr.sureAddr,fieldPlace,Result.andThen]
theorem part_PayList_1:SubS (α:=PayList) 1 PayList.Extras (fun x y=>{ x with Extras:=y }):=SubS.of (SubS.comp SubS.snd SubS.fst rfl) (fun _=>rfl) (fun _ _=>rfl)
theorem at_59_1 (a:Addr) (w:World):(Instr.fieldAt 59 (.pointer (some a)) 1).run Tryz.prog w=.ok (.pointer (some (a.add 1))) w:=by simp [Instr.fieldAt,run_underlying Tryz.underlying59,Instr.sureAddr,fieldPlace,Result.andThen]
theorem part_PayList_2:SubS (α:=PayList) 2 PayList.Fine (fun x y=>{ x with Fine:=y }):=SubS.of (SubS.comp SubS.snd (SubS.comp SubS.snd SubS.fst rfl) rfl) (fun _=>rfl) (fun _ _=>rfl)
theorem at_59_2 (a:Addr) (w:World):(Instr.fieldAt 59 (.pointer (some a)) 2).run Tryz.prog w=.ok (.pointer (some (a.add 2))) w:=by simp [Instr.fieldAt,run_underlying Tryz.underlying59,Instr.sureAddr,fieldPlace,Result.andThen]
theorem part_PayList_3:SubS (α:=PayList) 3 PayList.Cap (fun x y=>{ x with Cap:=y }):=SubS.of (SubS.comp SubS.snd (SubS.comp SubS.snd (SubS.comp SubS.snd SubS.id_ rfl) rfl) rfl) (fun _=>rfl) (fun _ _=>rfl)
theorem at_59_3 (a:Addr) (w:World):(Instr.fieldAt 59 (.pointer (some a)) 3).run Tryz.prog w=.ok (.pointer (some (a.add 3))) w:=by simp [Instr.fieldAt,run_underlying Tryz.underlying59,Instr.sureAddr,fieldPlace,Result.andThen]
structure LoomRun where
 Order:Int
 Loom:Int
 From:Int
 deriving DecidableEq,Inhabited
instance:GoT LoomRun:=GoT.struct LoomRun (β:=Int × Int × Int) (fun x=>(x.Order,x.Loom,x.From))
theorem part_LoomRun_0:SubS (α:=LoomRun) 0 LoomRun.Order (fun x y=>{ x with Order:=y }):=SubS.of SubS.fst (fun _=>rfl) (fun _ _=>rfl)
theorem at_66_0 (a:Addr) (w:World):(Instr.fieldAt 66 (.pointer (some a)) 0).run Tryz.prog w=.ok (.pointer (some (a.add 0))) w:=by simp [Instr.fieldAt,run_underlying Tryz.underlying66,Instr.sureAddr,fieldPlace,Result.andThen]
theorem part_LoomRun_1:SubS (α:=LoomRun) 1 LoomRun.Loom (fun x y=>{ x with Loom:=y }):=SubS.of (SubS.comp SubS.snd SubS.fst rfl) (fun _=>rfl) (fun _ _=>rfl)
theorem at_66_1 (a:Addr) (w:World):(Instr.fieldAt 66 (.pointer (some a)) 1).run Tryz.prog w=.ok (.pointer (some (a.add 1))) w:=by simp [Instr.fieldAt,run_underlying Tryz.underlying66,Instr.sureAddr,fieldPlace,Result.andThen]
theorem part_LoomRun_2:SubS (α:=LoomRun) 2 LoomRun.From (fun x y=>{ x with From:=y }):=SubS.of (SubS.comp SubS.snd (SubS.comp SubS.snd SubS.id_ rfl) rfl) (fun _=>rfl) (fun _ _=>rfl)
theorem at_66_2 (a:Addr) (w:World):(Instr.fieldAt 66 (.pointer (some a)) 2).run Tryz.prog w=.ok (.pointer (some (a.add 2))) w:=by simp [Instr.fieldAt,run_underlying Tryz.underlying66,Instr.sureAddr,fieldPlace,Result.andThen]
structure PayPiece where
 Weaver:Int
 Dense:Int
 Picks:Int
 Extras:List Int
 Faults:Int
 deriving DecidableEq,Inhabited
instance:GoT PayPiece:=GoT.struct PayPiece (β:=Int × Int × Int × (List Int) × Int) (fun x=>(x.Weaver,x.Dense,x.Picks,x.Extras,x.Faults))
theorem part_PayPiece_0:SubS (α:=PayPiece) 0 PayPiece.Weaver (fun x y=>{ x with Weaver:=y }):=SubS.of SubS.fst (fun _=>rfl) (fun _ _=>rfl)
theorem at_68_0 (a:Addr) (w:World):(Instr.fieldAt 68 (.pointer (some a)) 0).run Tryz.prog w=.ok (.pointer (some (a.add 0))) w:=by simp [Instr.fieldAt,run_underlying Tryz.underlying68,Instr.sureAddr,fieldPlace,Result.andThen]
theorem part_PayPiece_1:SubS (α:=PayPiece) 1 PayPiece.Dense (fun x y=>{ x with Dense:=y }):=SubS.of (SubS.comp SubS.snd SubS.fst rfl) (fun _=>rfl) (fun _ _=>rfl)
theorem at_68_1 (a:Addr) (w:World):(Instr.fieldAt 68 (.pointer (some a)) 1).run Tryz.prog w=.ok (.pointer (some (a.add 1))) w:=by simp [Instr.fieldAt,run_underlying Tryz.underlying68,Instr.sureAddr,fieldPlace,Result.andThen]
theorem part_PayPiece_2:SubS (α:=PayPiece) 2 PayPiece.Picks (fun x y=>{ x with Picks:=y }):=SubS.of (SubS.comp SubS.snd (SubS.comp SubS.snd SubS.fst rfl) rfl) (fun _=>rfl) (fun _ _=>rfl)
theorem at_68_2 (a:Addr) (w:World):(Instr.fieldAt 68 (.pointer (some a)) 2).run Tryz.prog w=.ok (.pointer (some (a.add 2))) w:=by simp [Instr.fieldAt,run_underlying Tryz.underlying68,Instr.sureAddr,fieldPlace,Result.andThen]
theorem part_PayPiece_3:SubS (α:=PayPiece) 3 PayPiece.Extras (fun x y=>{ x with Extras:=y }):=SubS.of (SubS.comp SubS.snd (SubS.comp SubS.snd (SubS.comp SubS.snd SubS.fst rfl) rfl) rfl) (fun _=>rfl) (fun _ _=>rfl)
theorem at_68_3 (a:Addr) (w:World):(Instr.fieldAt 68 (.pointer (some a)) 3).run Tryz.prog w=.ok (.pointer (some (a.add 3))) w:=by simp [Instr.fieldAt,run_underlying Tryz.underlying68,Instr.sureAddr,fieldPlace,Result.andThen]
theorem part_PayPiece_4:SubS (α:=PayPiece) 4 PayPiece.Faults (fun x y=>{ x with Faults:=y }):=SubS.of (SubS.comp SubS.snd (SubS.comp SubS.snd (SubS.comp SubS.snd (SubS.comp SubS.snd SubS.id_ rfl) rfl) rfl) rfl) (fun _=>rfl) (fun _ _=>rfl)
theorem at_68_4 (a:Addr) (w:World):(Instr.fieldAt 68 (.pointer (some a)) 4).run Tryz.prog w=.ok (.pointer (some (a.add 4))) w:=by simp [Instr.fieldAt,run_underlying Tryz.underlying68,Instr.sureAddr,fieldPlace,Result.andThen]
structure PayTable where
 Rows:List (List Int)
 Across:List Int
 Down:List Int
 Total:Int
 deriving DecidableEq,Inhabited
instance:GoT PayTable:=GoT.struct PayTable (β:=(List (List Int)) × (List Int) × (List Int) × Int) (fun x=>(x.Rows,x.Across,x.Down,x.Total))
theorem part_PayTable_0:SubS (α:=PayTable) 0 PayTable.Rows (fun x y=>{ x with Rows:=y }):=SubS.of SubS.fst (fun _=>rfl) (fun _ _=>rfl)
theorem at_91_0 (a:Addr) (w:World):(Instr.fieldAt 91 (.pointer (some a)) 0).run Tryz.prog w=.ok (.pointer (some (a.add 0))) w:=by simp [Instr.fieldAt,run_underlying Tryz.underlying91,Instr.sureAddr,fieldPlace,Result.andThen]
theorem part_PayTable_1:SubS (α:=PayTable) 1 PayTable.Across (fun x y=>{ x with Across:=y }):=SubS.of (SubS.comp SubS.snd SubS.fst rfl) (fun _=>rfl) (fun _ _=>rfl)
theorem at_91_1 (a:Addr) (w:World):(Instr.fieldAt 91 (.pointer (some a)) 1).run Tryz.prog w=.ok (.pointer (some (a.add 1))) w:=by simp [Instr.fieldAt,run_underlying Tryz.underlying91,Instr.sureAddr,fieldPlace,Result.andThen]
theorem part_PayTable_2:SubS (α:=PayTable) 2 PayTable.Down (fun x y=>{ x with Down:=y }):=SubS.of (SubS.comp SubS.snd (SubS.comp SubS.snd SubS.fst rfl) rfl) (fun _=>rfl) (fun _ _=>rfl)
theorem at_91_2 (a:Addr) (w:World):(Instr.fieldAt 91 (.pointer (some a)) 2).run Tryz.prog w=.ok (.pointer (some (a.add 2))) w:=by simp [Instr.fieldAt,run_underlying Tryz.underlying91,Instr.sureAddr,fieldPlace,Result.andThen]
theorem part_PayTable_3:SubS (α:=PayTable) 3 PayTable.Total (fun x y=>{ x with Total:=y }):=SubS.of (SubS.comp SubS.snd (SubS.comp SubS.snd (SubS.comp SubS.snd SubS.id_ rfl) rfl) rfl) (fun _=>rfl) (fun _ _=>rfl)
theorem at_91_3 (a:Addr) (w:World):(Instr.fieldAt 91 (.pointer (some a)) 3).run Tryz.prog w=.ok (.pointer (some (a.add 3))) w:=by simp [Instr.fieldAt,run_underlying Tryz.underlying91,Instr.sureAddr,fieldPlace,Result.andThen]
structure PayEntry where
 Kind:Int
 Row:Int
 Column:Int
 Number:Int
 deriving DecidableEq,Inhabited
instance:GoT PayEntry:=GoT.struct PayEntry (β:=Int × Int × Int × Int) (fun x=>(x.Kind,x.Row,x.Column,x.Number))
theorem part_PayEntry_3:SubS (α:=PayEntry) 3 PayEntry.Number (fun x y=>{ x with Number:=y }):=SubS.of (SubS.comp SubS.snd (SubS.comp SubS.snd (SubS.comp SubS.snd SubS.id_ rfl) rfl) rfl) (fun _=>rfl) (fun _ _=>rfl)
theorem at_98_3 (a:Addr) (w:World):(Instr.fieldAt 98 (.pointer (some a)) 3).run Tryz.prog w=.ok (.pointer (some (a.add 3))) w:=by simp [Instr.fieldAt,run_underlying Tryz.underlying98,Instr.sureAddr,fieldPlace,Result.andThen]
structure BoxBoxLoom where
 BoxLoom:BoxLoom
 deriving DecidableEq,Inhabited
instance:GoT BoxBoxLoom:=GoT.struct BoxBoxLoom (β:=BoxLoom) (fun x=>x.BoxLoom)
structure BoxPick where
 Left:Int
 Right:Int
 deriving DecidableEq,Inhabited
instance:GoT BoxPick:=GoT.struct BoxPick (β:=Int × Int) (fun x=>(x.Left,x.Right))
structure BoxRace where
 boxes:Vector (Vector Int 4) 2
 at_:BoxPick
 deriving DecidableEq
instance:GoT BoxRace:=GoT.struct BoxRace (β:=(Vector (Vector Int 4) 2) × BoxPick) (fun x=>(x.boxes,x.at_))
structure BoxPoint where
 group:Int
 done:Int
 race:BoxRace
 deriving DecidableEq
instance:GoT BoxPoint:=GoT.struct BoxPoint (β:=Int × Int × BoxRace) (fun x=>(x.group,x.done,x.race))
structure LoomLoomMill where
 LoomMill:LoomMill
 orders:List LoomOrder
 deriving DecidableEq,Inhabited
instance:GoT LoomLoomMill:=GoT.struct LoomLoomMill (β:=LoomMill × (List LoomOrder)) (fun x=>(x.LoomMill,x.orders))
theorem part_LoomLoomMill_0:SubS (α:=LoomLoomMill) 0 LoomLoomMill.LoomMill (fun x y=>{ x with LoomMill:=y }):=SubS.of SubS.fst (fun _=>rfl) (fun _ _=>rfl)
theorem at_134_0 (a:Addr) (w:World):(Instr.fieldAt 134 (.pointer (some a)) 0).run Tryz.prog w=.ok (.pointer (some (a.add 0))) w:=by simp [Instr.fieldAt,run_underlying Tryz.underlying134,Instr.sureAddr,fieldPlace,Result.andThen]
theorem part_LoomLoomMill_1:SubS (α:=LoomLoomMill) 2 LoomLoomMill.orders (fun x y=>{ x with orders:=y }):=SubS.of (SubS.comp SubS.snd SubS.id_ rfl) (fun _=>rfl) (fun _ _=>rfl)
theorem at_134_1 (a:Addr) (w:World):(Instr.fieldAt 134 (.pointer (some a)) 1).run Tryz.prog w=.ok (.pointer (some (a.add 2))) w:=by simp [Instr.fieldAt,run_underlying Tryz.underlying134,Instr.sureAddr,fieldPlace,Result.andThen]
structure PayPayList where
 PayList:PayList
 deriving DecidableEq,Inhabited
instance:GoT PayPayList:=GoT.struct PayPayList (β:=PayList) (fun x=>x.PayList)
theorem part_PayPayList_0:SubS (α:=PayPayList) 0 PayPayList.PayList (fun x y=>{ x with PayList:=y }):=SubS.of SubS.id_ (fun _=>rfl) (fun _ _=>rfl)
theorem at_153_0 (a:Addr) (w:World):(Instr.fieldAt 153 (.pointer (some a)) 0).run Tryz.prog w=.ok (.pointer (some (a.add 0))) w:=by simp [Instr.fieldAt,run_underlying Tryz.underlying153,Instr.sureAddr,fieldPlace,Result.andThen]
structure BoxRun where
 thrown:List Int
 last:BoxRace
 moves:Int
 deriving DecidableEq
instance:GoT BoxRun:=GoT.struct BoxRun (β:=(List Int) × BoxRace × Int) (fun x=>(x.thrown,x.last,x.moves))
structure PaySheet where
 PayTable:PayTable
 deriving DecidableEq,Inhabited
instance:GoT PaySheet:=GoT.struct PaySheet (β:=PayTable) (fun x=>x.PayTable)
theorem part_PaySheet_0:SubS (α:=PaySheet) 0 PaySheet.PayTable (fun x y=>{ x with PayTable:=y }):=SubS.of SubS.id_ (fun _=>rfl) (fun _ _=>rfl)
theorem at_173_0 (a:Addr) (w:World):(Instr.fieldAt 173 (.pointer (some a)) 0).run Tryz.prog w=.ok (.pointer (some (a.add 0))) w:=by simp [Instr.fieldAt,run_underlying Tryz.underlying173,Instr.sureAddr,fieldPlace,Result.andThen]
structure PayPlace where
 row:Int
 column:Int
 deriving DecidableEq,Inhabited
instance:GoT PayPlace:=GoT.struct PayPlace (β:=Int × Int) (fun x=>(x.row,x.column))
structure PayFilling where
 sheet:PaySheet
 places:List PayPlace
 amounts:List Int
 deriving DecidableEq,Inhabited
instance:GoT PayFilling:=GoT.struct PayFilling (β:=PaySheet × (List PayPlace) × (List Int)) (fun x=>(x.sheet,x.places,x.amounts))
structure BoxMill where
 left:Int
 right:Int
 known:MapRef
 deriving DecidableEq,Inhabited
instance:GoT BoxMill:=GoT.struct BoxMill (β:=Int × Int × MapRef) (fun x=>(x.left,x.right,x.known))
structure BoxStep where
 next:BoxRace
 colour:Int
 moves:Int
 deriving DecidableEq
instance:GoT BoxStep:=GoT.struct BoxStep (β:=BoxRace × Int × Int) (fun x=>(x.next,x.colour,x.moves))
structure PayEnd where
 at_:Int
 isDown:Bool
 deriving DecidableEq,Inhabited
instance:GoT PayEnd:=GoT.struct PayEnd (β:=Int × Bool) (fun x=>(x.at_,x.isDown))
structure PayStep where
 blot:Int
 less:Bool
 deriving DecidableEq,Inhabited
instance:GoT PayStep:=GoT.struct PayStep (β:=Int × Bool) (fun x=>(x.blot,x.less))
end Go.Proofs.YtlmibfohllgmeaaGreat
