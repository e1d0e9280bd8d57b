/- The types of this seat, as data: structures, how they lie in memory, their parts. Printed by gtypes.py. -/
import Derived.Test.YtlmibfohllgmeaaGreatQm
import Derived.Test.YtlmibfohllgmeaaGreatProg
namespace Go.Proofs.YtlmibfohllgmeaaGreat
open Go.RowKit
theorem Gs.of {α β γ:Type} [GoT β] [GoT γ] {to:α→β} {off:Nat} {f:α→γ} {st:α→γ→α} {f':β→γ} {s':β→γ→β} (h:Gs off f' s') (h1:∀ x,f' (to x)=f x) (h2:∀ x y,to (st x y)=s' (to x) y):@Gs α γ (GoT.struct α to) _ off f st:=by
 refine ⟨⟨h.1.1,fun m w x cs hr=>?_⟩,fun m w x y cs cy hr hy=>?_⟩
 ·rw [← h1]; exact h.1.2 m w (to x) cs hr
 ·show GoT.rep m w (to (st x y)) _; rw [h2]; exact h.2 m w (to x) y cs cy hr hy
structure Ya where
 Boxes:Vector UInt8 2
 Shuttles:Vector (Vector UInt8 2) 3
 deriving DecidableEq
instance:GoT Ya:=GoT.struct Ya (β:=(Vector UInt8 2) × (Vector (Vector UInt8 2) 3)) (fun x=>(x.Boxes,x.Shuttles))
theorem Xf:Gs (α:=Ya) 0 Ya.Boxes (fun x y=>{ x with Boxes:=y }):=Gs.of Gs.fst (fun _=>rfl) (fun _ _=>rfl)
theorem Pi (a:Addr) (w:World):(Instr.fieldAt 25 (.pointer (some a)) 0).run Tryz.prog w=.ok (.pointer (some (a.add 0))) w:=by simp [Instr.fieldAt,run_underlying Tryz.underlying25,Instr.sureAddr,fieldPlace,Result.andThen]
theorem Se:Gs (α:=Ya) 2 Ya.Shuttles (fun x y=>{ x with Shuttles:=y }):=Gs.of (Gs.comp Gs.snd Gs.id_ rfl) (fun _=>rfl) (fun _ _=>rfl)
theorem Nz (a:Addr) (w:World):(Instr.fieldAt 25 (.pointer (some a)) 1).run Tryz.prog w=.ok (.pointer (some (a.add 2))) w:=by simp [Instr.fieldAt,run_underlying Tryz.underlying25,Instr.sureAddr,fieldPlace,Result.andThen]
structure LoomMill where
 Widths:List Int
 Change:Int
 deriving DecidableEq,Inhabited
instance:GoT LoomMill:=GoT.struct LoomMill (β:=(List Int) × Int) (fun x=>(x.Widths,x.Change))
theorem Wx:Gs (α:=LoomMill) 0 LoomMill.Widths (fun x y=>{ x with Widths:=y }):=Gs.of Gs.fst (fun _=>rfl) (fun _ _=>rfl)
theorem Ul (a:Addr) (w:World):(Instr.fieldAt 30 (.pointer (some a)) 0).run Tryz.prog w=.ok (.pointer (some (a.add 0))) w:=by simp [Instr.fieldAt,run_underlying Tryz.underlying30,Instr.sureAddr,fieldPlace,Result.andThen]
theorem Va:Gs (α:=LoomMill) 1 LoomMill.Change (fun x y=>{ x with Change:=y }):=Gs.of (Gs.comp Gs.snd Gs.id_ rfl) (fun _=>rfl) (fun _ _=>rfl)
theorem Ec (a:Addr) (w:World):(Instr.fieldAt 30 (.pointer (some a)) 1).run Tryz.prog w=.ok (.pointer (some (a.add 1))) w:=by simp [Instr.fieldAt,run_underlying Tryz.underlying30,Instr.sureAddr,fieldPlace,Result.andThen]
structure Xp where
 Low:Int
 High:Int
 deriving DecidableEq,Inhabited
instance:GoT Xp:=GoT.struct Xp (β:=Int × Int) (fun x=>(x.Low,x.High))
theorem Bb:Gs (α:=Xp) 0 Xp.Low (fun x y=>{ x with Low:=y }):=Gs.of Gs.fst (fun _=>rfl) (fun _ _=>rfl)
theorem Lr (a:Addr) (w:World):(Instr.fieldAt 80 (.pointer (some a)) 0).run Tryz.prog w=.ok (.pointer (some (a.add 0))) w:=by simp [Instr.fieldAt,run_underlying Tryz.underlying80,Instr.sureAddr,fieldPlace,Result.andThen]
theorem Bp:Gs (α:=Xp) 1 Xp.High (fun x y=>{ x with High:=y }):=Gs.of (Gs.comp Gs.snd Gs.id_ rfl) (fun _=>rfl) (fun _ _=>rfl)
theorem Pm (a:Addr) (w:World):(Instr.fieldAt 80 (.pointer (some a)) 1).run Tryz.prog w=.ok (.pointer (some (a.add 1))) w:=by simp [Instr.fieldAt,run_underlying Tryz.underlying80,Instr.sureAddr,fieldPlace,Result.andThen]
structure Zv where
 Colour:Int
 Side:Int
 Box:Int
 Yarn:Xp
 deriving DecidableEq,Inhabited
instance:GoT Zv:=GoT.struct Zv (β:=Int × Int × Int × Xp) (fun x=>(x.Colour,x.Side,x.Box,x.Yarn))
theorem Xe:Gs (α:=Zv) 0 Zv.Colour (fun x y=>{ x with Colour:=y }):=Gs.of Gs.fst (fun _=>rfl) (fun _ _=>rfl)
theorem Sm (a:Addr) (w:World):(Instr.fieldAt 83 (.pointer (some a)) 0).run Tryz.prog w=.ok (.pointer (some (a.add 0))) w:=by simp [Instr.fieldAt,run_underlying Tryz.underlying83,Instr.sureAddr,fieldPlace,Result.andThen]
theorem Hl:Gs (α:=Zv) 1 Zv.Side (fun x y=>{ x with Side:=y }):=Gs.of (Gs.comp Gs.snd Gs.fst rfl) (fun _=>rfl) (fun _ _=>rfl)
theorem Ui (a:Addr) (w:World):(Instr.fieldAt 83 (.pointer (some a)) 1).run Tryz.prog w=.ok (.pointer (some (a.add 1))) w:=by simp [Instr.fieldAt,run_underlying Tryz.underlying83,Instr.sureAddr,fieldPlace,Result.andThen]
theorem Jg:Gs (α:=Zv) 2 Zv.Box (fun x y=>{ x with Box:=y }):=Gs.of (Gs.comp Gs.snd (Gs.comp Gs.snd Gs.fst rfl) rfl) (fun _=>rfl) (fun _ _=>rfl)
theorem Sr (a:Addr) (w:World):(Instr.fieldAt 83 (.pointer (some a)) 2).run Tryz.prog w=.ok (.pointer (some (a.add 2))) w:=by simp [Instr.fieldAt,run_underlying Tryz.underlying83,Instr.sureAddr,fieldPlace,Result.andThen]
theorem Hj:Gs (α:=Zv) 3 Zv.Yarn (fun x y=>{ x with Yarn:=y }):=Gs.of (Gs.comp Gs.snd (Gs.comp Gs.snd (Gs.comp Gs.snd Gs.id_ rfl) rfl) rfl) (fun _=>rfl) (fun _ _=>rfl)
theorem Dm (a:Addr) (w:World):(Instr.fieldAt 83 (.pointer (some a)) 3).run Tryz.prog w=.ok (.pointer (some (a.add 3))) w:=by simp [Instr.fieldAt,run_underlying Tryz.underlying83,Instr.sureAddr,fieldPlace,Result.andThen]
structure BoxLoom where
 Boxes:List Int
 At:List Int
 Shuttles:List Zv
 deriving DecidableEq,Inhabited
instance:GoT BoxLoom:=GoT.struct BoxLoom (β:=(List Int) × (List Int) × (List Zv)) (fun x=>(x.Boxes,x.At,x.Shuttles))
theorem Qj:Gs (α:=BoxLoom) 0 BoxLoom.Boxes (fun x y=>{ x with Boxes:=y }):=Gs.of Gs.fst (fun _=>rfl) (fun _ _=>rfl)
theorem Kv (a:Addr) (w:World):(Instr.fieldAt 44 (.pointer (some a)) 0).run Tryz.prog w=.ok (.pointer (some (a.add 0))) w:=by simp [Instr.fieldAt,run_underlying Tryz.underlying44,Instr.sureAddr,fieldPlace,Result.andThen]
theorem Jo:Gs (α:=BoxLoom) 1 BoxLoom.At (fun x y=>{ x with At:=y }):=Gs.of (Gs.comp Gs.snd Gs.fst rfl) (fun _=>rfl) (fun _ _=>rfl)
theorem Cx (a:Addr) (w:World):(Instr.fieldAt 44 (.pointer (some a)) 1).run Tryz.prog w=.ok (.pointer (some (a.add 1))) w:=by simp [Instr.fieldAt,run_underlying Tryz.underlying44,Instr.sureAddr,fieldPlace,Result.andThen]
theorem Wv:Gs (α:=BoxLoom) 2 BoxLoom.Shuttles (fun x y=>{ x with Shuttles:=y }):=Gs.of (Gs.comp Gs.snd (Gs.comp Gs.snd Gs.id_ rfl) rfl) (fun _=>rfl) (fun _ _=>rfl)
theorem Uk (a:Addr) (w:World):(Instr.fieldAt 44 (.pointer (some a)) 2).run Tryz.prog w=.ok (.pointer (some (a.add 2))) w:=by simp [Instr.fieldAt,run_underlying Tryz.underlying44,Instr.sureAddr,fieldPlace,Result.andThen]
structure Gf where
 Width:Int
 Chain:Int
 Woven:Int
 Early:Int
 Late:Int
 deriving DecidableEq,Inhabited
instance:GoT Gf:=GoT.struct Gf (β:=Int × Int × Int × Int × Int) (fun x=>(x.Width,x.Chain,x.Woven,x.Early,x.Late))
theorem Dd:Gs (α:=Gf) 0 Gf.Width (fun x y=>{ x with Width:=y }):=Gs.of Gs.fst (fun _=>rfl) (fun _ _=>rfl)
theorem Iq (a:Addr) (w:World):(Instr.fieldAt 49 (.pointer (some a)) 0).run Tryz.prog w=.ok (.pointer (some (a.add 0))) w:=by simp [Instr.fieldAt,run_underlying Tryz.underlying49,Instr.sureAddr,fieldPlace,Result.andThen]
theorem Js:Gs (α:=Gf) 1 Gf.Chain (fun x y=>{ x with Chain:=y }):=Gs.of (Gs.comp Gs.snd Gs.fst rfl) (fun _=>rfl) (fun _ _=>rfl)
theorem Pj (a:Addr) (w:World):(Instr.fieldAt 49 (.pointer (some a)) 1).run Tryz.prog w=.ok (.pointer (some (a.add 1))) w:=by simp [Instr.fieldAt,run_underlying Tryz.underlying49,Instr.sureAddr,fieldPlace,Result.andThen]
theorem Wl:Gs (α:=Gf) 2 Gf.Woven (fun x y=>{ x with Woven:=y }):=Gs.of (Gs.comp Gs.snd (Gs.comp Gs.snd Gs.fst rfl) rfl) (fun _=>rfl) (fun _ _=>rfl)
theorem Uf (a:Addr) (w:World):(Instr.fieldAt 49 (.pointer (some a)) 2).run Tryz.prog w=.ok (.pointer (some (a.add 2))) w:=by simp [Instr.fieldAt,run_underlying Tryz.underlying49,Instr.sureAddr,fieldPlace,Result.andThen]
theorem Ub:Gs (α:=Gf) 3 Gf.Early (fun x y=>{ x with Early:=y }):=Gs.of (Gs.comp Gs.snd (Gs.comp Gs.snd (Gs.comp Gs.snd Gs.fst rfl) rfl) rfl) (fun _=>rfl) (fun _ _=>rfl)
theorem Od (a:Addr) (w:World):(Instr.fieldAt 49 (.pointer (some a)) 3).run Tryz.prog w=.ok (.pointer (some (a.add 3))) w:=by simp [Instr.fieldAt,run_underlying Tryz.underlying49,Instr.sureAddr,fieldPlace,Result.andThen]
theorem Jt:Gs (α:=Gf) 4 Gf.Late (fun x y=>{ x with Late:=y }):=Gs.of (Gs.comp Gs.snd (Gs.comp Gs.snd (Gs.comp Gs.snd (Gs.comp Gs.snd Gs.id_ rfl) rfl) rfl) rfl) (fun _=>rfl) (fun _ _=>rfl)
theorem Pe (a:Addr) (w:World):(Instr.fieldAt 49 (.pointer (some a)) 4).run Tryz.prog w=.ok (.pointer (some (a.add 4))) w:=by simp [Instr.fieldAt,run_underlying Tryz.underlying49,Instr.sureAddr,fieldPlace,Result.andThen]
structure Lo where
 From:Int
 Rate:Int
 deriving DecidableEq,Inhabited
instance:GoT Lo:=GoT.struct Lo (β:=Int × Int) (fun x=>(x.From,x.Rate))
structure PayList where
 Rates:List Lo
 Extras:List Int
 Fine:Int
 Cap:Int
 deriving DecidableEq,Inhabited
instance:GoT PayList:=GoT.struct PayList (β:=(List Lo) × (List Int) × Int × Int) (fun x=>(x.Rates,x.Extras,x.Fine,x.Cap))
structure Gl where
 Order:Int
 Loom:Int
 From:Int
 deriving DecidableEq,Inhabited
instance:GoT Gl:=GoT.struct Gl (β:=Int × Int × Int) (fun x=>(x.Order,x.Loom,x.From))
theorem Pq:Gs (α:=Gl) 1 Gl.Loom (fun x y=>{ x with Loom:=y }):=Gs.of (Gs.comp Gs.snd Gs.fst rfl) (fun _=>rfl) (fun _ _=>rfl)
theorem at_66_1 (a:Addr) (w:World):(Instr.fieldAt 66 (.pointer (some a)) 1).run Tryz.prog w=.ok (.pointer (some (a.add 1))) w:=by simp [Instr.fieldAt,run_underlying Tryz.underlying66,Instr.sureAddr,fieldPlace,Result.andThen]
theorem Bx:Gs (α:=Gl) 2 Gl.From (fun x y=>{ x with From:=y }):=Gs.of (Gs.comp Gs.snd (Gs.comp Gs.snd Gs.id_ rfl) rfl) (fun _=>rfl) (fun _ _=>rfl)
theorem at_66_2 (a:Addr) (w:World):(Instr.fieldAt 66 (.pointer (some a)) 2).run Tryz.prog w=.ok (.pointer (some (a.add 2))) w:=by simp [Instr.fieldAt,run_underlying Tryz.underlying66,Instr.sureAddr,fieldPlace,Result.andThen]
structure PayPiece where
 Weaver:Int
 Dense:Int
 Picks:Int
 Extras:List Int
 Faults:Int
 deriving DecidableEq,Inhabited
instance:GoT PayPiece:=GoT.struct PayPiece (β:=Int × Int × Int × (List Int) × Int) (fun x=>(x.Weaver,x.Dense,x.Picks,x.Extras,x.Faults))
structure PayTable where
 Rows:List (List Int)
 Across:List Int
 Down:List Int
 Total:Int
 deriving DecidableEq,Inhabited
instance:GoT PayTable:=GoT.struct PayTable (β:=(List (List Int)) × (List Int) × (List Int) × Int) (fun x=>(x.Rows,x.Across,x.Down,x.Total))
structure El where
 Kind:Int
 Row:Int
 Column:Int
 Number:Int
 deriving DecidableEq,Inhabited
instance:GoT El:=GoT.struct El (β:=Int × Int × Int × Int) (fun x=>(x.Kind,x.Row,x.Column,x.Number))
structure Gj where
 BoxLoom:BoxLoom
 deriving DecidableEq,Inhabited
instance:GoT Gj:=GoT.struct Gj (β:=BoxLoom) (fun x=>x.BoxLoom)
theorem Qg:Gs (α:=Gj) 0 Gj.BoxLoom (fun x y=>{ x with BoxLoom:=y }):=Gs.of Gs.id_ (fun _=>rfl) (fun _ _=>rfl)
theorem Kr (a:Addr) (w:World):(Instr.fieldAt 105 (.pointer (some a)) 0).run Tryz.prog w=.ok (.pointer (some (a.add 0))) w:=by simp [Instr.fieldAt,run_underlying Tryz.underlying105,Instr.sureAddr,fieldPlace,Result.andThen]
structure Gg where
 Left:Int
 Right:Int
 deriving DecidableEq,Inhabited
instance:GoT Gg:=GoT.struct Gg (β:=Int × Int) (fun x=>(x.Left,x.Right))
theorem Kz:Gs (α:=Gg) 0 Gg.Left (fun x y=>{ x with Left:=y }):=Gs.of Gs.fst (fun _=>rfl) (fun _ _=>rfl)
theorem Dc (a:Addr) (w:World):(Instr.fieldAt 113 (.pointer (some a)) 0).run Tryz.prog w=.ok (.pointer (some (a.add 0))) w:=by simp [Instr.fieldAt,run_underlying Tryz.underlying113,Instr.sureAddr,fieldPlace,Result.andThen]
theorem Hd:Gs (α:=Gg) 1 Gg.Right (fun x y=>{ x with Right:=y }):=Gs.of (Gs.comp Gs.snd Gs.id_ rfl) (fun _=>rfl) (fun _ _=>rfl)
theorem Sg (a:Addr) (w:World):(Instr.fieldAt 113 (.pointer (some a)) 1).run Tryz.prog w=.ok (.pointer (some (a.add 1))) w:=by simp [Instr.fieldAt,run_underlying Tryz.underlying113,Instr.sureAddr,fieldPlace,Result.andThen]
structure Tf where
 boxes:Vector (Vector Int 4) 2
 at_:Gg
 deriving DecidableEq
instance:GoT Tf:=GoT.struct Tf (β:=(Vector (Vector Int 4) 2) × Gg) (fun x=>(x.boxes,x.at_))
theorem Hb:Gs (α:=Tf) 0 Tf.boxes (fun x y=>{ x with boxes:=y }):=Gs.of Gs.fst (fun _=>rfl) (fun _ _=>rfl)
theorem Bh (a:Addr) (w:World):(Instr.fieldAt 115 (.pointer (some a)) 0).run Tryz.prog w=.ok (.pointer (some (a.add 0))) w:=by simp [Instr.fieldAt,run_underlying Tryz.underlying115,Instr.sureAddr,fieldPlace,Result.andThen]
theorem Hv:Gs (α:=Tf) 8 Tf.at_ (fun x y=>{ x with at_:=y }):=Gs.of (Gs.comp Gs.snd Gs.id_ rfl) (fun _=>rfl) (fun _ _=>rfl)
theorem Rp (a:Addr) (w:World):(Instr.fieldAt 115 (.pointer (some a)) 1).run Tryz.prog w=.ok (.pointer (some (a.add 8))) w:=by simp [Instr.fieldAt,run_underlying Tryz.underlying115,Instr.sureAddr,fieldPlace,Result.andThen]
structure Gd where
 group:Int
 done:Int
 race:Tf
 deriving DecidableEq
instance:GoT Gd:=GoT.struct Gd (β:=Int × Int × Tf) (fun x=>(x.group,x.done,x.race))
theorem Wy:Gs (α:=Gd) 0 Gd.group (fun x y=>{ x with group:=y }):=Gs.of Gs.fst (fun _=>rfl) (fun _ _=>rfl)
theorem Us (a:Addr) (w:World):(Instr.fieldAt 119 (.pointer (some a)) 0).run Tryz.prog w=.ok (.pointer (some (a.add 0))) w:=by simp [Instr.fieldAt,run_underlying Tryz.underlying119,Instr.sureAddr,fieldPlace,Result.andThen]
theorem Kp:Gs (α:=Gd) 1 Gd.done (fun x y=>{ x with done:=y }):=Gs.of (Gs.comp Gs.snd Gs.fst rfl) (fun _=>rfl) (fun _ _=>rfl)
theorem Sf (a:Addr) (w:World):(Instr.fieldAt 119 (.pointer (some a)) 1).run Tryz.prog w=.ok (.pointer (some (a.add 1))) w:=by simp [Instr.fieldAt,run_underlying Tryz.underlying119,Instr.sureAddr,fieldPlace,Result.andThen]
theorem Hh:Gs (α:=Gd) 2 Gd.race (fun x y=>{ x with race:=y }):=Gs.of (Gs.comp Gs.snd (Gs.comp Gs.snd Gs.id_ rfl) rfl) (fun _=>rfl) (fun _ _=>rfl)
theorem Co (a:Addr) (w:World):(Instr.fieldAt 119 (.pointer (some a)) 2).run Tryz.prog w=.ok (.pointer (some (a.add 2))) w:=by simp [Instr.fieldAt,run_underlying Tryz.underlying119,Instr.sureAddr,fieldPlace,Result.andThen]
structure Gi where
 LoomMill:LoomMill
 orders:List Gf
 deriving DecidableEq,Inhabited
instance:GoT Gi:=GoT.struct Gi (β:=LoomMill × (List Gf)) (fun x=>(x.LoomMill,x.orders))
theorem Jx:Gs (α:=Gi) 0 Gi.LoomMill (fun x y=>{ x with LoomMill:=y }):=Gs.of Gs.fst (fun _=>rfl) (fun _ _=>rfl)
theorem Ro (a:Addr) (w:World):(Instr.fieldAt 134 (.pointer (some a)) 0).run Tryz.prog w=.ok (.pointer (some (a.add 0))) w:=by simp [Instr.fieldAt,run_underlying Tryz.underlying134,Instr.sureAddr,fieldPlace,Result.andThen]
theorem Qs:Gs (α:=Gi) 2 Gi.orders (fun x y=>{ x with orders:=y }):=Gs.of (Gs.comp Gs.snd Gs.id_ rfl) (fun _=>rfl) (fun _ _=>rfl)
theorem Yh (a:Addr) (w:World):(Instr.fieldAt 134 (.pointer (some a)) 1).run Tryz.prog w=.ok (.pointer (some (a.add 2))) w:=by simp [Instr.fieldAt,run_underlying Tryz.underlying134,Instr.sureAddr,fieldPlace,Result.andThen]
structure Ax where
 PayList:PayList
 deriving DecidableEq,Inhabited
instance:GoT Ax:=GoT.struct Ax (β:=PayList) (fun x=>x.PayList)
structure Wi where
 thrown:List Int
 last:Tf
 moves:Int
 deriving DecidableEq
instance:GoT Wi:=GoT.struct Wi (β:=(List Int) × Tf × Int) (fun x=>(x.thrown,x.last,x.moves))
theorem Xr:Gs (α:=Wi) 0 Wi.thrown (fun x y=>{ x with thrown:=y }):=Gs.of Gs.fst (fun _=>rfl) (fun _ _=>rfl)
theorem Mc (a:Addr) (w:World):(Instr.fieldAt 168 (.pointer (some a)) 0).run Tryz.prog w=.ok (.pointer (some (a.add 0))) w:=by simp [Instr.fieldAt,run_underlying Tryz.underlying168,Instr.sureAddr,fieldPlace,Result.andThen]
theorem Rc:Gs (α:=Wi) 1 Wi.last (fun x y=>{ x with last:=y }):=Gs.of (Gs.comp Gs.snd Gs.fst rfl) (fun _=>rfl) (fun _ _=>rfl)
theorem Ek (a:Addr) (w:World):(Instr.fieldAt 168 (.pointer (some a)) 1).run Tryz.prog w=.ok (.pointer (some (a.add 1))) w:=by simp [Instr.fieldAt,run_underlying Tryz.underlying168,Instr.sureAddr,fieldPlace,Result.andThen]
theorem Mo:Gs (α:=Wi) 11 Wi.moves (fun x y=>{ x with moves:=y }):=Gs.of (Gs.comp Gs.snd (Gs.comp Gs.snd Gs.id_ rfl) rfl) (fun _=>rfl) (fun _ _=>rfl)
theorem at_168_2 (a:Addr) (w:World):(Instr.fieldAt 168 (.pointer (some a)) 2).run Tryz.prog w=.ok (.pointer (some (a.add 11))) w:=by simp [Instr.fieldAt,run_underlying Tryz.underlying168,Instr.sureAddr,fieldPlace,Result.andThen]
structure Ca where
 PayTable:PayTable
 deriving DecidableEq,Inhabited
instance:GoT Ca:=GoT.struct Ca (β:=PayTable) (fun x=>x.PayTable)
structure Ck where
 row:Int
 column:Int
 deriving DecidableEq,Inhabited
instance:GoT Ck:=GoT.struct Ck (β:=Int × Int) (fun x=>(x.row,x.column))
structure Mh where
 sheet:Ca
 places:List Ck
 amounts:List Int
 deriving DecidableEq,Inhabited
instance:GoT Mh:=GoT.struct Mh (β:=Ca × (List Ck) × (List Int)) (fun x=>(x.sheet,x.places,x.amounts))
structure Tn where
 left:Int
 right:Int
 known:Iz
 deriving DecidableEq,Inhabited
instance:GoT Tn:=GoT.struct Tn (β:=Int × Int × Iz) (fun x=>(x.left,x.right,x.known))
theorem Ps:Gs (α:=Tn) 0 Tn.left (fun x y=>{ x with left:=y }):=Gs.of Gs.fst (fun _=>rfl) (fun _ _=>rfl)
theorem at_193_0 (a:Addr) (w:World):(Instr.fieldAt 193 (.pointer (some a)) 0).run Tryz.prog w=.ok (.pointer (some (a.add 0))) w:=by simp [Instr.fieldAt,run_underlying Tryz.underlying193,Instr.sureAddr,fieldPlace,Result.andThen]
theorem Ao:Gs (α:=Tn) 1 Tn.right (fun x y=>{ x with right:=y }):=Gs.of (Gs.comp Gs.snd Gs.fst rfl) (fun _=>rfl) (fun _ _=>rfl)
theorem at_193_1 (a:Addr) (w:World):(Instr.fieldAt 193 (.pointer (some a)) 1).run Tryz.prog w=.ok (.pointer (some (a.add 1))) w:=by simp [Instr.fieldAt,run_underlying Tryz.underlying193,Instr.sureAddr,fieldPlace,Result.andThen]
theorem at_193_2 (a:Addr) (w:World):(Instr.fieldAt 193 (.pointer (some a)) 2).run Tryz.prog w=.ok (.pointer (some (a.add 2))) w:=by simp [Instr.fieldAt,run_underlying Tryz.underlying193,Instr.sureAddr,fieldPlace,Result.andThen]
structure Tg where
 next:Tf
 colour:Int
 moves:Int
 deriving DecidableEq
instance:GoT Tg:=GoT.struct Tg (β:=Tf × Int × Int) (fun x=>(x.next,x.colour,x.moves))
theorem As:Gs (α:=Tg) 0 Tg.next (fun x y=>{ x with next:=y }):=Gs.of Gs.fst (fun _=>rfl) (fun _ _=>rfl)
theorem at_198_0 (a:Addr) (w:World):(Instr.fieldAt 198 (.pointer (some a)) 0).run Tryz.prog w=.ok (.pointer (some (a.add 0))) w:=by simp [Instr.fieldAt,run_underlying Tryz.underlying198,Instr.sureAddr,fieldPlace,Result.andThen]
theorem Jl:Gs (α:=Tg) 10 Tg.colour (fun x y=>{ x with colour:=y }):=Gs.of (Gs.comp Gs.snd Gs.fst rfl) (fun _=>rfl) (fun _ _=>rfl)
theorem Da (a:Addr) (w:World):(Instr.fieldAt 198 (.pointer (some a)) 1).run Tryz.prog w=.ok (.pointer (some (a.add 10))) w:=by simp [Instr.fieldAt,run_underlying Tryz.underlying198,Instr.sureAddr,fieldPlace,Result.andThen]
theorem Yu:Gs (α:=Tg) 11 Tg.moves (fun x y=>{ x with moves:=y }):=Gs.of (Gs.comp Gs.snd (Gs.comp Gs.snd Gs.id_ rfl) rfl) (fun _=>rfl) (fun _ _=>rfl)
theorem Cf (a:Addr) (w:World):(Instr.fieldAt 198 (.pointer (some a)) 2).run Tryz.prog w=.ok (.pointer (some (a.add 11))) w:=by simp [Instr.fieldAt,run_underlying Tryz.underlying198,Instr.sureAddr,fieldPlace,Result.andThen]
structure PayEnd where
 at_:Int
 isDown:Bool
 deriving DecidableEq,Inhabited
instance:GoT PayEnd:=GoT.struct PayEnd (β:=Int × Bool) (fun x=>(x.at_,x.isDown))
structure PayStep where
 blot:Int
 less:Bool
 deriving DecidableEq,Inhabited
instance:GoT PayStep:=GoT.struct PayStep (β:=Int × Bool) (fun x=>(x.blot,x.less))
end Go.Proofs.YtlmibfohllgmeaaGreat
