/- The types of this seat, as data: structures, how they lie in memory, their parts. Printed by gtypes.py. -/
import Derived.Test.YtplaipkjhlkjgaaFt
import Derived.Test.YtplaipkjhlkjgaaProg
namespace Go.Proofs.Ytplaipkjhlkjgaa
open Go.RowKit
theorem Gm.of {α β γ:Type} [GoT β] [GoT γ] {to:α→β} {off:Nat} {f:α→γ} {st:α→γ→α} {f':β→γ} {s':β→γ→β} (h:Gm off f' s') (h1:∀ x,f' (to x)=f x) (h2:∀ x y,to (st x y)=s' (to x) y):@Gm α γ (GoT.struct α to) _ off f st:=by
 refine ⟨⟨h.1.1,fun m w x cs hr=>?_⟩,fun m w x y cs cy hr hy=>?_⟩
 ·rw [← h1]; exact h.1.2 m w (to x) cs hr
 ·show GoT.rep m w (to (st x y)) _; rw [h2]; exact h.2 m w (to x) y cs cy hr hy
structure Jo where
 Hooks:UInt8
 Warps:List UInt8
 Rows:List UInt16
 Cards:List UInt8
 deriving DecidableEq,Inhabited
instance:GoT Jo:=GoT.struct Jo (β:=UInt8 × (List UInt8) × (List UInt16) × (List UInt8)) (fun x=>(x.Hooks,x.Warps,x.Rows,x.Cards))
theorem Pw:Gm (α:=Jo) 0 Jo.Hooks (fun x y=>{ x with Hooks:=y }):=Gm.of Gm.fst (fun _=>rfl) (fun _ _=>rfl)
theorem at_25_0 (a:Addr) (w:World):(Instr.fieldAt 25 (.pointer (some a)) 0).run Try.prog w=.ok (.pointer (some (a.add 0))) w:=by simp [Instr.fieldAt,run_underlying Try.underlying25,Instr.sureAddr,fieldPlace,Result.andThen]
theorem Bx:Gm (α:=Jo) 1 Jo.Warps (fun x y=>{ x with Warps:=y }):=Gm.of (Gm.comp Gm.snd Gm.fst rfl) (fun _=>rfl) (fun _ _=>rfl)
theorem at_25_1 (a:Addr) (w:World):(Instr.fieldAt 25 (.pointer (some a)) 1).run Try.prog w=.ok (.pointer (some (a.add 1))) w:=by simp [Instr.fieldAt,run_underlying Try.underlying25,Instr.sureAddr,fieldPlace,Result.andThen]
theorem Bp:Gm (α:=Jo) 2 Jo.Rows (fun x y=>{ x with Rows:=y }):=Gm.of (Gm.comp Gm.snd (Gm.comp Gm.snd Gm.fst rfl) rfl) (fun _=>rfl) (fun _ _=>rfl)
theorem at_25_2 (a:Addr) (w:World):(Instr.fieldAt 25 (.pointer (some a)) 2).run Try.prog w=.ok (.pointer (some (a.add 2))) w:=by simp [Instr.fieldAt,run_underlying Try.underlying25,Instr.sureAddr,fieldPlace,Result.andThen]
structure TieHarness where
 Hooks:Int
 Warps:List Int
 deriving DecidableEq,Inhabited
instance:GoT TieHarness:=GoT.struct TieHarness (β:=Int × (List Int)) (fun x=>(x.Hooks,x.Warps))
theorem Wo:Gm (α:=TieHarness) 0 TieHarness.Hooks (fun x y=>{ x with Hooks:=y }):=Gm.of Gm.fst (fun _=>rfl) (fun _ _=>rfl)
theorem Dj (a:Addr) (w:World):(Instr.fieldAt 28 (.pointer (some a)) 0).run Try.prog w=.ok (.pointer (some (a.add 0))) w:=by simp [Instr.fieldAt,run_underlying Try.underlying28,Instr.sureAddr,fieldPlace,Result.andThen]
theorem Tn:Gm (α:=TieHarness) 1 TieHarness.Warps (fun x y=>{ x with Warps:=y }):=Gm.of (Gm.comp Gm.snd Gm.id_ rfl) (fun _=>rfl) (fun _ _=>rfl)
theorem Kx (a:Addr) (w:World):(Instr.fieldAt 28 (.pointer (some a)) 1).run Try.prog w=.ok (.pointer (some (a.add 1))) w:=by simp [Instr.fieldAt,run_underlying Try.underlying28,Instr.sureAddr,fieldPlace,Result.andThen]
structure Design where
 Hooks:Int
 Rows:List Int
 deriving DecidableEq,Inhabited
instance:GoT Design:=GoT.struct Design (β:=Int × (List Int)) (fun x=>(x.Hooks,x.Rows))
theorem Ql:Gm (α:=Design) 0 Design.Hooks (fun x y=>{ x with Hooks:=y }):=Gm.of Gm.fst (fun _=>rfl) (fun _ _=>rfl)
theorem Hs (a:Addr) (w:World):(Instr.fieldAt 30 (.pointer (some a)) 0).run Try.prog w=.ok (.pointer (some (a.add 0))) w:=by simp [Instr.fieldAt,run_underlying Try.underlying30,Instr.sureAddr,fieldPlace,Result.andThen]
theorem Qg:Gm (α:=Design) 1 Design.Rows (fun x y=>{ x with Rows:=y }):=Gm.of (Gm.comp Gm.snd Gm.id_ rfl) (fun _=>rfl) (fun _ _=>rfl)
theorem Kk (a:Addr) (w:World):(Instr.fieldAt 30 (.pointer (some a)) 1).run Try.prog w=.ok (.pointer (some (a.add 1))) w:=by simp [Instr.fieldAt,run_underlying Try.underlying30,Instr.sureAddr,fieldPlace,Result.andThen]
structure FaultLoom where
 Harness:TieHarness
 Design:Design
 deriving DecidableEq,Inhabited
instance:GoT FaultLoom:=GoT.struct FaultLoom (β:=TieHarness × Design) (fun x=>(x.Harness,x.Design))
theorem Qp:Gm (α:=FaultLoom) 0 FaultLoom.Harness (fun x y=>{ x with Harness:=y }):=Gm.of Gm.fst (fun _=>rfl) (fun _ _=>rfl)
theorem Hw (a:Addr) (w:World):(Instr.fieldAt 32 (.pointer (some a)) 0).run Try.prog w=.ok (.pointer (some (a.add 0))) w:=by simp [Instr.fieldAt,run_underlying Try.underlying32,Instr.sureAddr,fieldPlace,Result.andThen]
theorem Qe:Gm (α:=FaultLoom) 2 FaultLoom.Design (fun x y=>{ x with Design:=y }):=Gm.of (Gm.comp Gm.snd Gm.id_ rfl) (fun _=>rfl) (fun _ _=>rfl)
theorem Ji (a:Addr) (w:World):(Instr.fieldAt 32 (.pointer (some a)) 1).run Try.prog w=.ok (.pointer (some (a.add 2))) w:=by simp [Instr.fieldAt,run_underlying Try.underlying32,Instr.sureAddr,fieldPlace,Result.andThen]
structure Zv where
 Kind:Int
 Pick:Int
 Hook:Int
 Warp:Int
 Up:Bool
 deriving DecidableEq,Inhabited
instance:GoT Zv:=GoT.struct Zv (β:=Int × Int × Int × Int × Bool) (fun x=>(x.Kind,x.Pick,x.Hook,x.Warp,x.Up))
theorem Kj:Gm (α:=Zv) 0 Zv.Kind (fun x y=>{ x with Kind:=y }):=Gm.of Gm.fst (fun _=>rfl) (fun _ _=>rfl)
theorem Fm (a:Addr) (w:World):(Instr.fieldAt 41 (.pointer (some a)) 0).run Try.prog w=.ok (.pointer (some (a.add 0))) w:=by simp [Instr.fieldAt,run_underlying Try.underlying41,Instr.sureAddr,fieldPlace,Result.andThen]
theorem Qf:Gm (α:=Zv) 1 Zv.Pick (fun x y=>{ x with Pick:=y }):=Gm.of (Gm.comp Gm.snd Gm.fst rfl) (fun _=>rfl) (fun _ _=>rfl)
theorem Yp (a:Addr) (w:World):(Instr.fieldAt 41 (.pointer (some a)) 1).run Try.prog w=.ok (.pointer (some (a.add 1))) w:=by simp [Instr.fieldAt,run_underlying Try.underlying41,Instr.sureAddr,fieldPlace,Result.andThen]
theorem Wa:Gm (α:=Zv) 2 Zv.Hook (fun x y=>{ x with Hook:=y }):=Gm.of (Gm.comp Gm.snd (Gm.comp Gm.snd Gm.fst rfl) rfl) (fun _=>rfl) (fun _ _=>rfl)
theorem Xe (a:Addr) (w:World):(Instr.fieldAt 41 (.pointer (some a)) 2).run Try.prog w=.ok (.pointer (some (a.add 2))) w:=by simp [Instr.fieldAt,run_underlying Try.underlying41,Instr.sureAddr,fieldPlace,Result.andThen]
theorem Hr:Gm (α:=Zv) 3 Zv.Warp (fun x y=>{ x with Warp:=y }):=Gm.of (Gm.comp Gm.snd (Gm.comp Gm.snd (Gm.comp Gm.snd Gm.fst rfl) rfl) rfl) (fun _=>rfl) (fun _ _=>rfl)
theorem Ao (a:Addr) (w:World):(Instr.fieldAt 41 (.pointer (some a)) 3).run Try.prog w=.ok (.pointer (some (a.add 3))) w:=by simp [Instr.fieldAt,run_underlying Try.underlying41,Instr.sureAddr,fieldPlace,Result.andThen]
theorem Ya:Gm (α:=Zv) 4 Zv.Up (fun x y=>{ x with Up:=y }):=Gm.of (Gm.comp Gm.snd (Gm.comp Gm.snd (Gm.comp Gm.snd (Gm.comp Gm.snd Gm.id_ rfl) rfl) rfl) rfl) (fun _=>rfl) (fun _ _=>rfl)
theorem at_41_4 (a:Addr) (w:World):(Instr.fieldAt 41 (.pointer (some a)) 4).run Try.prog w=.ok (.pointer (some (a.add 4))) w:=by simp [Instr.fieldAt,run_underlying Try.underlying41,Instr.sureAddr,fieldPlace,Result.andThen]
structure Gn where
 WeftFace:Int
 WeftBack:Int
 WarpFace:Int
 WarpBack:Int
 deriving DecidableEq,Inhabited
instance:GoT Gn:=GoT.struct Gn (β:=Int × Int × Int × Int) (fun x=>(x.WeftFace,x.WeftBack,x.WarpFace,x.WarpBack))
theorem Rk:Gm (α:=Gn) 0 Gn.WeftFace (fun x y=>{ x with WeftFace:=y }):=Gm.of Gm.fst (fun _=>rfl) (fun _ _=>rfl)
theorem at_50_0 (a:Addr) (w:World):(Instr.fieldAt 50 (.pointer (some a)) 0).run Try.prog w=.ok (.pointer (some (a.add 0))) w:=by simp [Instr.fieldAt,run_underlying Try.underlying50,Instr.sureAddr,fieldPlace,Result.andThen]
theorem Rj:Gm (α:=Gn) 1 Gn.WeftBack (fun x y=>{ x with WeftBack:=y }):=Gm.of (Gm.comp Gm.snd Gm.fst rfl) (fun _=>rfl) (fun _ _=>rfl)
theorem at_50_1 (a:Addr) (w:World):(Instr.fieldAt 50 (.pointer (some a)) 1).run Try.prog w=.ok (.pointer (some (a.add 1))) w:=by simp [Instr.fieldAt,run_underlying Try.underlying50,Instr.sureAddr,fieldPlace,Result.andThen]
theorem Va:Gm (α:=Gn) 2 Gn.WarpFace (fun x y=>{ x with WarpFace:=y }):=Gm.of (Gm.comp Gm.snd (Gm.comp Gm.snd Gm.fst rfl) rfl) (fun _=>rfl) (fun _ _=>rfl)
theorem at_50_2 (a:Addr) (w:World):(Instr.fieldAt 50 (.pointer (some a)) 2).run Try.prog w=.ok (.pointer (some (a.add 2))) w:=by simp [Instr.fieldAt,run_underlying Try.underlying50,Instr.sureAddr,fieldPlace,Result.andThen]
theorem Jq:Gm (α:=Gn) 3 Gn.WarpBack (fun x y=>{ x with WarpBack:=y }):=Gm.of (Gm.comp Gm.snd (Gm.comp Gm.snd (Gm.comp Gm.snd Gm.id_ rfl) rfl) rfl) (fun _=>rfl) (fun _ _=>rfl)
theorem at_50_3 (a:Addr) (w:World):(Instr.fieldAt 50 (.pointer (some a)) 3).run Try.prog w=.ok (.pointer (some (a.add 3))) w:=by simp [Instr.fieldAt,run_underlying Try.underlying50,Instr.sureAddr,fieldPlace,Result.andThen]
structure Gf where
 Pick:Int
 Hook:Int
 Length:Int
 Lifted:Bool
 deriving DecidableEq,Inhabited
instance:GoT Gf:=GoT.struct Gf (β:=Int × Int × Int × Bool) (fun x=>(x.Pick,x.Hook,x.Length,x.Lifted))
theorem Fa:Gm (α:=Gf) 0 Gf.Pick (fun x y=>{ x with Pick:=y }):=Gm.of Gm.fst (fun _=>rfl) (fun _ _=>rfl)
theorem at_57_0 (a:Addr) (w:World):(Instr.fieldAt 57 (.pointer (some a)) 0).run Try.prog w=.ok (.pointer (some (a.add 0))) w:=by simp [Instr.fieldAt,run_underlying Try.underlying57,Instr.sureAddr,fieldPlace,Result.andThen]
theorem Ln:Gm (α:=Gf) 1 Gf.Hook (fun x y=>{ x with Hook:=y }):=Gm.of (Gm.comp Gm.snd Gm.fst rfl) (fun _=>rfl) (fun _ _=>rfl)
theorem at_57_1 (a:Addr) (w:World):(Instr.fieldAt 57 (.pointer (some a)) 1).run Try.prog w=.ok (.pointer (some (a.add 1))) w:=by simp [Instr.fieldAt,run_underlying Try.underlying57,Instr.sureAddr,fieldPlace,Result.andThen]
theorem Xf:Gm (α:=Gf) 2 Gf.Length (fun x y=>{ x with Length:=y }):=Gm.of (Gm.comp Gm.snd (Gm.comp Gm.snd Gm.fst rfl) rfl) (fun _=>rfl) (fun _ _=>rfl)
theorem at_57_2 (a:Addr) (w:World):(Instr.fieldAt 57 (.pointer (some a)) 2).run Try.prog w=.ok (.pointer (some (a.add 2))) w:=by simp [Instr.fieldAt,run_underlying Try.underlying57,Instr.sureAddr,fieldPlace,Result.andThen]
theorem Ct:Gm (α:=Gf) 3 Gf.Lifted (fun x y=>{ x with Lifted:=y }):=Gm.of (Gm.comp Gm.snd (Gm.comp Gm.snd (Gm.comp Gm.snd Gm.id_ rfl) rfl) rfl) (fun _=>rfl) (fun _ _=>rfl)
theorem at_57_3 (a:Addr) (w:World):(Instr.fieldAt 57 (.pointer (some a)) 3).run Try.prog w=.ok (.pointer (some (a.add 3))) w:=by simp [Instr.fieldAt,run_underlying Try.underlying57,Instr.sureAddr,fieldPlace,Result.andThen]
structure Gi where
 FaultLoom:FaultLoom
 deriving DecidableEq,Inhabited
instance:GoT Gi:=GoT.struct Gi (β:=FaultLoom) (fun x=>x.FaultLoom)
theorem Ts:Gm (α:=Gi) 0 Gi.FaultLoom (fun x y=>{ x with FaultLoom:=y }):=Gm.of Gm.id_ (fun _=>rfl) (fun _ _=>rfl)
theorem Uf (a:Addr) (w:World):(Instr.fieldAt 64 (.pointer (some a)) 0).run Try.prog w=.ok (.pointer (some (a.add 0))) w:=by simp [Instr.fieldAt,run_underlying Try.underlying64,Instr.sureAddr,fieldPlace,Result.andThen]
structure Wi where
 Design:Design
 deriving DecidableEq,Inhabited
instance:GoT Wi:=GoT.struct Wi (β:=Design) (fun x=>x.Design)
theorem Kv:Gm (α:=Wi) 0 Wi.Design (fun x y=>{ x with Design:=y }):=Gm.of Gm.id_ (fun _=>rfl) (fun _ _=>rfl)
theorem Lb (a:Addr) (w:World):(Instr.fieldAt 72 (.pointer (some a)) 0).run Try.prog w=.ok (.pointer (some (a.add 0))) w:=by simp [Instr.fieldAt,run_underlying Try.underlying72,Instr.sureAddr,fieldPlace,Result.andThen]
structure Qx where
 TieHarness:TieHarness
 deriving DecidableEq,Inhabited
instance:GoT Qx:=GoT.struct Qx (β:=TieHarness) (fun x=>x.TieHarness)
theorem Uk:Gm (α:=Qx) 0 Qx.TieHarness (fun x y=>{ x with TieHarness:=y }):=Gm.of Gm.id_ (fun _=>rfl) (fun _ _=>rfl)
theorem at_79_0 (a:Addr) (w:World):(Instr.fieldAt 79 (.pointer (some a)) 0).run Try.prog w=.ok (.pointer (some (a.add 0))) w:=by simp [Instr.fieldAt,run_underlying Try.underlying79,Instr.sureAddr,fieldPlace,Result.andThen]
structure TieGroup where
 First:Int
 Last:Int
 Way:Int
 Times:Int
 deriving DecidableEq,Inhabited
instance:GoT TieGroup:=GoT.struct TieGroup (β:=Int × Int × Int × Int) (fun x=>(x.First,x.Last,x.Way,x.Times))
theorem Dx:Gm (α:=TieGroup) 0 TieGroup.First (fun x y=>{ x with First:=y }):=Gm.of Gm.fst (fun _=>rfl) (fun _ _=>rfl)
theorem at_88_0 (a:Addr) (w:World):(Instr.fieldAt 88 (.pointer (some a)) 0).run Try.prog w=.ok (.pointer (some (a.add 0))) w:=by simp [Instr.fieldAt,run_underlying Try.underlying88,Instr.sureAddr,fieldPlace,Result.andThen]
theorem Bc:Gm (α:=TieGroup) 1 TieGroup.Last (fun x y=>{ x with Last:=y }):=Gm.of (Gm.comp Gm.snd Gm.fst rfl) (fun _=>rfl) (fun _ _=>rfl)
theorem at_88_1 (a:Addr) (w:World):(Instr.fieldAt 88 (.pointer (some a)) 1).run Try.prog w=.ok (.pointer (some (a.add 1))) w:=by simp [Instr.fieldAt,run_underlying Try.underlying88,Instr.sureAddr,fieldPlace,Result.andThen]
theorem Uu:Gm (α:=TieGroup) 2 TieGroup.Way (fun x y=>{ x with Way:=y }):=Gm.of (Gm.comp Gm.snd (Gm.comp Gm.snd Gm.fst rfl) rfl) (fun _=>rfl) (fun _ _=>rfl)
theorem at_88_2 (a:Addr) (w:World):(Instr.fieldAt 88 (.pointer (some a)) 2).run Try.prog w=.ok (.pointer (some (a.add 2))) w:=by simp [Instr.fieldAt,run_underlying Try.underlying88,Instr.sureAddr,fieldPlace,Result.andThen]
theorem Us:Gm (α:=TieGroup) 3 TieGroup.Times (fun x y=>{ x with Times:=y }):=Gm.of (Gm.comp Gm.snd (Gm.comp Gm.snd (Gm.comp Gm.snd Gm.id_ rfl) rfl) rfl) (fun _=>rfl) (fun _ _=>rfl)
theorem at_88_3 (a:Addr) (w:World):(Instr.fieldAt 88 (.pointer (some a)) 3).run Try.prog w=.ok (.pointer (some (a.add 3))) w:=by simp [Instr.fieldAt,run_underlying Try.underlying88,Instr.sureAddr,fieldPlace,Result.andThen]
structure Zy where
 Pick:Int
 Warp:Int
 Lifted:Bool
 deriving DecidableEq,Inhabited
instance:GoT Zy:=GoT.struct Zy (β:=Int × Int × Bool) (fun x=>(x.Pick,x.Warp,x.Lifted))
theorem Xi:Gm (α:=Zy) 0 Zy.Pick (fun x y=>{ x with Pick:=y }):=Gm.of Gm.fst (fun _=>rfl) (fun _ _=>rfl)
theorem at_93_0 (a:Addr) (w:World):(Instr.fieldAt 93 (.pointer (some a)) 0).run Try.prog w=.ok (.pointer (some (a.add 0))) w:=by simp [Instr.fieldAt,run_underlying Try.underlying93,Instr.sureAddr,fieldPlace,Result.andThen]
theorem Xo:Gm (α:=Zy) 1 Zy.Warp (fun x y=>{ x with Warp:=y }):=Gm.of (Gm.comp Gm.snd Gm.fst rfl) (fun _=>rfl) (fun _ _=>rfl)
theorem at_93_1 (a:Addr) (w:World):(Instr.fieldAt 93 (.pointer (some a)) 1).run Try.prog w=.ok (.pointer (some (a.add 1))) w:=by simp [Instr.fieldAt,run_underlying Try.underlying93,Instr.sureAddr,fieldPlace,Result.andThen]
theorem Fj:Gm (α:=Zy) 2 Zy.Lifted (fun x y=>{ x with Lifted:=y }):=Gm.of (Gm.comp Gm.snd (Gm.comp Gm.snd Gm.id_ rfl) rfl) (fun _=>rfl) (fun _ _=>rfl)
theorem at_93_2 (a:Addr) (w:World):(Instr.fieldAt 93 (.pointer (some a)) 2).run Try.prog w=.ok (.pointer (some (a.add 2))) w:=by simp [Instr.fieldAt,run_underlying Try.underlying93,Instr.sureAddr,fieldPlace,Result.andThen]
structure Qc where
 first:Int
 length:Int
 lifted:Bool
 deriving DecidableEq,Inhabited
instance:GoT Qc:=GoT.struct Qc (β:=Int × Int × Bool) (fun x=>(x.first,x.length,x.lifted))
theorem Dw:Gm (α:=Qc) 0 Qc.first (fun x y=>{ x with first:=y }):=Gm.of Gm.fst (fun _=>rfl) (fun _ _=>rfl)
theorem at_116_0 (a:Addr) (w:World):(Instr.fieldAt 116 (.pointer (some a)) 0).run Try.prog w=.ok (.pointer (some (a.add 0))) w:=by simp [Instr.fieldAt,run_underlying Try.underlying116,Instr.sureAddr,fieldPlace,Result.andThen]
theorem Jx:Gm (α:=Qc) 1 Qc.length (fun x y=>{ x with length:=y }):=Gm.of (Gm.comp Gm.snd Gm.fst rfl) (fun _=>rfl) (fun _ _=>rfl)
theorem Cz (a:Addr) (w:World):(Instr.fieldAt 116 (.pointer (some a)) 1).run Try.prog w=.ok (.pointer (some (a.add 1))) w:=by simp [Instr.fieldAt,run_underlying Try.underlying116,Instr.sureAddr,fieldPlace,Result.andThen]
theorem Aj:Gm (α:=Qc) 2 Qc.lifted (fun x y=>{ x with lifted:=y }):=Gm.of (Gm.comp Gm.snd (Gm.comp Gm.snd Gm.id_ rfl) rfl) (fun _=>rfl) (fun _ _=>rfl)
theorem at_116_2 (a:Addr) (w:World):(Instr.fieldAt 116 (.pointer (some a)) 2).run Try.prog w=.ok (.pointer (some (a.add 2))) w:=by simp [Instr.fieldAt,run_underlying Try.underlying116,Instr.sureAddr,fieldPlace,Result.andThen]
structure Ae where
 row:Int
 fixed:Int
 hooks:Int
 bound:Int
 top:Bool
 known:MapRef
 deriving DecidableEq,Inhabited
instance:GoT Ae:=GoT.struct Ae (β:=Int × Int × Int × Int × Bool × MapRef) (fun x=>(x.row,x.fixed,x.hooks,x.bound,x.top,x.known))
structure Hm where
 TieGroup:TieGroup
 deriving DecidableEq,Inhabited
instance:GoT Hm:=GoT.struct Hm (β:=TieGroup) (fun x=>x.TieGroup)
theorem Ye:Gm (α:=Hm) 0 Hm.TieGroup (fun x y=>{ x with TieGroup:=y }):=Gm.of Gm.id_ (fun _=>rfl) (fun _ _=>rfl)
theorem Mx (a:Addr) (w:World):(Instr.fieldAt 134 (.pointer (some a)) 0).run Try.prog w=.ok (.pointer (some (a.add 0))) w:=by simp [Instr.fieldAt,run_underlying Try.underlying134,Instr.sureAddr,fieldPlace,Result.andThen]
structure Mm where
 left:Int
 length:Int
 first:Int
 lifted:Bool
 deriving DecidableEq,Inhabited
instance:GoT Mm:=GoT.struct Mm (β:=Int × Int × Int × Bool) (fun x=>(x.left,x.length,x.first,x.lifted))
end Go.Proofs.Ytplaipkjhlkjgaa
