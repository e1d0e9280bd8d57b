/- Steps that printed proofs take most often, as one lemma each (sq.py puts them in). No program is named here. -/
import Derived.Test.YtmebkoemfjlbcaaGreatDoorGen
import Derived.Test.YtmebkoemfjlbcaaGreatDoorCall
import Derived.Test.YtmebkoemfjlbcaaGreatDoorWb
import Derived.Sort.Grow
import Derived.Deep.Draws
namespace Go.Proofs.YtmebkoemfjlbcaaGreatDoor
open Go.RowKit
abbrev Iz (n:Int):Value:=.int .i64 n
theorem rq (x:Value):x=x:=rfl
theorem RVc {α:Type} [GoT α] {m m':Nat→Nat} {w:World} {x:α} {v:Value} (h:m'=m) (r:RV m w x v):RV m' w x v:=h ▸ r
theorem fnE {P : Program} {f : FuncId} {fn : Func} {c : Code} {args : Array Value} {g : Gh} {w : World} {R : (Nat → Nat) → World → Value → Prop} (hf : P.funcs[f]? = some fn) (hb : fn.body = some c) (hN : Nat.ble args.size fn.ntmps = true)
  (h:∀ g0,g0.m=g.m→Fr g w g0 w→E P fn.ntmps none c (atEnd P fn (Out g w R)) (envAt args) [] w):Fn P f args g w R:=fn_of_E hf hb (Nat.le_of_ble_eq_true hN) h
section
variable {P:Program} {N:Nat} {ro:Option Nat} {Q:Post} {e:Env} {ds:List Deferred} {w:World} {ops:Array Oper}
theorem EL_nt {K:Env→List Deferred→World→Prop} (h:K e ds w):EL P N ro ops [] (thn K Q) e ds w:=Zb h
theorem E_sr {id:Nat} {l:List Oper} {y:Code} (h:EL P N ro l.toArray l (thn (fun e ds w=>E P N ro y Q e ds w) Q) e ds w):E P N ro (.seq (.region id l.toArray false) y) Q e ds w:=Zf (Za h)
variable {rest:List Oper} {op:Op} {ty:TypeId} {pos:String} {af:Array Edge} {d:Option Tmp}
theorem EL_d0 (hd:(nodef op && okO N d)=true) (h:Doe P op e w fun v w'=>EL P N ro ops rest Q (updO e d v) ds w'):EL P N ro ops (⟨d,op,ty,pos,af,none⟩ :: rest) Q e ds w:=Ze .plain hd h
end
end Go.Proofs.YtmebkoemfjlbcaaGreatDoor
/- Contracts that also say that no draw is taken back; slices.SortFunc by the kit's shelf. No program is named here. -/
namespace Go.Proofs.YtmebkoemfjlbcaaGreatDoor
open Go.RowKit

/-! ### Nothing that was drawn is taken back -/
def ExtD (g:Gh) (w:World) (g':Gh) (w':World):Prop:=Ext g w g' w'∧w.drawn ≤ w'.drawn
def FrD (g0:Gh) (w0:World) (g:Gh) (w:World):Prop:=Fr g0 w0 g w∧w0.drawn ≤ w.drawn
theorem FrD.ext {g0 g g':Gh} {w0 w w':World} (h:FrD g0 w0 g w) (k:ExtD g w g' w'):FrD g0 w0 g' w':=⟨h.1.ext k.1,Nat.le_trans h.2 k.2⟩
def FnD (P:Program) (f:FuncId) (args:Array Value) (g:Gh) (w:World) (R:(Nat→Nat)→World→Value→Prop):Prop:=
 Calls P f args w fun r w'=>∃ v,r=.returned v∧∃ g',ExtD g w g' w'∧R g'.m w' v
def OutD (g:Gh) (w:World) (R:(Nat→Nat)→World→Value→Prop) (v:Value) (w':World):Prop:=∃ g',FrD g w g' w'∧R g'.m w' v
theorem fnDr_of_E {P : Program} {f : FuncId} {fn : Func} {c : Code} {args : Array Value} {g : Gh} {w : World} {R : (Nat → Nat) → World → Value → Prop} (hf : P.funcs[f]? = some fn) (hb : fn.body = some c) (hN : args.size ≤ fn.ntmps)
  (h:∀ g0,g0.m=g.m→FrD g w g0 w→E P fn.ntmps none c (atEnd P fn (OutD g w R)) (envAt args) [] w):FnD P f args g w R:=by
 refine Calls.mono (calls_of_E hf hb hN (h { m:=g.m,o:=fun _=>0 } rfl ⟨Fr.start g w,Nat.le_refl _⟩)) ?_
 rintro r w' ⟨v,rfl,g',hfr,hr⟩
 exact ⟨v,rfl,_,⟨hfr.1.fin,hfr.2⟩,hr⟩
section
variable {P:Program} {e:Env} {w:World} {g:Gh} {K:Value→World→Prop} {x:Operand}
theorem D_callD {f : FuncId} {xs : List Operand} {vs : List Value} {ats : Array TypeId} {R : (Nat → Nat) → World → Value → Prop} (hent : Enters P f) (ha : Args e xs vs) (hc : FnD P f vs.toArray g w R)
  (h:∀ g' w' v,ExtD g w g' w'→R g'.m w' v→K v w'):Doe P (.call { callee:=.value (.func f),args:=xs.toArray,argTypes:=ats }) e w K:=
 D_callC hent ha (R:=fun v w'=>∃ g',ExtD g w g' w'∧R g'.m w' v) (Calls.mono hc fun _ _ h=>h) fun v w' ⟨g',hx,hr⟩=>h g' w' v hx hr
theorem D_boxD {α:Type} [GoT α] {t:TypeId} {v:Value} {a:α} (hx:ev e x=v) (hv:RV g.m w a v) (h:∀ g' w' p,ExtD g w g' w'→PT g'.m w' a p→K p w'):Doe P (.box t x) e w K:=fun d ty pos af gd=>by
 have hrun:(execOp (ev e) ⟨d,.box t x,ty,pos,af,gd⟩).run P w=.ok (.value (.pointer (some ⟨w.heap.size,0,none⟩))) (w.alloc (.cells v.cells t)):=by
  simp [execOp,hx,Instr.box,newVar,newRow,Result.andThen]
 unfold doE; rw [hrun]; exact h _ _ _ ⟨ext_new g w _ t,Nat.le_refl _⟩ (pt_new hv.cells)
theorem D_buildSliceD {α : Type} [GoT α] (i : Nat) {t et : TypeId} {zv : Value} {n : Nat} {os : List (Nat × Operand)} {xs : List α} {vs : List Value}
  (ht:P.underlying t=some (.slice et)) (hs:∀ w,(sizeOf et).run P w=.ok (GoT.k α) w) (hz:∀ w,(zeroValue et).run P w=.ok zv w) (hzs:zv.cells.size=GoT.k α) (hk:Nat.blt 0 (GoT.k α)=true)
  (hps:Parts e os (numbered 0 vs)) (hv:RVs g.m w xs vs) (hn:n=xs.length) (hsm:Nat.ble (xs.length * GoT.k α) 16777216=true)
  (h:∀ g' w' v,ExtD g w g' w'→RV g'.m w' xs v→K v w'):Doe P (.buildSlice t n os.toArray) e w K:=fun d ty pos af gd=>by
 subst hn
 have hrun:=buildSlice_run (P:=P) ht hs hz hzs (Nat.le_of_ble_eq_true hk) hv (Nat.le_of_ble_eq_true hsm)
 have hflat:=hv.flat
 generalize hcs:(vs.map fun v=>v.cells.toList).flatten=cs at hrun hflat
 have hst:=stp_new i g w cs.toArray et (xs.length * GoT.k α)
 have hrun2:(execOp (ev e) ⟨d,.buildSlice t xs.length os.toArray,ty,pos,af,gd⟩).run P w=.ok (.value (.slice (some ⟨w.heap.size,0,none⟩) xs.length xs.length)) (w.alloc (.cells cs.toArray et)):=by
  simp only [execOp,List.map_toArray,hps.map,Sem.run_bind,hrun,Result.andThen_ok,Sem.run_pure]
 unfold doE; rw [hrun2]
 refine h _ _ _ ⟨⟨(Below.refl _ w).alloc (Nat.le_refl _) _, fun b hb => updN_ne _ _ (by omega), fun b hb => updN_ne _ _ (by omega)⟩, Nat.le_refl _⟩
  (RV_list_mk rfl (Nat.le_refl _) fun _=>⟨w.heap.size,0,rfl,by simp,by rw [Nat.zero_add]; exact Nat.le_of_eq (updN_same _ _ _).symm,(hflat.ch hst.ch).row fun j v hj=>?_⟩)
 rw [Nat.zero_add,cell_new_at,List.getElem?_toArray]; exact hj
end
abbrev extRelD:StepRel:={ rel:=ExtD }
theorem up_d {A:Fact} (h:Up extRel A):Up extRelD A:=fun g w g' w' hx=>h g w g' w' hx.1
theorem upL_d : ∀ {l : List (Nat × (Value → Fact))}, UpL extRel l → UpL extRelD l
 | [],_=>trivial
 | _ :: _,⟨h,k⟩=>⟨fun v=>up_d (h v),upL_d k⟩
theorem E_drawLD {P : Program} {N n : Nat} {ro : Option Nat} {Q' : Post} {id : Nat} {ops : List Oper} {e : Env} {ds : List Deferred} {g : Gh} {w : World} (words : List (Nat × (Value → Fact))) (ix : List Nat) (hix : ix = List.range n) (hm : P.follows .mixedOrders = true) (hok : lexOk N ops.toArray n = true) (hΦ : UpL extRel words)
  (h:Lex extRelD P ops.toArray (fun g' w'=>ExtD g w g' w') (constW words) (fun e' _ w'=>EL P N ro ops.toArray (ops.drop n) Q' e' ds w') ix (fun _ _ _=>True) e):E P N ro (.region id ops.toArray true) Q' e ds w:=
 E_drawR (SR:=extRelD) (fun g' w'=>ExtD g w g' w') (constW words) hm hok (fun _ _ _ _ hx h=>⟨h.1.trans hx.1,Nat.le_trans h.2 hx.2⟩) ⟨ext_drew g w,Nat.le_succ _⟩ (upC (upL_d hΦ)) wokC (hix ▸ h)
theorem grow_of {w w':World} (h:Below w.heap.size w w') (hd:w.drawn ≤ w'.drawn):∃ q os,w'=Sort.grow (w.drewN q) os:=by
 refine ⟨w'.drawn - w.drawn,w'.heap.extract w.heap.size w'.heap.size,?_⟩
 have hh:w'.heap=w.heap ++ w'.heap.extract w.heap.size w'.heap.size:=by
  apply Array.ext_getElem?
  intro k
  rw [Array.getElem?_append]
  split
  ·rename_i hk; exact h.block k hk
  ·rename_i hk
   rw [Array.getElem?_extract]
   have:=h.size
   split
   ·congr 1; omega
   ·rw [Array.getElem?_eq_none (by omega)]
 have h1:=h.os; have h2:=h.tape; have h3:=h.output
 cases w; cases w'
 simp only at hh h1 h2 h3 hd
 simp only [Sort.grow,World.drewN]
 subst h1; subst h2; subst h3
 congr 1
 omega
end Go.Proofs.YtmebkoemfjlbcaaGreatDoor
