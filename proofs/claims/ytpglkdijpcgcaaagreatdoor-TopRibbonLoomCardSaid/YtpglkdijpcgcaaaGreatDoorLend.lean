/- What is lent for a call; maps that are only read; cells of arrays by a number that varies; more of makeSlice. No program is named here. -/
import Derived.Test.YtpglkdijpcgcaaaGreatDoorOa
import Derived.Test.YtpglkdijpcgcaaaGreatDoorKey
namespace Go.Proofs.YtpglkdijpcgcaaaGreatDoor
open Go.RowKit

def Pk (w:World) (m:Nat→Nat):Nat→Nat:=fun b=>match w.heap[b]? with
 | some (.cells cs _ _)=>if m b<cs.size then cs.size else m b
 | _=>m b
theorem Nx (w:World) (m:Nat→Nat) (b:Nat):m b≤Pk w m b:=by
 unfold Pk
 split
 ·split<;>omega
 ·exact Nat.le_refl _
theorem Rp {w:World} {m:Nat→Nat} {b:Nat} {cs:Array Value} {t:TypeId} {fr:Nat × Nat} (h:w.heap[b]?=some (.cells cs t fr)):cs.size≤Pk w m b:=by
 unfold Pk
 rw [h]
 simp only
 split<;>omega
theorem Ln (m:Nat→Nat) (w:World):Ch m w (Pk w m) w:=⟨Nat.le_refl _,fun b _=>Nx w m b,fun _ _ _ _=>rfl⟩
def lent (g:Gh) (w:World):Gh:={m:=Pk w g.m,o:=g.o}
section
variable {α:Type} [GoT α] {i:Nat} {g g':Gh} {w w':World} {t:TypeId} {x:α} {xs:List α} {p v:Value}
theorem OB.lent (h:OB i g w t x p):PT (Pk w g.m) w x p:=by
 obtain ⟨b,cs,rfl,ho,hm,hh,hr⟩:=h
 have hl:=GoT.len hr
 refine ⟨b,0,cs.toList,rfl,Gq hh,?_,GoT.mono (Ln _ _) hr,fun j c hj=>?_⟩
 ·have:=Rp (m:=g.m) hh
  have h2:cs.size=GoT.k α:=by simpa using hl
  omega
 ·rw [Nat.zero_add];simp only [World.cell?,hh];simpa using hj
theorem OM.lent (h:OM i g w t xs v):RV (Pk w g.m) w xs v:=by
 rcases h with ⟨rfl,rfl⟩ | ⟨b,c,cs,rfl,hc,ho,hm,hh,hsz,hf⟩
 ·exact T8
 obtain ⟨fr,hh1,_⟩:=hh
 refine Wm rfl hc fun _=>⟨b,0,rfl,Gq hh1,?_,(hf.ch (Ln _ _)).row fun j v hj=>?_⟩
 ·have:=Rp (m:=g.m) hh1
  omega
 ·rw [List.getElem?_take] at hj
  split at hj
  ·rw [CF.cell ⟨fr,hh1,by assumption⟩,Nat.zero_add]
   simpa using hj
  ·cases hj
theorem RV.lent {y:α} (h:RV g.m w y v):RV (Pk w g.m) w y v:=h.ch (Ln _ _)
end
section
variable {P:Program} {e:Env} {w:World} {g:Gh} {K:Value→World→Prop} {x y z:Operand}
theorem unlend {g:Gh} {w:World} {g1:Gh} {w':World} (hx:Ext (lent g w) w g1 w'):Ext g w {m:=fun b=>if b<w.heap.size then g.m b else g1.m b,o:=g1.o} w':=
 ⟨hx.below,fun b hb=>by simp [hb],hx.o⟩
theorem D_callF {f:FuncId} {xs:List Operand} {vs:List Value} {ats:Array TypeId} {R:Value→Prop} (hent:Enters P f) (ha:Args e xs vs)
  (hc:Fn P f vs.toArray (lent g w) w (fun _ _ v=>R v)) (h:∀ g' w' v,Ext g w g' w'→R v→K v w'):Doe P (.call {callee:=.value (.func f),args:=xs.toArray,argTypes:=ats}) e w K:=
 Zp (g:=lent g w) hent ha hc fun _ _ _ hx hr=>h _ _ _ (unlend hx) hr
theorem OM.unlend {α:Type} [GoT α] (hp:U3 α) {i:Nat} {g g1:Gh} {w w':World} {t:TypeId} {xs:List α} {v:Value} (hx:Ext (Go.Proofs.YtpglkdijpcgcaaaGreatDoor.lent g w) w g1 w') (h:OM i g1 w' t xs v) :
  OM i {m:=fun b=>if b<w.heap.size then g.m b else g1.m b,o:=g1.o} w' t xs v:=by
 rcases h with h | ⟨b,c,cs,hv,hc,ho,hm,hh,hsz,hf⟩
 ·exact .inl h
 refine .inr ⟨b,c,cs,hv,hc,ho,?_,hh,hsz,hf.plain hp⟩
 simp only
 split
 ·rename_i hb
  have h1:=hx.m b hb
  have h2:=Nx w g.m b
  simp only [Go.Proofs.YtpglkdijpcgcaaaGreatDoor.lent] at h1
  omega
 ·exact hm
theorem Mf {f:FuncId} {xs:List Operand} {vs:List Value} {ats:Array TypeId} {R:Gh→World→Value→Prop} (hent:Enters P f) (ha:Args e xs vs)
  (hc:FnG P f vs.toArray (lent g w) w R) (h:∀ g1 w' v,Ext (lent g w) w g1 w'→R g1 w' v→K v w'):Doe P (.call {callee:=.value (.func f),args:=xs.toArray,argTypes:=ats}) e w K:=
 O1 (g:=lent g w) hent ha hc h
end

section
variable {κ ν:Type} [GoT ν] {enc:κ→Value}
def MR (enc:κ→Value) (g:Gh) (w:World) (m:List (κ × ν)) (v:Value):Prop:=(v=.map none∧m=[])∨∃ i,MP enc i g w m v
def MQ (enc:κ→Value) (n:Nat) (g:Gh) (w:World) (m:List (κ × ν)) (v:Value):Prop:=(v=.map none∧m=[])∨(MP enc 0 g w m v∧∀ b,v=.map (some b)→b<n)
variable {g g':Gh} {w w':World} {m:List (κ × ν)} {v:Value} {i n:Nat}
theorem MR.nil:MR enc g w ([]:List (κ × ν)) (.map none):=.inl ⟨rfl,rfl⟩
theorem MP.r (h:MP enc i g w m v):MR enc g w m v:=.inr ⟨_,h⟩
theorem MQ.r (h:MQ enc n g w m v):MR enc g w m v:=h.imp id fun h=>⟨_,h.1⟩
theorem MP.lt {b:Nat} (h:MP enc i g w m (.map (some b))):b<w.heap.size:=by
 obtain ⟨b',es,cl,hv,_,hh,_⟩:=h
 injection hv with hv;injection hv with hv;subst hv
 exact Gq hh
theorem MR.lent (h:MR enc g w m v):MR enc (Go.Proofs.YtpglkdijpcgcaaaGreatDoor.lent g w) w m v:=h.imp id fun ⟨i,b,es,cl,hv,ho,hh,h1,h2,h3⟩=>⟨i,b,es,cl,hv,ho,hh,h1,h2,h3.ch (Ln _ _)⟩
theorem MQ.enter {g0 gI:Gh} {wI:World} (h:MR enc gI wI m v) (hm:g0.m=gI.m) (hfr:Fr gI wI g0 wI):MQ enc wI.heap.size g0 wI m v:=by
 rcases h with h | ⟨i,h⟩
 ·exact .inl h
 refine .inr ⟨?_,fun b hb=>by subst hb;exact h.lt⟩
 obtain ⟨b,es,cl,hv,ho,hh,h1,h2,h3⟩:=h
 exact ⟨b,es,cl,hv,hfr.o b (Gq hh),hh,h1,h2,hm▸h3⟩
theorem MQ.ext (h:MQ enc n g w m v) (k:Ext g w g' w'):MQ enc n g' w' m v:=h.imp id fun h=>⟨h.1.ext k,h.2⟩
theorem MQ.stp {j:Nat} (h:MQ enc n g w m v) (k:Stp (j+1) g w g' w'):MQ enc n g' w' m v:=h.imp id fun h=>⟨h.1.stp k (by cases j<;>rfl),h.2⟩
theorem MQ.ist {B:Nat} (h:MQ enc n g w m v) (k:D7 B g w g' w') (hB:n≤B):MQ enc n g' w' m v:=h.imp id fun ⟨h,hn⟩=>by
 refine ⟨?_,hn⟩
 obtain ⟨b,es,cl,hv,ho,hh,h1,h2,h3⟩:=h
 have hb:=hn b hv
 exact ⟨b,es,cl,hv,(k.o b (by omega)).trans ho,(k.below.block b (by omega)).trans hh,h1,h2,h3.ch k.st.ch⟩
variable {P:Program} {e:Env} {K:Value→World→Prop} {x y z:Operand} [DecidableEq κ]
theorem Ah {t kt et:TypeId} {m:List (κ × ν)} {mv zv:Value} {k:κ} {z0:ν} (ht:P.underlying t=some (.map kt et)) (hk:Vw P kt enc) (hz:∀ w,(zeroValue et).run P w=.ok zv w) (hzr:∀ m w,RV m w z0 zv) (hx:X e x=mv) (hm:MR enc g w m mv) (hy:X e y=enc k)
  (h:∀ v,RV g.m w ((Qo m k).getD z0) v→K (.tuple #[v,.bool (Qo m k).isSome]) w):Doe P (.lookup t x y true) e w K:=by
 rcases hm with ⟨rfl,rfl⟩ | ⟨i,hm⟩
 ·intro d ty pos af gd
  have hf:=hk.2.2 k w [] [] rfl
  have hrun:(execOp (X e) ⟨d,.lookup t x y true,ty,pos,af,gd⟩).run P w=.ok (.value (.tuple #[zv,.bool false])) w:=by
   simp [execOp,hx,hy,Instr.lookup,Sem.run_bind,run_underlying ht,hk.1,hf,hz]
  unfold doE;rw [hrun]
  exact h _ (hzr _ _)
 ·exact Co ht hk hz hzr hx hm hy h
end

section
variable {β:Type} [GoT β] {n:Nat}
def Ja {β:Type} {n:Nat} (v:Vector β n) (i:Int) (y:β):Vector β n:=v.setIfInBounds i.toNat y
def vat {β:Type} {n:Nat} (i:Nat) (h:i<n) (v:Vector β n):β:=v[i]
omit [GoT β] in
theorem H6 {v:Vector β n} {i:Int} {a:β} (h:idx v.toList i=some a):∃ hi:i.toNat<n,vat i.toNat hi v=a:=let ⟨_,hi,h⟩:=Bk h;⟨hi,h⟩
theorem Gl.dyn {i:Int} (hi:i.toNat<n):Gl (α:=Vector β n) (i.toNat*GoT.k β) (vat i.toNat hi) (fun v y=>Ja v i y):=by
 have h:=Gl.vec (β:=β) hi
 refine ⟨h.1,fun m w x y cs cy hx hy=>?_⟩
 have:=h.2 m w x y cs cy hx hy
 have he:Ja x i y=x.set i.toNat y hi:=by
  unfold Ja
  apply Vector.ext
  intro j hj
  simp [Vector.getElem_setIfInBounds,Vector.getElem_set]
 show GoT.rep m w (Ja x i y) _
 rw [he];exact this
variable {P:Program} {e:Env} {w:World} {g:Gh} {K:Value→World→Prop} {a1:Operand}
theorem D_loadD {α β:Type} [GoT α] [GoT β] {i off:Nat} {f:α→β} {t t2:TypeId} {p:Value} {a:α} {b:β} (hsub:Sub off f) (he:f a=b) (ha:∀ w,(isAgg t).run P w=.ok (GoT.agg β) w) (hs:∀ w,(sizeOf t).run P w=.ok (GoT.k β) w) (hx:X e a1=S p off) (hp:OB i g w t2 a p)
  (h:∀ v,RV g.m w b v→K v w):Doe P (.load t a1) e w K:=by
 subst he;exact Qd hsub ha hs hx hp h
theorem Ap {α β:Type} [GoT α] [GoT β] {i off:Nat} {f:α→β} {P:Program} {g0:Gh} {w0:World} {t t2:TypeId} {x:Operand} {p:Value} {a:α} {b:β} {K:Prop} (hsub:Sub off f) (he:f a=b) (ha:∀ w,(isAgg t).run P w=.ok (GoT.agg β) w) (hs:∀ w,(sizeOf t).run P w=.ok (GoT.k β) w) (hp:OB i g0 w0 t2 a p)
  (k:∀ v,RV g0.m w0 b v→(∀ (e:Env) (g:Gh) (w:World),(Ch g0.m w0 g.m w∧∀ b,b<w0.heap.size→g0.o b=i→w.heap[b]?=w0.heap[b]?)→X e x=S p off→∀ d ty pos af gd,(execOp (X e) ⟨d,.load t x,ty,pos,af,gd⟩).run P w=.ok (.value v) w)→K):K:=by
 subst he;exact We hsub ha hs hp k
theorem Xt {α:Type} [GoT α] {t et:TypeId} {p:Value} {v:Vector α n} {k:IntKind} {i:Int} {a:α} {x y:Operand} {o1 off:Nat} (hoff:off=o1+i.toNat*GoT.k α) (ht:P.underlying t=some (.array n et)) (hs:∀ w,(sizeOf et).run P w=.ok (GoT.k α) w) (hx:X e x=S p o1) (hp:∃ b o,p=.pointer (some ⟨b,o,none⟩)) (hy:X e y=.int k i) (hi:idx v.toList i=some a) :
  Pur P (.indexAddr t x y) e (S p off):=by
 have h:=G9 (P:=P) (e:=e) ht hs hx (by obtain ⟨b,o,rfl⟩:=hp;exact ⟨b,o+o1,rfl⟩) hy hi
 have:S (S p o1) (i.toNat*GoT.k α)=S p off:=by
  obtain ⟨b,o,rfl⟩:=hp
  simp [S,hoff,Nat.add_assoc]
 rw [← this];exact h
end
def Dd {β:Type} {n:Nat} (v:Vector β n) (i:Int) (h:β→β):Vector β n:=if hi:i.toNat<n then v.set i.toNat (h v[i.toNat]) else v
theorem Gl.dynC {β γ:Type} [GoT β] [GoT γ] {n:Nat} {i:Int} (hi:i.toNat<n) {o off:Nat} {f:β→γ} {s:β→γ→β} (h2:Gl o f s) (ho:off=i.toNat*GoT.k β+o) :
  Gl (α:=Vector β n) off (fun v=>f (vat i.toNat hi v)) (fun v y=>Dd v i (fun b=>s b y)):=by
 have h:=Gl.comp (Gl.vec (β:=β) hi) h2 ho
 refine ⟨h.1,fun m w x y cs cy hx hy=>?_⟩
 have:=h.2 m w x y cs cy hx hy
 show GoT.rep m w (Dd x i (fun b=>s b y)) _
 unfold Dd
 rw [dif_pos hi]
 exact this

theorem Y3 {P:Program} {e:Env} {x:Operand} {a:Addr} {p:Value} (hx:X e x=p) (hp:p=.pointer (some a)):Pur P (.nilCheck x) e p:=by subst hp;exact Tu hx
def epV (v:Value) (i:Int) (k:Nat):Value:=if i<0 then .pointer none else Gy v i k
theorem Pr {α:Type} {xs:List α} {v:Value} {i:Int} {a:α} {k:Nat} (h:idx xs i=some a):epV v i k=Gy v i k:=by
 unfold epV;rw [if_neg (by have:=(Wp h).1;omega)]
theorem epV_nil {v:Value} {k:Nat}:(.pointer none:Value)=epV v (-1) k:=rfl
def Nh {α:Type} (xs:List α) (i:Int):Option Bool:=if i<0 then some false else (idx xs i).map fun _=>true
section
variable {P:Program} {e:Env} {x y:Operand}
theorem Nc {t pt:TypeId} (ht:P.underlying t=some (.pointer pt)) (d:Nat) (a:Option Addr) (w:World):(Op.equalIn (d+1) t (.pointer a) (.pointer none)).run P w=.ok a.isNone w:=by
 unfold Op.equalIn
 simp only [Sem.run_bind,run_underlying ht,Result.andThen_ok]
 cases a<;>rfl
theorem P_epne {α:Type} [GoT α] {n:Nat} {g:Gh} {w:World} {et t t2 pt:TypeId} {xs:List α} {v:Value} {i:Int} {b:Bool} {k:Nat} (ht:P.underlying t=some (.pointer pt)) (hv:OM n g w et xs v) (hx:X e x=epV v i k) (hy:X e y=.pointer none) (hb:Nh xs i=some b):Pur P (.binOp .neq t x y t2) e (.bool b):=by
 have key:∀ a:Option Addr,X e x=.pointer a→Pur P (.binOp .neq t x y t2) e (.bool (!a.isNone)):=fun a ha=>
  H3 ha hy (fun w=>by unfold eqGuard;simp) fun w=>by
   simp only [binOp,Op.equal,Op.maxDepth,Sem.run_bind,Nc ht 9999,Result.andThen,Sem.run_pure]
 unfold Nh at hb
 split at hb
 ·rename_i hi
  injection hb with hb;subst hb
  exact key none (by rw [hx];unfold epV;rw [if_pos hi])
 ·rename_i hi
  cases hid:idx xs i with
  | none=>rw [hid] at hb;cases hb
  | some a=>
   rw [hid] at hb
   simp at hb;subst hb
   obtain ⟨bl,o,hp⟩:=hv.ptrE (k:=k) hid
   exact key (some _) (by rw [hx,Pr hid,hp])
end

def M3 {α:Type} [GoT α] (i:Nat) (t2:TypeId) (a0 a1:α) (v:Value):T0:=fun g w=>OB i g w t2 a0 v∨OB i g w t2 a1 v
def Yh {α:Type} [GoT α] (i:Nat) (t2:TypeId) (a0 a1:α):Ke:={rel:=fun g w g' w'=>Stp i g w g' w'∧∀ v,(OB i g w t2 a1 v→OB i g' w' t2 a1 v)∧(M3 i t2 a0 a1 v g w→M3 i t2 a0 a1 v g' w')}
section
variable {α:Type} [GoT α] {i:Nat} {t2:TypeId} {a0 a1:α} {g g':Gh} {w w':World}
theorem Re (h:Ext g w g' w'):(Yh i t2 a0 a1).rel g w g' w':=⟨h.stp,fun _=>⟨fun k=>k.ext h,fun k=>k.imp (·.ext h) (·.ext h)⟩⟩
theorem up_var0 {v:Value}:Up (Yh i t2 a0 a1) (M3 i t2 a0 a1 v):=fun _ _ _ _ hx h=>(hx.2 v).2 h
theorem up_var1 {v:Value}:Up (Yh i t2 a0 a1) (fun g w=>OB i g w t2 a1 v):=fun _ _ _ _ hx h=>(hx.2 v).1 h
theorem upV_rv {β:Type} [GoT β] {x:β} {v:Value}:Up (Yh i t2 a0 a1) (fun g w=>RV g.m w x v):=fun _ _ _ _ hx h=>h.stp hx.1
theorem upV_om {β:Type} [GoT β] {j:Nat} {t:TypeId} {x:List β} {v:Value} (hj:Nat.beq j i=false:=by rfl):Up (Yh i t2 a0 a1) (fun g w=>OM j g w t x v):=fun _ _ _ _ hx h=>h.stp hx.1 hj
theorem upV_ob {β:Type} [GoT β] {j:Nat} {t:TypeId} {x:β} {v:Value} (hj:Nat.beq j i=false:=by rfl):Up (Yh i t2 a0 a1) (fun g w=>OB j g w t x v):=fun _ _ _ _ hx h=>h.stp hx.1 hj
variable {P:Program} {N:Nat}
def UpE (SR:Ke):List (Nat × (Env→Value→T0))→Prop
 | []=>True
 | (_,φ)::l=>(∀ e v,Up SR (φ e v))∧UpE SR l
def WokE (ops:Array Oper):List (Nat × (Env→Value→T0))→Prop
 | []=>True
 | (i,φ)::l=>(∀ oi d e v,ops[i]?=some oi→Wk ops oi d=true→φ (T7 e d v)=φ e)∧WokE ops l
theorem O8 {SR:Ke}:∀ {l:List (Nat × (Env→Value→T0))},UpE SR l→∀ i φ e v,l.lookup i=some φ→Up SR (φ e v)
 | [],_,i,φ,e,v,h=>by cases h
 | (k,ψ)::l,hu,i,φ,e,v,h=>by
  rw [List.lookup_cons] at h
  split at h
  ·injection h with h;subst h;exact hu.1 e v
  ·exact O8 hu.2 i φ e v h
theorem A7 {ops:Array Oper}:∀ {l:List (Nat × (Env→Value→T0))},WokE ops l→WOk ops (fun i=>l.lookup i)
 | [],_,i,φ,_,_,_,_,h,_,_=>by cases h
 | (k,ψ)::l,hu,i,φ,oi,d,e,v,h,ho,hc=>by
  simp only [List.lookup_cons] at h
  split at h
  ·rename_i hk
   injection h with h;subst h
   have hk:i=k:=by simpa using hk
   subst hk
   exact hu.1 oi d e v ho hc
  ·exact A7 hu.2 i φ oi d e v h ho hc
theorem I6 {ops:Array Oper} {i:Nat} {t:TypeId} {x y:Operand} {A:Value→T0} (ho:(ops[i]?).map (·.op)=some (.store t x y)):∀ oi d e v,ops[i]?=some oi→Wk ops oi d=true→(fun (_:Value)=>A (X (T7 e d v) x))=(fun _=>A (X e x)):=fun oi d e v hoi hc=>by
 rw [hoi] at ho
 have ho':oi.op=.store t x y:=Option.some.inj ho
 have:X (T7 e d v) x=X e x:=by
  cases d with
  | none=>rfl
  | some d=>
   refine A4 fun t' ht=>Uc _ _ fun h=>?_
   subst ht;subst h
   have:t'∈oi.looksAt ops:=List.mem_append_left _ (List.mem_filterMap.2 ⟨.tmp t',by rw [ho'];simp [Op.operands],rfl⟩)
   simp [Wk,this] at hc
 rw [this]
theorem E_drawV {n:Nat} {ro:Option Nat} {Q':Hz} {id:Nat} {ops:List Oper} {e:Env} {ds:List Deferred} (words:List (Nat × (Env→Value→T0))) (ix:List Nat) (hix:ix=List.range n) (hm:P.follows .mixedOrders=true) (hok:Ad N ops.toArray n=true) (hΦ:UpE (Yh i t2 a0 a1) words) (hW:WokE ops.toArray words)
  (h:Lex (Yh i t2 a0 a1) P ops.toArray (fun g' w'=>Stp i g w g' w') (fun i=>words.lookup i) (fun e' _ w'=>EL P N ro ops.toArray (ops.drop n) Q' e' ds w') ix (fun _ _ _=>True) e):E P N ro (.region id ops.toArray true) Q' e ds w:=
 Pf (SR:=Yh i t2 a0 a1) (fun g' w'=>Stp i g w g' w') (fun i=>words.lookup i) hm hok (fun _ _ _ _ hx h=>h.trans hx.1) (Uk g w).stp (O8 hΦ) (A7 hW) (hix▸h)
theorem D_storeV {i:Nat} {t2:TypeId} {a0 a1:α} {g:Gh} {w:World} {e:Env} {o1 o2:Operand} {t:TypeId} {p v:Value} (hs:∀ w,(sizeOf t).run P w=.ok (GoT.k α) w) (hx:X e o1=p) (hp:M3 i t2 a0 a1 p g w) (hy:X e o2=v) (hv:RV g.m w a1 v) :
  Doe P (.store t o1 o2) e w fun _ w'=>∃ g',(Yh i t2 a0 a1).rel g w g' w'∧OB i g' w' t2 a1 p:=fun d ty pos af gd=>by
 have key:∀ a:α,OB i g w t2 a p→doE P ⟨d,.store t o1 o2,ty,pos,af,gd⟩ e w fun _ w'=>∃ g',(Yh i t2 a0 a1).rel g w g' w'∧OB i g' w' t2 a1 p:=fun a hp=>by
  obtain ⟨b,cs,rfl,ho,hm,hh,hr⟩:=hp
  have hsz:=Tl hv
  have hl:=GoT.len hr
  have hrow:cs.toList.take 0++v.cells.toList++cs.toList.drop (0+v.cells.size)=v.cells.toList:=by
   rw [List.take_zero,List.nil_append,List.drop_of_length_le (by simp at hl;simp;omega),List.append_nil]
  have hrun:=Wr (P:=P) (t:=t) (v:=v) (b:=b) (o:=0) (by rw [hsz];exact hs) hh (by simp at hl;omega) (GoT.one hv.cells)
  rw [hrow] at hrun
  have hstp:Stp i g w g (w.setRow b v.cells.toList.toArray):=Y8 hh ho (fun j hj=>by rw [hm] at hj;omega)
  have hrun2:(execOp (X e) ⟨d,.store t o1 o2,ty,pos,af,gd⟩).run P w=.ok .skip (w.setRow b v.cells.toList.toArray):=by
   simp [execOp,hx,hy,Instr.storeAt,Instr.sureAddr,Result.andThen,hrun]
  unfold doE;rw [hrun2]
  have hb:OB i g (w.setRow b v.cells.toList.toArray) t2 a1 (.pointer (some ⟨b,0,none⟩)):=⟨b,_,rfl,ho,hm,T4 _ _ hh,by simpa using GoT.mono hstp.ch hv.cells⟩
  have oth:∀ (a:α) (u:Value),u≠.pointer (some ⟨b,0,none⟩)→OB i g w t2 a u→OB i g (w.setRow b v.cells.toList.toArray) t2 a u:=fun a u hne ⟨b2,cs2,hu,ho2,hm2,hh2,hr2⟩=>by
   have hbb:b2≠b:=fun he=>hne (by rw [hu,he])
   refine ⟨b2,cs2,hu,ho2,hm2,?_,GoT.mono hstp.ch hr2⟩
   have hset:(w.setRow b v.cells.toList.toArray).heap[b2]?=w.heap[b2]?:=Qm _ _ hbb
   rw [hset];exact hh2
  refine ⟨g,⟨hstp,fun u=>?_⟩,hb⟩
  by_cases hu:u=.pointer (some ⟨b,0,none⟩)
  ·subst hu;exact ⟨fun _=>hb,fun _=>.inr hb⟩
  ·exact ⟨oth _ _ hu,fun k=>k.imp (oth _ _ hu) (oth _ _ hu)⟩
 rcases hp with hp | hp
 ·exact key _ hp
 ·exact key _ hp
end

section
variable {α:Type} [GoT α] {i j k:Nat} {g g':Gh} {w w':World} {et bt:TypeId} {xs:List α} {p:Value}
theorem om_one {t:TypeId} {v:Value} (h:OM i g w t xs v):v.oneCell'=true:=by
 rcases h with ⟨rfl,_⟩ | ⟨b,c,cs,rfl,_⟩<;>simp [Value.oneCell']
theorem OB.ofRV {q:Fv} (h:OB i g w bt q p) (hr:RV g.m w xs q.v):OB i g w bt xs p:=by
 obtain ⟨b,cs,hp,ho,hm,hh,hq⟩:=h
 refine ⟨b,cs,hp,ho,hm,hh,?_⟩
 have hq:cs.toList=[q.v]:=hq
 rw [hq]
 obtain ⟨c2,h1,h2⟩:=hr
 have h3:=GoT.len h1
 match c2,h3 with
 | [c],_=>have h2:q.v=c:=h2;rw [h2];exact h1
variable {P:Program} {e:Env} {K:Value→World→Prop} {x y:Operand}
end
theorem N7 {m:Nat→Nat} {w:World}:RV m w (⟨.slice none 0 0,rfl⟩:Fv) (.slice none 0 0):=Yt.2 rfl
section
variable {P:Program} {e:Env} {w:World} {g:Gh} {K:Value→World→Prop} {x y z:Operand}
theorem Ll {α:Type} [GoT α] (i:Nat) {t et:TypeId} {zv:Value} {bytes:Nat} (x0:α) {n:Int} {r:List α} (hk:GoT.k α=1)
  (ht:P.underlying t=some (.slice et)) (hinfo:(P.info? et).map (fun i=>(i.zero,i.size,i.bytes))=some (some zv,1,bytes)) (hz1:zv.cells=#[zv]) (hz:∀ m w,GoT.rep m w x0 [zv])
  (hx:X e x=.int .i64 n) (hy:X e y=.int .i64 n) (hr:mks bytes x0 n=some r)
  (h:∀ g' w' v',Ext g w g' w'→OM i g' w' et r v'→K v' w'):Doe P (.makeSlice t x y) e w K:=by
 intro d ty pos af gd
 obtain ⟨ti,hi,hzz,hsz,hby⟩:=info_parts hinfo
 subst hby
 unfold mks at hr
 split at hr
 case isFalse=>cases hr
 rename_i hc
 obtain rfl:=Option.some.inj hr
 obtain ⟨h0,h1,h2⟩:=hc
 have hrun:=run_makeSlice (P:=P) w t et ti zv ht hi hzz .i64 .i64 n n h0 (Int.le_refl _) (by rw [hsz];omega) h2 (by omega)
 have hrun2:(execOp (X e) ⟨d,.makeSlice t x y,ty,pos,af,gd⟩).run P w=.ok (.value (.slice (some ⟨w.heap.size,0,none⟩) n.toNat n.toNat)) (w.alloc (.cells (madeCells zv.cells (n.toNat*ti.size)) et)):=by
  simp only [execOp,hx,hy,Sem.run_bind,hrun,Result.andThen_ok,Sem.run_pure]
 unfold doE;rw [hrun2]
 have hcs:(madeCells zv.cells (n.toNat*ti.size)).toList=List.replicate n.toNat zv:=by
  rw [hz1,hsz,Nat.mul_one]
  apply List.ext_getElem
  ·simp [madeCells]
  ·intro j h1 h2;simp [madeCells,Nat.mod_one]
 refine h {m:=W8 g.m w.heap.size 0,o:=W8 g.o w.heap.size i} _ _ ⟨(Below.refl _ w).alloc (Nat.le_refl _) _,fun b hb=>Qt _ _ (by omega),fun b hb=>Qt _ _ (by omega)⟩ (.inr ⟨w.heap.size,n.toNat,_,by simp,by simp,Tv _ _ _,Tv _ _ _,CF.of (Wf _ _),?_,?_⟩)
 ·have:=congrArg List.length hcs
  simp at this
  rw [List.length_replicate,hk,Nat.mul_one];omega
 ·rw [hcs,List.length_replicate,hk,Nat.mul_one,List.take_of_length_le (by simp)]
  exact Ro (hz _ _) _
end

theorem Yk {α:Type} [GoT α] {m:Nat→Nat} {w:World} {x:α} {cs:List Value} (h:GoT.rep m w x cs):∀ n:Nat,T1 m w (List.replicate n x) (List.replicate n cs).flatten
 | 0=>rfl
 | n+1=>⟨cs,(List.replicate n cs).flatten,rfl,h,Yk h n⟩
theorem Cz {α:Type} [GoT α] {n:Nat} {m:Nat→Nat} {w:World} {x:α} {cs:List Value} (h:GoT.rep m w x cs):GoT.rep m w (Vector.replicate n x) (List.replicate n cs).flatten:=by
 have:=K8 (n:=n) (Yk h n) (by simp)
 have he:(⟨(List.replicate n x).toArray,by simp⟩:Vector α n)=Vector.replicate n x:=by
  apply Vector.toList_inj.1;simp [Vector.toList]
 rw [he] at this;exact this

def mka {α:Type} (bytes:Nat) (x0:α) (n:Int):Option (List α):=
 if 0≤n∧n≤1000000∧(bytes:Int)*n≤281474976710656 then some (List.replicate n.toNat x0) else none
theorem Bh {γ:Type} {l:List γ} {k:Nat} (hk:l.length=k):∀ (n j:Nat),j<n*k→(List.replicate n l).flatten[j]?=l[j % k]?
 | 0,j,h=>by omega
 | n+1,j,h=>by
  rw [List.replicate_succ,List.flatten_cons,List.getElem?_append,hk]
  split
  ·rename_i hj
   rw [Nat.mod_eq_of_lt hj]
  ·rename_i hj
   have hm:j % k=(j-k) % k:=Nat.mod_eq_sub_mod (by omega)
   rw [Bh hk n (j-k) (by rw [Nat.add_mul,Nat.one_mul] at h;omega),hm]
theorem made_eq {zc:Array Value} {k n:Nat} (hk:zc.size=k):(madeCells zc (n*k)).toList=(List.replicate n zc.toList).flatten:=by
 have hl:(List.replicate n zc.toList).flatten.length=n*k:=by simp [hk]
 apply List.ext_getElem?
 intro j
 by_cases hj:j<n*k
 ·rw [Bh (by simpa using hk) n j hj]
  have hk0:0<k:=by
   rcases Nat.eq_zero_or_pos k with h0 | h0
   ·rw [h0] at hj;omega
   ·exact h0
  have hm:j % k<zc.size:=by rw [hk];exact Nat.mod_lt _ hk0
  simp only [Array.getElem?_toList]
  have hm2:j % zc.size<zc.size:=by rw [hk];rw [hk] at hm;exact hm
  have h1:(madeCells zc (n*k))[j]?=some (zc[j % zc.size]!):=by simp [madeCells,hj]
  rw [h1,getElem!_pos zc _ hm2,← hk,Array.getElem?_eq_getElem hm2]
 ·rw [List.getElem?_eq_none (by simp [madeCells];omega),List.getElem?_eq_none (by omega)]
section
variable {P:Program} {e:Env} {w:World} {g:Gh} {K:Value→World→Prop} {x y z:Operand}
theorem D0 {α:Type} [GoT α] (i:Nat) {t et:TypeId} {zv:Value} {bytes:Nat} (x0:α) {n:Int} {r:List α}
    (ht:P.underlying t=some (.slice et)) (hinfo:(P.info? et).map (fun i=>(i.zero,i.size,i.bytes))=some (some zv,GoT.k α,bytes)) (hk:Nat.ble (GoT.k α) 16=true) (hz:∀ m w,RV m w x0 zv)
    (hx:X e x=.int .i64 n) (hy:X e y=.int .i64 n) (hr:mka bytes x0 n=some r)
    (h:∀ g' w' v',Stp i g w g' w'→OA i g' w' et r v'→K v' w'):Doe P (.makeSlice t x y) e w K:=fun d ty pos af gd=>by
  obtain ⟨ti,hi,hzz,hsz,hby⟩:=info_parts hinfo
  subst hby
  unfold mka at hr
  split at hr
  case isFalse=>cases hr
  rename_i hc
  obtain rfl:=Option.some.inj hr
  obtain ⟨h0,h1,h2⟩:=hc
  have hk':GoT.k α≤16:=Nat.le_of_ble_eq_true hk
  have hsz2:n.toNat*ti.size≤16777216:=by
    rw [hsz]
    calc n.toNat * GoT.k α ≤ n.toNat * 16 := Nat.mul_le_mul_left _ hk'
      _ ≤ 16777216:=by omega
  have hrun:=run_makeSlice (P:=P) w t et ti zv ht hi hzz .i64 .i64 n n h0 (Int.le_refl _) hsz2 h2 (by omega)
  have hrun2:(execOp (X e) ⟨d,.makeSlice t x y,ty,pos,af,gd⟩).run P w=.ok (.value (.slice (some ⟨w.heap.size,0,none⟩) n.toNat n.toNat)) (w.alloc (.cells (madeCells zv.cells (n.toNat*ti.size)) et)):=by
    simp only [execOp,hx,hy,Sem.run_bind,hrun,Result.andThen_ok,Sem.run_pure]
  unfold doE;rw [hrun2]
  have hzr:=RV.cells (hz g.m w)
  have hzs:zv.cells.size=GoT.k α:=by simpa using GoT.len hzr
  have hcs:=made_eq (n:=n.toNat) hzs
  have hst:=H8 i g w (madeCells zv.cells (n.toNat*ti.size)) et 0
  refine h {m:=W8 g.m w.heap.size 0,o:=W8 g.o w.heap.size i} _ _ hst (.inr ⟨w.heap.size,n.toNat,_,by simp,Tv _ _ _,Tv _ _ _,Wf _ _,by simp,?_,?_,?_⟩)
  · simp only [maxLen];omega
  · simp [madeCells,hsz]
  · rw [hsz] at hst ⊢
    rw [hcs,List.length_replicate,List.take_of_length_le (by simp [hzs])]
    exact (Yk hzr _).ch hst.ch
end
section
variable {P:Program} {e:Env} {x y:Operand}
theorem L5 {t t2:TypeId} {m n:Int} (hx:X e x=.int .u64 m) (hy:X e y=.int .u64 n) (h:m<n):Pur P (.binOp .geq t x y t2) e (.bool false):=
 H3 hx hy (fun w=>Q7 w) fun w=>by
  have h':¬ n≤m:=by omega
  simp [binOp,Op.intCmp,h']
theorem P_u64u8 {s t:TypeId} {n:Int} (hs:P.underlying s=some (.int .u64)) (ht:P.underlying t=some (.int .u8)) (hx:X e x=.int .u64 n) (h0:0≤n) (h1:n<256):Pur P (.convert s t x) e (.int .u8 n):=fun _ _ _ _ _ _=>by
 have hw:IntKind.u8.wrap n=n:=by rw [Rf];omega
 simp [execOp,hx,convert,run_underlying hs,run_underlying ht,Conv.intToInt,hw]
end
end Go.Proofs.YtpglkdijpcgcaaaGreatDoor
