/- What is lent for a call; maps that are only read; cells of arrays by a number that varies; more of makeSlice. No program is named here. -/
import Derived.Test.YtlmibfohllgmeaaGreatOa
import Derived.Test.YtlmibfohllgmeaaGreatKey
namespace Go.Proofs.YtlmibfohllgmeaaGreat
open Go.RowKit

/-! ### Lending: all that there is may be read for the time of a call -/
def Ij (w : World) (m : Nat → Nat) : Nat → Nat := fun b => match w.heap[b]? with
 | some (.cells cs _ _)=>if m b < cs.size then cs.size else m b
 | _=>m b
theorem allM_le (w:World) (m:Nat→Nat) (b:Nat):m b ≤ Ij w m b:=by
 unfold Ij
 split
 ·split <;> omega
 ·exact Nat.le_refl _
theorem Ak {w:World} {m:Nat→Nat} {b:Nat} {cs:Array Value} {t:TypeId} {fr:Nat × Nat} (h:w.heap[b]?=some (.cells cs t fr)):cs.size ≤ Ij w m b:=by
 unfold Ij
 rw [h]
 simp only
 split <;> omega
theorem Ea (m:Nat→Nat) (w:World):Ch m w (Ij w m) w:=⟨Nat.le_refl _,fun b _=>allM_le w m b,fun _ _ _ _=>rfl⟩
def lent (g:Gh) (w:World):Gh:={ m:=Ij w g.m,o:=g.o }
section
variable {α:Type} [GoT α] {i:Nat} {g g':Gh} {w w':World} {t:TypeId} {x:α} {xs:List α} {p v:Value}
theorem OB.lent (h:OB i g w t x p):PT (Ij w g.m) w x p:=by
 obtain ⟨b,cs,rfl,ho,hm,hh,hr⟩:=h
 have hl:=GoT.len hr
 refine ⟨b,0,cs.toList,rfl,Gq hh,?_,GoT.mono (Ea _ _) hr,fun j c hj=>?_⟩
 ·have := Ak (m := g.m) hh
  have h2:cs.size=GoT.k α:=by simpa using hl
  omega
 ·rw [Nat.zero_add]; simp only [World.cell?,hh]; simpa using hj
theorem OM.lent (h:OM i g w t xs v):RV (Ij w g.m) w xs v:=by
 rcases h with ⟨rfl,rfl⟩ | ⟨b,c,cs,rfl,hc,ho,hm,hh,hsz,hf⟩
 ·exact Kh
 obtain ⟨fr,hh1,_⟩:=hh
 refine Ko rfl hc fun _=>⟨b,0,rfl,Gq hh1,?_,(hf.ch (Ea _ _)).row fun j v hj=>?_⟩
 ·have := Ak (m := g.m) hh1
  omega
 ·rw [List.getElem?_take] at hj
  split at hj
  ·rw [CF.cell ⟨fr, hh1, by assumption⟩, Nat.zero_add]
   simpa using hj
  ·cases hj
theorem RV.lent {y:α} (h:RV g.m w y v):RV (Ij w g.m) w y v:=h.ch (Ea _ _)
end
section
variable {P:Program} {e:Env} {w:World} {g:Gh} {K:Value→World→Prop} {x y z:Operand}
theorem unlend {g:Gh} {w:World} {g1:Gh} {w':World} (hx:Ext (lent g w) w g1 w'):Ext g w { m:=fun b=>if b < w.heap.size then g.m b else g1.m b,o:=g1.o } w':=
 ⟨hx.below,fun b hb=>by simp [hb],hx.o⟩
theorem D_callF {f : FuncId} {xs : List Operand} {vs : List Value} {ats : Array TypeId} {R : Value → Prop} (hent : Enters P f) (ha : Args e xs vs)
  (hc:Fn P f vs.toArray (lent g w) w (fun _ _ v=>R v)) (h:∀ g' w' v,Ext g w g' w'→R v→K v w'):Doe P (.call { callee:=.value (.func f),args:=xs.toArray,argTypes:=ats }) e w K:=
 Zp (g:=lent g w) hent ha hc fun _ _ _ hx hr=>h _ _ _ (unlend hx) hr
theorem OM.unlend {α : Type} [GoT α] (hp : Plain α) {i : Nat} {g g1 : Gh} {w w' : World} {t : TypeId} {xs : List α} {v : Value} (hx : Ext (Go.Proofs.YtlmibfohllgmeaaGreat.lent g w) w g1 w') (h : OM i g1 w' t xs v) :
  OM i { m:=fun b=>if b < w.heap.size then g.m b else g1.m b,o:=g1.o } w' t xs v:=by
 rcases h with h | ⟨b,c,cs,hv,hc,ho,hm,hh,hsz,hf⟩
 ·exact .inl h
 refine .inr ⟨b,c,cs,hv,hc,ho,?_,hh,hsz,hf.plain hp⟩
 simp only
 split
 ·rename_i hb
  have h1:=hx.m b hb
  have h2:=allM_le w g.m b
  simp only [Go.Proofs.YtlmibfohllgmeaaGreat.lent] at h1
  omega
 ·exact hm
theorem D_callGF {f : FuncId} {xs : List Operand} {vs : List Value} {ats : Array TypeId} {R : Gh → World → Value → Prop} (hent : Enters P f) (ha : Args e xs vs)
  (hc:FnG P f vs.toArray (lent g w) w R) (h:∀ g1 w' v,Ext (lent g w) w g1 w'→R g1 w' v→K v w'):Doe P (.call { callee:=.value (.func f),args:=xs.toArray,argTypes:=ats }) e w K:=
 Vi (g:=lent g w) hent ha hc h
end

/-! ### Maps that are only read -/
section
variable {κ ν:Type} [GoT ν] {enc:κ→Value}
def MR (enc:κ→Value) (g:Gh) (w:World) (m:List (κ × ν)) (v:Value):Prop:=(v=.map none∧m=[]) ∨ ∃ i,MP enc i g w m v
def MQ (enc:κ→Value) (n:Nat) (g:Gh) (w:World) (m:List (κ × ν)) (v:Value):Prop:=(v=.map none∧m=[]) ∨ (MP enc 0 g w m v∧∀ b,v=.map (some b)→b < n)
variable {g g':Gh} {w w':World} {m:List (κ × ν)} {v:Value} {i n:Nat}
theorem MR.nil:MR enc g w ([]:List (κ × ν)) (.map none):=.inl ⟨rfl,rfl⟩
theorem MP.r (h:MP enc i g w m v):MR enc g w m v:=.inr ⟨_,h⟩
theorem MQ.r (h:MQ enc n g w m v):MR enc g w m v:=h.imp id fun h=>⟨_,h.1⟩
theorem MP.lt {b:Nat} (h:MP enc i g w m (.map (some b))):b < w.heap.size:=by
 obtain ⟨b',es,cl,hv,_,hh,_⟩:=h
 injection hv with hv; injection hv with hv; subst hv
 exact Gq hh
theorem MR.lent (h:MR enc g w m v):MR enc (Go.Proofs.YtlmibfohllgmeaaGreat.lent g w) w m v:=h.imp id fun ⟨i,b,es,cl,hv,ho,hh,h1,h2,h3⟩=>⟨i,b,es,cl,hv,ho,hh,h1,h2,h3.ch (Ea _ _)⟩
theorem MQ.enter {g0 gI:Gh} {wI:World} (h:MR enc gI wI m v) (hm:g0.m=gI.m) (hfr:Fr gI wI g0 wI):MQ enc wI.heap.size g0 wI m v:=by
 rcases h with h | ⟨i,h⟩
 ·exact .inl h
 refine .inr ⟨?_,fun b hb=>by subst hb; exact h.lt⟩
 obtain ⟨b,es,cl,hv,ho,hh,h1,h2,h3⟩:=h
 exact ⟨b,es,cl,hv,hfr.o b (Gq hh),hh,h1,h2,hm ▸ h3⟩
theorem MQ.ext (h:MQ enc n g w m v) (k:Ext g w g' w'):MQ enc n g' w' m v:=h.imp id fun h=>⟨h.1.ext k,h.2⟩
theorem MQ.stp {j:Nat} (h:MQ enc n g w m v) (k:Stp (j + 1) g w g' w'):MQ enc n g' w' m v:=h.imp id fun h=>⟨h.1.stp k (by cases j <;> rfl),h.2⟩
theorem MQ.ist {B:Nat} (h:MQ enc n g w m v) (k:Ds B g w g' w') (hB:n ≤ B):MQ enc n g' w' m v:=h.imp id fun ⟨h,hn⟩=>by
 refine ⟨?_,hn⟩
 obtain ⟨b,es,cl,hv,ho,hh,h1,h2,h3⟩:=h
 have hb:=hn b hv
 exact ⟨b,es,cl,hv,(k.o b (by omega)).trans ho,(k.below.block b (by omega)).trans hh,h1,h2,h3.ch k.st.ch⟩
variable {P:Program} {e:Env} {K:Value→World→Prop} {x y z:Operand} [DecidableEq κ]
theorem D_lookupOkR {t kt et : TypeId} {m : List (κ × ν)} {mv zv : Value} {k : κ} {z0 : ν} (ht : P.underlying t = some (.map kt et)) (hk : Xq P kt enc) (hz : ∀ w, (zeroValue et).run P w = .ok zv w) (hzr : ∀ m w, RV m w z0 zv) (hx : ev e x = mv) (hm : MR enc g w m mv) (hy : ev e y = enc k)
  (h:∀ v,RV g.m w ((Wz m k).getD z0) v→K (.tuple #[v,.bool (Wz m k).isSome]) w):Doe P (.lookup t x y true) e w K:=by
 rcases hm with ⟨rfl,rfl⟩ | ⟨i,hm⟩
 ·intro d ty pos af gd
  have hf:=hk.2.2 k w [] [] rfl
  have hrun:(execOp (ev e) ⟨d,.lookup t x y true,ty,pos,af,gd⟩).run P w=.ok (.value (.tuple #[zv,.bool false])) w:=by
   simp [execOp,hx,hy,Instr.lookup,Sem.run_bind,run_underlying ht,hk.1,hf,hz]
  unfold doE; rw [hrun]
  exact h _ (hzr _ _)
 ·exact Mb ht hk hz hzr hx hm hy h
end

/-! ### Cells of an array, by a number that varies -/
section
variable {β:Type} [GoT β] {n:Nat}
def Hp {β:Type} {n:Nat} (v:Vector β n) (i:Int) (y:β):Vector β n:=v.setIfInBounds i.toNat y
def vat {β:Type} {n:Nat} (i:Nat) (h:i < n) (v:Vector β n):β:=v[i]
omit [GoT β] in
theorem Hq {v:Vector β n} {i:Int} {a:β} (h:idx v.toList i=some a):∃ hi:i.toNat < n,vat i.toNat hi v=a:=let ⟨_,hi,h⟩:=Ip h; ⟨hi,h⟩
theorem Gs.dyn {i:Int} (hi:i.toNat < n):Gs (α:=Vector β n) (i.toNat * GoT.k β) (vat i.toNat hi) (fun v y=>Hp v i y):=by
 have h:=Gs.vec (β:=β) hi
 refine ⟨h.1,fun m w x y cs cy hx hy=>?_⟩
 have:=h.2 m w x y cs cy hx hy
 have he:Hp x i y=x.set i.toNat y hi:=by
  unfold Hp
  apply Vector.ext
  intro j hj
  simp [Vector.getElem_setIfInBounds,Vector.getElem_set]
 show GoT.rep m w (Hp x i y) _
 rw [he]; exact this
variable {P:Program} {e:Env} {w:World} {g:Gh} {K:Value→World→Prop} {a1:Operand}
theorem D_loadD {α β : Type} [GoT α] [GoT β] {i off : Nat} {f : α → β} {t t2 : TypeId} {p : Value} {a : α} {b : β} (hsub : Sub off f) (he : f a = b) (ha : ∀ w, (isAgg t).run P w = .ok (GoT.agg β) w) (hs : ∀ w, (sizeOf t).run P w = .ok (GoT.k β) w) (hx : ev e a1 = Gm p off) (hp : OB i g w t2 a p)
  (h:∀ v,RV g.m w b v→K v w):Doe P (.load t a1) e w K:=by
 subst he; exact Kf hsub ha hs hx hp h
theorem Eu {α β : Type} [GoT α] [GoT β] {i off : Nat} {f : α → β} {P : Program} {g0 : Gh} {w0 : World} {t t2 : TypeId} {x : Operand} {p : Value} {a : α} {b : β} {K : Prop} (hsub : Sub off f) (he : f a = b) (ha : ∀ w, (isAgg t).run P w = .ok (GoT.agg β) w) (hs : ∀ w, (sizeOf t).run P w = .ok (GoT.k β) w) (hp : OB i g0 w0 t2 a p)
  (k:∀ v,RV g0.m w0 b v→(∀ (e:Env) (g:Gh) (w:World),(Ch g0.m w0 g.m w∧∀ b,b < w0.heap.size→g0.o b=i→w.heap[b]?=w0.heap[b]?)→ev e x=Gm p off→∀ d ty pos af gd,(execOp (ev e) ⟨d,.load t x,ty,pos,af,gd⟩).run P w=.ok (.value v) w)→K):K:=by
 subst he; exact Kk hsub ha hs hp k
theorem Wp {α : Type} [GoT α] {t et : TypeId} {p : Value} {v : Vector α n} {k : IntKind} {i : Int} {a : α} {x y : Operand} {o1 off : Nat} (hoff : off = o1 + i.toNat * GoT.k α) (ht : P.underlying t = some (.array n et)) (hs : ∀ w, (sizeOf et).run P w = .ok (GoT.k α) w) (hx : ev e x = Gm p o1) (hp : ∃ b o, p = .pointer (some ⟨b, o, none⟩)) (hy : ev e y = .int k i) (hi : idx v.toList i = some a) :
  Pur P (.indexAddr t x y) e (Gm p off):=by
 have h:=Ts (P:=P) (e:=e) ht hs hx (by obtain ⟨b,o,rfl⟩:=hp; exact ⟨b,o + o1,rfl⟩) hy hi
 have:Gm (Gm p o1) (i.toNat * GoT.k α)=Gm p off:=by
  obtain ⟨b,o,rfl⟩:=hp
  simp [Gm,hoff,Nat.add_assoc]
 rw [← this]; exact h
end
def Jj {β:Type} {n:Nat} (v:Vector β n) (i:Int) (h:β→β):Vector β n:=if hi:i.toNat < n then v.set i.toNat (h v[i.toNat]) else v
theorem Gs.dynC {β γ : Type} [GoT β] [GoT γ] {n : Nat} {i : Int} (hi : i.toNat < n) {o off : Nat} {f : β → γ} {s : β → γ → β} (h2 : Gs o f s) (ho : off = i.toNat * GoT.k β + o) :
  Gs (α:=Vector β n) off (fun v=>f (vat i.toNat hi v)) (fun v y=>Jj v i (fun b=>s b y)):=by
 have h:=Gs.comp (Gs.vec (β:=β) hi) h2 ho
 refine ⟨h.1,fun m w x y cs cy hx hy=>?_⟩
 have:=h.2 m w x y cs cy hx hy
 show GoT.rep m w (Jj x i (fun b=>s b y)) _
 unfold Jj
 rw [dif_pos hi]
 exact this

theorem Sq {P:Program} {e:Env} {x:Operand} {a:Addr} {p:Value} (hx:ev e x=p) (hp:p=.pointer (some a)):Pur P (.nilCheck x) e p:=by subst hp; exact P_nilCheck hx
/-! ### A pointer to an element, or nil -/
section
variable {P:Program} {e:Env} {x y:Operand}
end

theorem vset_vset {β:Type} {n:Nat} (v:Vector β n) (i:Int) (y:β):Hp (Hp v i y) i y=Hp v i y:=by
 unfold Hp
 apply Vector.ext
 intro j hj
 simp [Vector.getElem_setIfInBounds]
/-! ### A variable that a draw makes and stores to -/
def varA {α:Type} [GoT α] (i:Nat) (t2:TypeId) (a0 a1:α) (v:Value):Qf:=fun g w=>OB i g w t2 a0 v ∨ OB i g w t2 a1 v
def Vp {α:Type} [GoT α] (i:Nat) (t2:TypeId) (a0 a1:α):Hk:={ rel:=fun g w g' w'=>Stp i g w g' w'∧∀ v,(OB i g w t2 a1 v→OB i g' w' t2 a1 v)∧(varA i t2 a0 a1 v g w→varA i t2 a0 a1 v g' w') }
section
variable {α:Type} [GoT α] {i:Nat} {t2:TypeId} {a0 a1:α} {g g':Gh} {w w':World}
theorem Pn (h:Ext g w g' w'):(Vp i t2 a0 a1).rel g w g' w':=⟨h.stp,fun _=>⟨fun k=>k.ext h,fun k=>k.imp (·.ext h) (·.ext h)⟩⟩
theorem up_var0 {v:Value}:Up (Vp i t2 a0 a1) (varA i t2 a0 a1 v):=fun _ _ _ _ hx h=>(hx.2 v).2 h
theorem up_var1 {v:Value}:Up (Vp i t2 a0 a1) (fun g w=>OB i g w t2 a1 v):=fun _ _ _ _ hx h=>(hx.2 v).1 h
theorem upV_rv {β:Type} [GoT β] {x:β} {v:Value}:Up (Vp i t2 a0 a1) (fun g w=>RV g.m w x v):=fun _ _ _ _ hx h=>h.stp hx.1
theorem upV_om {β:Type} [GoT β] {j:Nat} {t:TypeId} {x:List β} {v:Value} (hj:Nat.beq j i=false:=by rfl):Up (Vp i t2 a0 a1) (fun g w=>OM j g w t x v):=fun _ _ _ _ hx h=>h.stp hx.1 hj
theorem upV_ob {β:Type} [GoT β] {j:Nat} {t:TypeId} {x:β} {v:Value} (hj:Nat.beq j i=false:=by rfl):Up (Vp i t2 a0 a1) (fun g w=>OB j g w t x v):=fun _ _ _ _ hx h=>h.stp hx.1 hj
variable {P:Program} {N:Nat}
def UpE (SR : Hk) : List (Nat × (Env → Value → Qf)) → Prop
 | []=>True
 | (_,φ) :: l=>(∀ e v,Up SR (φ e v))∧UpE SR l
def WokE (ops : Array Oper) : List (Nat × (Env → Value → Qf)) → Prop
 | []=>True
 | (i,φ) :: l=>(∀ oi d e v,ops[i]?=some oi→Km ops oi d=true→φ (Qr e d v)=φ e)∧WokE ops l
theorem upE_get {SR : Hk} : ∀ {l : List (Nat × (Env → Value → Qf))}, UpE SR l → ∀ i φ e v, l.lookup i = some φ → Up SR (φ e v)
 | [],_,i,φ,e,v,h=>by cases h
 | (k,ψ) :: l,hu,i,φ,e,v,h=>by
  rw [List.lookup_cons] at h
  split at h
  ·injection h with h; subst h; exact hu.1 e v
  ·exact upE_get hu.2 i φ e v h
theorem wokE_get {ops : Array Oper} : ∀ {l : List (Nat × (Env → Value → Qf))}, WokE ops l → WOk ops (fun i => l.lookup i)
 | [],_,i,φ,_,_,_,_,h,_,_=>by cases h
 | (k,ψ) :: l,hu,i,φ,oi,d,e,v,h,ho,hc=>by
  simp only [List.lookup_cons] at h
  split at h
  ·rename_i hk
   injection h with h; subst h
   have hk:i=k:=by simpa using hk
   subst hk
   exact hu.1 oi d e v ho hc
  ·exact wokE_get hu.2 i φ oi d e v h ho hc
theorem wok_store {ops:Array Oper} {i:Nat} {t:TypeId} {x y:Operand} {A:Value→Qf} (ho:(ops[i]?).map (·.op)=some (.store t x y)):∀ oi d e v,ops[i]?=some oi→Km ops oi d=true→(fun (_:Value)=>A (ev (Qr e d v) x))=(fun _=>A (ev e x)):=fun oi d e v hoi hc=>by
 rw [hoi] at ho
 have ho':oi.op=.store t x y:=Option.some.inj ho
 have:ev (Qr e d v) x=ev e x:=by
  cases d with
  | none=>rfl
  | some d=>
   refine Eo fun t' ht=>Xs _ _ fun h=>?_
   subst ht; subst h
   have:t' ∈ oi.looksAt ops:=List.mem_append_left _ (List.mem_filterMap.2 ⟨.tmp t',by rw [ho']; simp [Op.operands],rfl⟩)
   simp [Km,this] at hc
 rw [this]
theorem E_drawV {n : Nat} {ro : Option Nat} {Q' : Yq} {id : Nat} {ops : List Oper} {e : Env} {ds : List Deferred} (words : List (Nat × (Env → Value → Qf))) (ix : List Nat) (hix : ix = List.range n) (hm : P.follows .mixedOrders = true) (hok : Mx N ops.toArray n = true) (hΦ : UpE (Vp i t2 a0 a1) words) (hW : WokE ops.toArray words)
  (h:Lex (Vp i t2 a0 a1) P ops.toArray (fun g' w'=>Stp i g w g' w') (fun i=>words.lookup i) (fun e' _ w'=>EL P N ro ops.toArray (ops.drop n) Q' e' ds w') ix (fun _ _ _=>True) e):E P N ro (.region id ops.toArray true) Q' e ds w:=
 Pa (SR:=Vp i t2 a0 a1) (fun g' w'=>Stp i g w g' w') (fun i=>words.lookup i) hm hok (fun _ _ _ _ hx h=>h.trans hx.1) (Yg g w).stp (upE_get hΦ) (wokE_get hW) (hix ▸ h)
theorem D_storeV {i : Nat} {t2 : TypeId} {a0 a1 : α} {g : Gh} {w : World} {e : Env} {o1 o2 : Operand} {t : TypeId} {p v : Value} (hs : ∀ w, (sizeOf t).run P w = .ok (GoT.k α) w) (hx : ev e o1 = p) (hp : varA i t2 a0 a1 p g w) (hy : ev e o2 = v) (hv : RV g.m w a1 v) :
  Doe P (.store t o1 o2) e w fun _ w'=>∃ g',(Vp i t2 a0 a1).rel g w g' w'∧OB i g' w' t2 a1 p:=fun d ty pos af gd=>by
 have key:∀ a:α,OB i g w t2 a p→doE P ⟨d,.store t o1 o2,ty,pos,af,gd⟩ e w fun _ w'=>∃ g',(Vp i t2 a0 a1).rel g w g' w'∧OB i g' w' t2 a1 p:=fun a hp=>by
  obtain ⟨b,cs,rfl,ho,hm,hh,hr⟩:=hp
  have hsz:=To hv
  have hl:=GoT.len hr
  have hrow:cs.toList.take 0 ++ v.cells.toList ++ cs.toList.drop (0 + v.cells.size)=v.cells.toList:=by
   rw [List.take_zero,List.nil_append,List.drop_of_length_le (by simp at hl; simp; omega),List.append_nil]
  have hrun:=Jb (P:=P) (t:=t) (v:=v) (b:=b) (o:=0) (by rw [hsz]; exact hs) hh (by simp at hl; omega) (GoT.one hv.cells)
  rw [hrow] at hrun
  have hstp:Stp i g w g (w.setRow b v.cells.toList.toArray):=Sj hh ho (fun j hj=>by rw [hm] at hj; omega)
  have hrun2:(execOp (ev e) ⟨d,.store t o1 o2,ty,pos,af,gd⟩).run P w=.ok .skip (w.setRow b v.cells.toList.toArray):=by
   simp [execOp,hx,hy,Instr.storeAt,Instr.sureAddr,Result.andThen,hrun]
  unfold doE; rw [hrun2]
  have hb:OB i g (w.setRow b v.cells.toList.toArray) t2 a1 (.pointer (some ⟨b,0,none⟩)):=⟨b,_,rfl,ho,hm,Qq _ _ hh,by simpa using GoT.mono hstp.ch hv.cells⟩
  have oth:∀ (a:α) (u:Value),u ≠ .pointer (some ⟨b,0,none⟩)→OB i g w t2 a u→OB i g (w.setRow b v.cells.toList.toArray) t2 a u:=fun a u hne ⟨b2,cs2,hu,ho2,hm2,hh2,hr2⟩=>by
   have hbb:b2 ≠ b:=fun he=>hne (by rw [hu,he])
   refine ⟨b2,cs2,hu,ho2,hm2,?_,GoT.mono hstp.ch hr2⟩
   have hset:(w.setRow b v.cells.toList.toArray).heap[b2]?=w.heap[b2]?:=Wq _ _ hbb
   rw [hset]; exact hh2
  refine ⟨g,⟨hstp,fun u=>?_⟩,hb⟩
  by_cases hu:u=.pointer (some ⟨b,0,none⟩)
  ·subst hu; exact ⟨fun _=>hb,fun _=>.inr hb⟩
  ·exact ⟨oth _ _ hu,fun k=>k.imp (oth _ _ hu) (oth _ _ hu)⟩
 rcases hp with hp | hp
 ·exact key _ hp
 ·exact key _ hp
end

/-! ### A variable that holds an own slice -/
def BX {α:Type} [GoT α] (i j:Nat) (g:Gh) (w:World) (et bt:TypeId) (xs:List α) (p:Value):Prop:=∃ q:Fv,OB i g w bt q p∧OM j g w et xs q.v
section
variable {α:Type} [GoT α] {i j k:Nat} {g g':Gh} {w w':World} {et bt:TypeId} {xs:List α} {p:Value}
theorem BX.stp (h:BX i j g w et bt xs p) (hx:Stp k g w g' w') (h1:Nat.beq i k=false) (h2:Nat.beq j k=false:=by rfl):BX i j g' w' et bt xs p:=let ⟨q,k1,k2⟩:=h; ⟨q,k1.stp hx h1,k2.stp hx h2⟩
theorem BX.ist {B:Nat} (h:BX i j g w et bt xs p) (hx:Ds B g w g' w') (h1:Nat.beq i 0=false:=by rfl) (h2:Nat.beq j 0=false:=by rfl):BX i j g' w' et bt xs p:=let ⟨q,k1,k2⟩:=h; ⟨q,k1.stp hx.st h1,k2.stp hx.st h2⟩
theorem om_one {t:TypeId} {v:Value} (h:OM i g w t xs v):v.oneCell'=true:=by
 rcases h with ⟨rfl,_⟩ | ⟨b,c,cs,rfl,_⟩ <;> simp [Value.oneCell']
theorem OB.ofRV {q:Fv} (h:OB i g w bt q p) (hr:RV g.m w xs q.v):OB i g w bt xs p:=by
 obtain ⟨b,cs,hp,ho,hm,hh,hq⟩:=h
 refine ⟨b,cs,hp,ho,hm,hh,?_⟩
 have hq:cs.toList=[q.v]:=hq
 rw [hq]
 obtain ⟨c2,h1,h2⟩:=hr
 have h3:=GoT.len h1
 match c2,h3 with
 | [c],_=>have h2:q.v=c:=h2; rw [h2]; exact h1
variable {P:Program} {e:Env} {K:Value→World→Prop} {x y:Operand}
end
theorem fv0_rep {m:Nat→Nat} {w:World}:RV m w (⟨.slice none 0 0,rfl⟩:Fv) (.slice none 0 0):=Ks.2 rfl
section
variable {P:Program} {e:Env} {w:World} {g:Gh} {K:Value→World→Prop} {x y z:Operand}
theorem Om {α : Type} [GoT α] (i : Nat) {t et : TypeId} {zv : Value} {bytes : Nat} (x0 : α) {n : Int} {r : List α} (hk : GoT.k α = 1)
  (ht:P.underlying t=some (.slice et)) (hinfo:(P.info? et).map (fun i=>(i.zero,i.size,i.bytes))=some (some zv,1,bytes)) (hz1:zv.cells=#[zv]) (hz:∀ m w,GoT.rep m w x0 [zv])
  (hx:ev e x=.int .i64 n) (hy:ev e y=.int .i64 n) (hr:mks bytes x0 n=some r)
  (h:∀ g' w' v',Ext g w g' w'→OM i g' w' et r v'→K v' w'):Doe P (.makeSlice t x y) e w K:=by
 intro d ty pos af gd
 obtain ⟨ti,hi,hzz,hsz,hby⟩:=info_parts hinfo
 subst hby
 unfold mks at hr
 split at hr
 case isFalse=>cases hr
 rename_i hc
 obtain rfl:=Option.some.inj hr
 obtain ⟨h0,h1,h2⟩:=hc
 have hrun:=run_makeSlice (P:=P) w t et ti zv ht hi hzz .i64 .i64 n n h0 (Int.le_refl _) (by rw [hsz]; omega) h2 (by omega)
 have hrun2:(execOp (ev e) ⟨d,.makeSlice t x y,ty,pos,af,gd⟩).run P w=.ok (.value (.slice (some ⟨w.heap.size,0,none⟩) n.toNat n.toNat)) (w.alloc (.cells (madeCells zv.cells (n.toNat * ti.size)) et)):=by
  simp only [execOp,hx,hy,Sem.run_bind,hrun,Result.andThen_ok,Sem.run_pure]
 unfold doE; rw [hrun2]
 have hcs:(madeCells zv.cells (n.toNat * ti.size)).toList=List.replicate n.toNat zv:=by
  rw [hz1,hsz,Nat.mul_one]
  apply List.ext_getElem
  ·simp [madeCells]
  ·intro j h1 h2; simp [madeCells,Nat.mod_one]
 refine h { m:=Ki g.m w.heap.size 0,o:=Ki g.o w.heap.size i } _ _ ⟨(Below.refl _ w).alloc (Nat.le_refl _) _,fun b hb=>Wk _ _ (by omega),fun b hb=>Wk _ _ (by omega)⟩ (.inr ⟨w.heap.size,n.toNat,_,by simp,by simp,Tu _ _ _,Tu _ _ _,CF.of (Kg _ _),?_,?_⟩)
 ·have := congrArg List.length hcs
  simp at this
  rw [List.length_replicate,hk,Nat.mul_one]; omega
 ·rw [hcs, List.length_replicate, hk, Nat.mul_one, List.take_of_length_le (by simp)]
  exact Ar (hz _ _) _
end

theorem Bi {α : Type} [GoT α] {m : Nat → Nat} {w : World} {x : α} {cs : List Value} (h : GoT.rep m w x cs) : ∀ n : Nat, Tw m w (List.replicate n x) (List.replicate n cs).flatten
 | 0=>rfl
 | n + 1=>⟨cs,(List.replicate n cs).flatten,rfl,h,Bi h n⟩
theorem Mm {α:Type} [GoT α] {n:Nat} {m:Nat→Nat} {w:World} {x:α} {cs:List Value} (h:GoT.rep m w x cs):GoT.rep m w (Vector.replicate n x) (List.replicate n cs).flatten:=by
 have:=Ta (n:=n) (Bi h n) (by simp)
 have he:(⟨(List.replicate n x).toArray,by simp⟩:Vector α n)=Vector.replicate n x:=by
  apply Vector.toList_inj.1; simp [Vector.toList]
 rw [he] at this; exact this

/-! ### makeSlice, of structs too -/
section
variable {P:Program} {e:Env} {w:World} {g:Gh} {K:Value→World→Prop} {x y z:Operand}
end
/-! ### bits.Len of small numbers -/
section
variable {P:Program} {e:Env} {x y:Operand}
end
end Go.Proofs.YtlmibfohllgmeaaGreat
