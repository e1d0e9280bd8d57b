/- What is lent for a call; maps that are only read; cells of arrays by a number that varies; more of makeSlice. No program is named here. -/
import Derived.Test.YtkfdjkkbnfohjaaGreatDoorOa
import Derived.Lib.AppendZerosOnto
namespace Go.Proofs.YtkfdjkkbnfohjaaGreatDoor
open Go.RowKit

/-! ### Lending: all that there is may be read for the time of a call -/
def allM (w : World) (m : Nat → Nat) : Nat → Nat := fun b => match w.heap[b]? with
 | some (.cells cs _ _)=>if m b < cs.size then cs.size else m b
 | _=>m b
theorem allM_le (w:World) (m:Nat→Nat) (b:Nat):m b ≤ allM w m b:=by
 unfold allM
 split
 ·split <;> omega
 ·exact Nat.le_refl _
theorem allM_cells {w:World} {m:Nat→Nat} {b:Nat} {cs:Array Value} {t:TypeId} {fr:Nat × Nat} (h:w.heap[b]?=some (.cells cs t fr)):cs.size ≤ allM w m b:=by
 unfold allM
 rw [h]
 simp only
 split <;> omega
theorem ch_all (m:Nat→Nat) (w:World):Ch m w (allM w m) w:=⟨Nat.le_refl _,fun b _=>allM_le w m b,fun _ _ _ _=>rfl⟩
def lent (g:Gh) (w:World):Gh:={ m:=allM w g.m,o:=g.o }
section
variable {α:Type} [GoT α] {i:Nat} {g g':Gh} {w w':World} {t:TypeId} {x:α} {xs:List α} {p v:Value}
theorem OB.lent (h:OB i g w t x p):PT (allM w g.m) w x p:=by
 obtain ⟨b,cs,rfl,ho,hm,hh,hr⟩:=h
 have hl:=GoT.len hr
 refine ⟨b,0,cs.toList,rfl,lt_of_heap hh,?_,GoT.mono (ch_all _ _) hr,fun j c hj=>?_⟩
 ·have := allM_cells (m := g.m) hh
  have h2:cs.size=GoT.k α:=by simpa using hl
  omega
 ·rw [Nat.zero_add]; simp only [World.cell?,hh]; simpa using hj
end
section
variable {P:Program} {e:Env} {w:World} {g:Gh} {K:Value→World→Prop} {x y z:Operand}
theorem unlend {g:Gh} {w:World} {g1:Gh} {w':World} (hx:Ext (lent g w) w g1 w'):Ext g w { m:=fun b=>if b < w.heap.size then g.m b else g1.m b,o:=g1.o } w':=
 ⟨hx.below,fun b hb=>by simp [hb],hx.o⟩
theorem D_callF {f : FuncId} {xs : List Operand} {vs : List Value} {ats : Array TypeId} {R : Value → Prop} (hent : Enters P f) (ha : Args e xs vs)
  (hc:Fn P f vs.toArray (lent g w) w (fun _ _ v=>R v)) (h:∀ g' w' v,Ext g w g' w'→R v→K v w'):Doe P (.call { callee:=.value (.func f),args:=xs.toArray,argTypes:=ats }) e w K:=
 Zp (g:=lent g w) hent ha hc fun _ _ _ hx hr=>h _ _ _ (unlend hx) hr
theorem D_callGF {f : FuncId} {xs : List Operand} {vs : List Value} {ats : Array TypeId} {R : Gh → World → Value → Prop} (hent : Enters P f) (ha : Args e xs vs)
  (hc:FnG P f vs.toArray (lent g w) w R) (h:∀ g1 w' v,Ext (lent g w) w g1 w'→R g1 w' v→K v w'):Doe P (.call { callee:=.value (.func f),args:=xs.toArray,argTypes:=ats }) e w K:=
 D_callG (g:=lent g w) hent ha hc h
end

/-! ### Maps that are only read -/
section
variable {κ ν:Type} [GoT ν] {enc:κ→Value}
def MR (enc:κ→Value) (g:Gh) (w:World) (m:List (κ × ν)) (v:Value):Prop:=(v=.map none∧m=[]) ∨ ∃ i,MP enc i g w m v
def MQ (enc:κ→Value) (n:Nat) (g:Gh) (w:World) (m:List (κ × ν)) (v:Value):Prop:=(v=.map none∧m=[]) ∨ (MP enc 0 g w m v∧∀ b,v=.map (some b)→b < n)
variable {g g':Gh} {w w':World} {m:List (κ × ν)} {v:Value} {i n:Nat}
theorem MR.nil:MR enc g w ([]:List (κ × ν)) (.map none):=.inl ⟨rfl,rfl⟩
theorem MP.r (h:MP enc i g w m v):MR enc g w m v:=.inr ⟨_,h⟩
theorem MQ.r (h:MQ enc n g w m v):MR enc g w m v:=h.imp id fun h=>⟨_,h.1⟩
theorem MP.lt {b:Nat} (h:MP enc i g w m (.map (some b))):b < w.heap.size:=by
 obtain ⟨b',es,cl,hv,_,hh,_⟩:=h
 injection hv with hv; injection hv with hv; subst hv
 exact lt_of_heap hh
theorem MQ.ext (h:MQ enc n g w m v) (k:Ext g w g' w'):MQ enc n g' w' m v:=h.imp id fun h=>⟨h.1.ext k,h.2⟩
theorem MQ.stp {j:Nat} (h:MQ enc n g w m v) (k:Stp (j + 1) g w g' w'):MQ enc n g' w' m v:=h.imp id fun h=>⟨h.1.stp k (by cases j <;> rfl),h.2⟩
variable {P:Program} {e:Env} {K:Value→World→Prop} {x y z:Operand} [DecidableEq κ]
end

/-! ### Cells of an array, by a number that varies -/
section
variable {β:Type} [GoT β] {n:Nat}
def vset {β:Type} {n:Nat} (v:Vector β n) (i:Int) (y:β):Vector β n:=v.setIfInBounds i.toNat y
def vat {β:Type} {n:Nat} (i:Nat) (h:i < n) (v:Vector β n):β:=v[i]
omit [GoT β] in
theorem vat_idx {v:Vector β n} {i:Int} {a:β} (h:idx v.toList i=some a):∃ hi:i.toNat < n,vat i.toNat hi v=a:=let ⟨_,hi,h⟩:=vec_idx h; ⟨hi,h⟩
theorem SubS.dyn {i:Int} (hi:i.toNat < n):SubS (α:=Vector β n) (i.toNat * GoT.k β) (vat i.toNat hi) (fun v y=>vset v i y):=by
 have h:=SubS.vec (β:=β) hi
 refine ⟨h.1,fun m w x y cs cy hx hy=>?_⟩
 have:=h.2 m w x y cs cy hx hy
 have he:vset x i y=x.set i.toNat y hi:=by
  unfold vset
  apply Vector.ext
  intro j hj
  simp [Vector.getElem_setIfInBounds,Vector.getElem_set]
 show GoT.rep m w (vset x i y) _
 rw [he]; exact this
variable {P:Program} {e:Env} {w:World} {g:Gh} {K:Value→World→Prop} {a1:Operand}
end
theorem P_nilCk {P:Program} {e:Env} {x:Operand} {a:Addr} {p:Value} (hx:ev e x=p) (hp:p=.pointer (some a)):Pur P (.nilCheck x) e p:=by subst hp; exact P_nilCheck hx
/-! ### A pointer to an element, or nil -/
section
variable {P:Program} {e:Env} {x y:Operand}
end

/-! ### A variable that a draw makes and stores to -/
section
variable {α:Type} [GoT α] {i:Nat} {t2:TypeId} {a0 a1:α} {g g':Gh} {w w':World}
variable {P:Program} {N:Nat}
end

/-! ### A variable that holds an own slice -/
def BX {α:Type} [GoT α] (i j:Nat) (g:Gh) (w:World) (et bt:TypeId) (xs:List α) (p:Value):Prop:=∃ q:Fv,OB i g w bt q p∧OM j g w et xs q.v
section
variable {α:Type} [GoT α] {i j k:Nat} {g g':Gh} {w w':World} {et bt:TypeId} {xs:List α} {p:Value}
theorem BX.ext (h:BX i j g w et bt xs p) (hx:Ext g w g' w'):BX i j g' w' et bt xs p:=let ⟨q,h1,h2⟩:=h; ⟨q,h1.ext hx,h2.ext hx⟩
theorem BX.stp (h:BX i j g w et bt xs p) (hx:Stp k g w g' w') (h1:Nat.beq i k=false) (h2:Nat.beq j k=false:=by rfl):BX i j g' w' et bt xs p:=let ⟨q,k1,k2⟩:=h; ⟨q,k1.stp hx h1,k2.stp hx h2⟩
theorem om_one {t:TypeId} {v:Value} (h:OM i g w t xs v):v.oneCell'=true:=by
 rcases h with ⟨rfl,_⟩ | ⟨b,c,cs,rfl,_⟩ <;> simp [Value.oneCell']
theorem OB.ofRV {q:Fv} (h:OB i g w bt q p) (hr:RV g.m w xs q.v):OB i g w bt xs p:=by
 obtain ⟨b,cs,hp,ho,hm,hh,hq⟩:=h
 refine ⟨b,cs,hp,ho,hm,hh,?_⟩
 have hq:cs.toList=[q.v]:=hq
 rw [hq]
 obtain ⟨c2,h1,h2⟩:=hr
 have h3:=GoT.len h1
 match c2,h3 with
 | [c],_=>have h2:q.v=c:=h2; rw [h2]; exact h1
variable {P:Program} {e:Env} {K:Value→World→Prop} {x y:Operand}
end
theorem fv0_rep {m:Nat→Nat} {w:World}:RV m w (⟨.slice none 0 0,rfl⟩:Fv) (.slice none 0 0):=RV_fv.2 rfl
section
variable {P:Program} {e:Env} {w:World} {g:Gh} {K:Value→World→Prop} {x y z:Operand}
end

theorem flat_replicate {α : Type} [GoT α] {m : Nat → Nat} {w : World} {x : α} {cs : List Value} (h : GoT.rep m w x cs) : ∀ n : Nat, FlatR m w (List.replicate n x) (List.replicate n cs).flatten
 | 0=>rfl
 | n + 1=>⟨cs,(List.replicate n cs).flatten,rfl,h,flat_replicate h n⟩
theorem rep_replicate {α:Type} [GoT α] {n:Nat} {m:Nat→Nat} {w:World} {x:α} {cs:List Value} (h:GoT.rep m w x cs):GoT.rep m w (Vector.replicate n x) (List.replicate n cs).flatten:=by
 have:=rep_vec (n:=n) (flat_replicate h n) (by simp)
 have he:(⟨(List.replicate n x).toArray,by simp⟩:Vector α n)=Vector.replicate n x:=by
  apply Vector.toList_inj.1; simp [Vector.toList]
 rw [he] at this; exact this

/-! ### makeSlice, of structs too -/
section
variable {P:Program} {e:Env} {w:World} {g:Gh} {K:Value→World→Prop} {x y z:Operand}
end
/-! ### bits.Len of small numbers -/
section
variable {P:Program} {e:Env} {x y:Operand}
end
end Go.Proofs.YtkfdjkkbnfohjaaGreatDoor
/- Steps of a walk under short names. No program is named here. -/
namespace Go.Proofs.YtkfdjkkbnfohjaaGreatDoor
open Go.RowKit
section
variable {P:Program} {N:Nat} {ro:Option Nat} {Q:Post} {e:Env} {ds:List Deferred} {w:World} {ops:Array Oper} {rest:List Oper} {d:Option Tmp} {ty:TypeId} {pos:String} {af:Array Edge} {x y:Operand}
theorem Zo {v:Value} (hx:ev e x=v) (hd:okO N d=true) (h:EL P N ro ops rest Q (updO e d v) ds w):EL P N ro ops (⟨d,.move x,ty,pos,af,none⟩ :: rest) Q e ds w:=
 EL_pur (Zk hx) .plain (by simpa [nodef] using hd) h
theorem EL_as {v:Value} (hx:ev e x=v) (hd:okO N d=true) (h:EL P N ro ops rest Q (updO e d v) ds w):EL P N ro ops (⟨d,.assign x,ty,pos,af,none⟩ :: rest) Q e ds w:=
 EL_pur (P_assign hx) .plain (by simpa [nodef] using hd) h
theorem Zn (v:Value) (hx:ev e x=v) (hd:okO N d=true) (h:EL P N ro ops rest Q (updO e d v) ds w):EL P N ro ops (⟨d,.move x,ty,pos,af,none⟩ :: rest) Q e ds w:=Zo hx hd h
theorem Zg (v:Value) (hx:ev e x=v) (hd:okO N d=true) (h:EL P N ro ops rest Q (updO e d v) ds w):EL P N ro ops (⟨d,.assign x,ty,pos,af,none⟩ :: rest) Q e ds w:=EL_as hx hd h
theorem EL_in {op:BinOp} {t t2:TypeId} {m n:Int} (v:Value) (hx:ev e x=.int .i64 m) (hy:ev e y=.int .i64 n) (hv:iop op m n=some v) (hd:okO N d=true) (h:EL P N ro ops rest Q (updO e d v) ds w):EL P N ro ops (⟨d,.binOp op t x y t2,ty,pos,af,none⟩ :: rest) Q e ds w:=
 EL_pur (P_int hx hy hv) .plain (by simpa [nodef] using hd) h
theorem E_ct {c:Operand} {a b:Code} {t:Bool} (ht:t=true) (hc:ev e c=.bool t) (h:E P N ro a Q e ds w):E P N ro (.cond c a b) Q e ds w:=E_cond_true (hc.trans (congrArg Value.bool ht)) h
theorem E_cf {c:Operand} {a b:Code} {t:Bool} (ht:t=false) (hc:ev e c=.bool t) (h:E P N ro b Q e ds w):E P N ro (.cond c a b) Q e ds w:=E_cond_false (hc.trans (congrArg Value.bool ht)) h
end
section
variable {SR:StepRel} {P:Program} {N:Nat} {ops:Array Oper} {C:Fact} {Φ:Words} {F:Nat→Fact} {Q:Env→Fact} {e:Env} {i:Nat} {l:List Nat} {ro:Option Nat} {R:Post} {ds:List Deferred} {w:World} {rest:List Oper}
variable {op:Op} {ty:TypeId} {pos:String} {af:Array Edge} {gd:Option (Nat × Bool)} {d:Option Tmp} {j t:Nat} {b b' c':Bool}
theorem Ga (c : Value) (ho : ops[i]? = some ⟨d, op, ty, pos, af, none⟩) (hφ : Φ i = none) (hc : Pur P op e c)
  (k:Lex SR P ops C Φ Q l (setF F i (fun g w=>∀ j ∈ directOf ⟨d,op,ty,pos,af,none⟩,F j g w)) (updO e d c)) (hnl:SR.late i=false:=by rfl):Lex SR P ops C Φ Q (i :: l) F e:=
 L_pur (c:=c) ho hφ .plain (fun _ _ _=>hc) k hnl
theorem L_y (c : Value) (ho : ops[i]? = some ⟨d, op, ty, pos, af, some (j, b)⟩) (hφ : Φ i = none) (hd : (ops[j]?).bind (·.dst) = some t) (he : e t = .bool b') (hb : b' = b) (hc : Pur P op e c)
  (k:Lex SR P ops C Φ Q l (setF F i (fun g w=>∀ j' ∈ directOf ⟨d,op,ty,pos,af,some (j,b)⟩,F j' g w)) (updO e d c)) (hnl:SR.late i=false:=by rfl):Lex SR P ops C Φ Q (i :: l) F e:=
 L_pur (c:=c) ho hφ (.yes2 hd he hb) (fun _ _ _=>hc) k hnl
theorem L_s (ho:ops[i]?=some ⟨d,op,ty,pos,af,some (j,b)⟩) (hd:(ops[j]?).bind (·.dst)=some t) (he:e t=.bool b') (hb:b'=c') (hc:(c' == b)=false) (k:Lex SR P ops C Φ Q l (setF F i (fun _ _=>True)) (updO e d undef)):Lex SR P ops C Φ Q (i :: l) F e:=
 L_skip ho (.no2 hd he hb hc) k
theorem L_nl (h:∀ g w,C g w→Q e g w):Lex SR P ops C Φ Q [] F e:=L_nil fun g w ha=>h g w ha.1
theorem Zx (v:Value) (h1:Pur P op e v) (hd:(nodef op && okO N d)=true) (h:EL P N ro ops rest R (updO e d v) ds w):EL P N ro ops (⟨d,op,ty,pos,af,none⟩ :: rest) R e ds w:=EL_pur h1 .plain hd h
theorem Zy (v:Value) (h1:Pur P op e v) (hd:(ops[j]?).bind (·.dst)=some t) (he:e t=.bool b') (hb:b'=b) (hd':(nodef op && okO N d)=true) (h:EL P N ro ops rest R (updO e d v) ds w):EL P N ro ops (⟨d,op,ty,pos,af,some (j,b)⟩ :: rest) R e ds w:=EL_pur h1 (.yes2 hd he hb) hd' h
theorem Zz (hd:(ops[j]?).bind (·.dst)=some t) (he:e t=.bool b') (hb:b'=c') (hc:(c' == b)=false) (hd':okO N d=true) (h:EL P N ro ops rest R (updO e d undef) ds w):EL P N ro ops (⟨d,op,ty,pos,af,some (j,b)⟩ :: rest) R e ds w:=EL_skip (.no2 hd he hb hc) hd' h
end
section
variable {P:Program} {e:Env} {w:World} {g:Gh} {K:Value→World→Prop} {x y:Operand}
end
theorem sinj.{u} {α:Type u} {a b:α} (h:some a=some b):a=b:=Option.some.inj h
end Go.Proofs.YtkfdjkkbnfohjaaGreatDoor
/- slices.Grow of nil: an own slice of nothing, with room. No program is named here. -/
namespace Go.Proofs.YtkfdjkkbnfohjaaGreatDoor
open Go.RowKit Go.Lib

theorem OS.handn {α:Type} [GoT α] {j i:Nat} {g0 g:Gh} {w0 w:World} {t:TypeId} {xs:List α} {v:Value} (hfr:Fr g0 w0 g w) (h:OS (j + 1) g w t xs v) (hr:RV g.m w xs v):∃ g',Ext g0 w0 g' w∧OS i g' w t xs v∧RV g'.m w xs v:=by
 rcases h with ⟨h1,h2⟩ | ⟨b,c,cs,hv,ho,hm,hh,hc,hcm,hcs⟩
 ·exact ⟨_,hfr.fin,.inl ⟨h1,h2⟩,by subst h2; exact h1 ▸ RV_nil⟩
 ·have hb : ¬ b < w0.heap.size := fun hb => by have := hfr.o b hb; omega
  refine ⟨{ m:=g.m,o:=updN (fun b=>if b < w0.heap.size then g0.o b else 0) b i },⟨hfr.below,hfr.m,fun b' hb'=>?_⟩,.inr ⟨b,c,cs,hv,by simp [updN],hm,hh,hc,hcm,hcs⟩,hr⟩
  rw [show ({ m:=g.m,o:=updN (fun b=>if b < w0.heap.size then g0.o b else 0) b i }:Gh).o b'=updN (fun b=>if b < w0.heap.size then g0.o b else 0) b i b' from rfl,updN_ne _ _ (show b' ≠ b from fun h=>hb (h ▸ hb'))]
  simp [hb']
section
variable {P:Program} {e:Env} {w:World} {g:Gh} {K:Value→World→Prop} {x y z:Operand}
end
section
variable {P:Program} {N:Nat} {w:World} {g:Gh}
end
end Go.Proofs.YtkfdjkkbnfohjaaGreatDoor
/- Appends to own slices in regions that draw their order. No program is named here. -/
namespace Go.Proofs.YtkfdjkkbnfohjaaGreatDoor
open Go.RowKit

theorem FlatR.pre {α : Type} [GoT α] {m : Nat → Nat} {w : World} : ∀ {xs ys : List α} {cs : List Value}, FlatR m w (xs ++ ys) cs → FlatR m w xs (cs.take (xs.length * GoT.k α))
 | [],_,_,_=>by simp [FlatR]
 | x :: xs,ys,_,⟨c1,c2,rfl,h1,h2⟩=>by
  have hl:=GoT.len h1
  refine ⟨c1,c2.take (xs.length * GoT.k α),?_,h1,FlatR.pre h2⟩
  rw [List.length_cons,Nat.add_mul,Nat.one_mul,List.take_append,List.take_of_length_le (by omega),hl]
  congr 2; omega
section
variable {α:Type} [GoT α] {i:Nat} {et:TypeId} {xs r:List α} {u:Value} {g g':Gh} {w w':World}
variable {P:Program} {N:Nat}
end
end Go.Proofs.YtkfdjkkbnfohjaaGreatDoor
