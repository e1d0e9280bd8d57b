/- Own slices that are both written in place and appended to. No program is named here. -/
import Derived.Test.YtplaipkjhlkjgaaNest
import Derived.Test.YtplaipkjhlkjgaaKey
namespace Go.Proofs.Ytplaipkjhlkjgaa
open Go.RowKit

def OA {α:Type} [GoT α] (i:Nat) (g:Gh) (w:World) (t:TypeId) (xs:List α) (v:Value):Prop:=
 (v=.slice none 0 0∧xs=[]) ∨
 ∃ b c cs,v=.slice (some ⟨b,0,none⟩) xs.length c∧g.o b=i∧g.m b=0∧w.heap[b]?=some (.cells cs t (0,0))∧xs.length ≤ c∧c ≤ maxLen∧cs.size=c * GoT.k α∧Tq g.m w xs (cs.toList.take (xs.length * GoT.k α))
section
variable {α:Type} [GoT α] {i j:Nat} {g g':Gh} {w w':World} {t:TypeId} {xs:List α} {v:Value}
theorem OA.nil:OA i g w t ([]:List α) (.slice none 0 0):=.inl ⟨rfl,rfl⟩
theorem OA.ext (h:OA i g w t xs v) (k:Ext g w g' w'):OA i g' w' t xs v:=by
 rcases h with h | ⟨b,c,cs,hp,ho,hm,hh,h1,h2,h3,hf⟩
 ·exact .inl h
 have hb:=Gg hh
 exact .inr ⟨b,c,cs,hp,(k.o b hb).trans ho,(k.m b hb).trans hm,(k.below.block b hb).trans hh,h1,h2,h3,hf.ch k.ch⟩
theorem OA.stp (h:OA i g w t xs v) (k:Stp j g w g' w') (hne:Nat.beq i j=false):OA i g' w' t xs v:=by
 rcases h with h | ⟨b,c,cs,hp,ho,hm,hh,h1,h2,h3,hf⟩
 ·exact .inl h
 have hb:=Gg hh
 have hij:g.o b ≠ j:=by rw [ho]; intro he; rw [he] at hne; simp at hne
 exact .inr ⟨b,c,cs,hp,(k.o b hb hij).trans ho,(k.m b hb hij).trans hm,(k.block b hb hij).trans hh,h1,h2,h3,hf.ch k.ch⟩
theorem OA.ofOS (h:OS i g w t ([]:List α) v):OA i g w t ([]:List α) v:=by
 rcases h with h | ⟨b,c,cs,hp,ho,hm,hh,h1,h2,h3⟩
 ·exact .inl h
 exact .inr ⟨b,c,cs,hp,ho,by simpa using hm,hh,h1,h2,h3,by simp [Tq]⟩
end
section
variable {P:Program} {e:Env} {w:World} {g:Gh} {K:Value→World→Prop} {x y z:Operand}
theorem flat_of_rv {α:Type} [GoT α] {m:Nat→Nat} {w:World} {b n c:Nat} {cs:Array Value} {t:TypeId} {xs:List α} (h:RV m w xs (.slice (some ⟨b,0,none⟩) n c)) (hh:w.heap[b]?=some (.cells cs t (0,0))):Tq m w xs (cs.toList.take (xs.length * GoT.k α)):=by
 rcases Nat.eq_zero_or_pos xs.length with h0 | h0
 ·have hx : xs = [] := List.eq_nil_of_length_eq_zero h0
  subst hx
  simp [Tq]
 ·obtain ⟨a, c2, he, _, hrow⟩ := Ht h
  obtain ⟨b2,off2,rfl,_,_,hrow⟩:=hrow h0
  injection he with he _ _
  injection he with he
  injection he with h1 h2
  subst h1; subst h2
  obtain ⟨ds,hf,hcell⟩:=hrow.flat
  have hl:=hf.len
  have hds:cs.toList.take (xs.length * GoT.k α)=ds:=by
   apply List.ext_getElem?
   intro k
   rw [List.getElem?_take]
   split
   ·rename_i hk
    have hk2:k < ds.length:=by rw [hl]; exact hk
    have:=hcell k _ (List.getElem?_eq_getElem hk2)
    simp only [World.cell?,hh,Nat.zero_add,Option.isSome_none,Bool.false_eq_true,if_false] at this
    rw [List.getElem?_eq_getElem hk2,← this,Array.getElem?_toList]
   ·rename_i hk
    rw [List.getElem?_eq_none (by omega)]
  rw [hds]
  exact hf
theorem D_appendA {α : Type} [GoT α] (hpl : Dy α) {i : Nat} {t et : TypeId} {z : Value} {bytes : Nat} {xs ys r : List α} {u v : Value}
  (ht:P.underlying t=some (.slice et)) (hinfo:(P.info? et).map (fun i=>(i.zero,i.size,i.bytes))=some (some z,GoT.k α,bytes)) (hzs:z.cells.size=GoT.k α)
  (hx:ev e x=u) (hos:OA i g w et xs u) (hy:ev e y=v) (hv:RV g.m w ys v) (hr:apnd bytes xs ys=some r)
  (h:∀ g' w' v',Stp i g w g' w'→OA i g' w' et r v'→K v' w'):Doe P (.call { callee:=.builtin .append,args:=#[x,y],argTypes:=#[t,t] }) e w K:=fun d ty pos af gd=>by
 obtain ⟨ti,hi,hz,hsz,hby⟩:=info_parts hinfo
 subst hby
 have key:∃ B:Nat→Bool,(∀ x,x < w.heap.size→B x=true→g.o x=i∧g.m x=0)∧OS 1 { m:=fun x=>if B x then xs.length * GoT.k α else g.m x,o:=fun x=>if B x then 1 else 0 } w et xs u∧RV (fun x=>if B x then xs.length * GoT.k α else g.m x) w xs u:=by
  rcases hos with ⟨rfl,rfl⟩ | ⟨b,c,cs,rfl,ho,hm,hh,hc,hcm,hcs,hf⟩
  ·exact ⟨fun _=>false,fun _ _ h=>by simp at h,OS.nil,Kg⟩
  ·refine ⟨fun x => x == b, fun x _ h => by simp at h; subst h; exact ⟨ho, hm⟩, .inr ⟨b, c, cs, rfl, by simp, by show (if (b == b) = true then _ else _) = _; simp, hh, hc, hcm, hcs⟩, Yb rfl hc fun _ => ⟨b, 0, rfl, Gg hh, ?_, ?_⟩⟩
   ·show 0 + _ ≤ (if (b == b)=true then _ else _); simp
   ·refine (hf.plain hpl).row fun j v hj => ?_
    rw [List.getElem?_take] at hj
    split at hj
    ·rw [Nat.zero_add]; simp only [World.cell?,hh]; simpa using hj
    ·cases hj
 obtain ⟨B,hB,hos1,hu1⟩:=key
 have hch1:Ch g.m w (fun x=>if B x then xs.length * GoT.k α else g.m x) w:=⟨Nat.le_refl _,fun x hx=>by
  by_cases hBx:B x=true
  ·rw [(hB x hx hBx).2]; exact Nat.zero_le _
  ·simp [hBx],fun _ _ _ _=>rfl⟩
 obtain ⟨g',w',v',hrun,h1,h2,h3,_⟩:=Oz (P:=P) (i:=1) t ty et ti z ht hi hz hsz hzs hos1 hu1 (hv.ch hch1) hr
 have hrun2:(execOp (ev e) ⟨d,.call { callee:=.builtin .append,args:=#[x,y],argTypes:=#[t,t] },ty,pos,af,gd⟩).run P w=.ok (.value v') w':=by
  simp only [execOp,resolve,invoke,builtin,Sem.run_bind,Sem.run_pure,Result.andThen_ok,List.map_toArray,List.map_cons,List.map_nil,hx,hy,hrun]
 unfold doE; rw [hrun2]
 have back : ∀ (B : Nat → Bool) (n b' : Nat) (g' : Gh), (∀ x, x < w.heap.size → B x = true → g.o x = i ∧ g.m x = 0) → Stp 1 { m := fun x => if B x then n else g.m x, o := fun x => if B x then 1 else 0 } w g' w' → g'.o b' = 1 →
   Stp i g w { m:=fun x=>if x=b' ∨ B x=true then 0 else g'.m x,o:=fun x=>if x=b' then i else if x < w.heap.size then g.o x else 0 } w':=fun B n b' g' hB hst ho=>append_back hB hst ho
 rcases h2 with ⟨rfl,rfl⟩ | ⟨b',c',cs',rfl,ho',hm',hh',hc',hcm',hcs'⟩
 ·refine h { m := fun x => if B x = true then 0 else g'.m x, o := fun x => if x < w.heap.size then g.o x else 0 } _ _ ?_ .nil
  have hst:=back B _ (w.heap.size + w'.heap.size) { m:=g'.m,o:=fun x=>if x=w.heap.size + w'.heap.size then 1 else g'.o x } hB ⟨h1.os,h1.tape,h1.output,h1.ch,h1.block,h1.m,fun x hx hn=>by
   have:=h1.o x hx hn
   simp only [show x ≠ w.heap.size + w'.heap.size by omega,if_false]
   exact this⟩ (by simp)
  refine ⟨hst.os,hst.tape,hst.output,⟨hst.ch.size,fun x hx=>?_,hst.ch.cells⟩,hst.block,fun x hx hn=>?_,fun x hx hn=>by simp [hx]⟩
  ·have := hst.ch.marks x hx
   simp only [show x ≠ w.heap.size + w'.heap.size by omega,false_or] at this
   exact this
  ·have := hst.m x hx hn
   simp only [show x ≠ w.heap.size + w'.heap.size by omega,false_or] at this
   exact this
 ·exact h _ _ _ (back B _ b' g' hB h1 ho') (.inr ⟨b',c',cs',rfl,by simp,by simp,hh',hc',hcm',hcs',(flat_of_rv h3 hh').plain hpl⟩)
end
/-! ### A field of an element -/
theorem Tq.at {α : Type} [GoT α] {m : Nat → Nat} {w : World} : ∀ {xs : List α} {cs : List Value}, Tq m w xs cs → ∀ {i : Nat} {x : α}, xs[i]? = some x → GoT.rep m w x ((cs.drop (i * GoT.k α)).take (GoT.k α))
 | [],_,_,i,x,h=>by simp at h
 | y :: ys,cs,⟨c1,c2,he,h1,h2⟩,0,x,h=>by
  simp at h; subst h; subst he
  rw [Nat.zero_mul,List.drop_zero,List.take_left' (GoT.len h1)]
  exact h1
 | y :: ys,cs,⟨c1,c2,he,h1,h2⟩,i + 1,x,h=>by
  subst he
  have:=Tq.at h2 (i:=i) (x:=x) (by simpa using h)
  rw [Nat.add_mul,Nat.one_mul,Nat.add_comm,← List.drop_drop,List.drop_left' (GoT.len h1)]
  exact this
section
variable {P:Program} {e:Env} {w:World} {g:Gh} {K:Value→World→Prop} {x y z:Operand}
end
end Go.Proofs.Ytplaipkjhlkjgaa
/- What is lent for a call; maps that are only read; cells of arrays by a number that varies; more of makeSlice. No program is named here. -/
namespace Go.Proofs.Ytplaipkjhlkjgaa
open Go.RowKit

/-! ### Lending: all that there is may be read for the time of a call -/
def allM (w : World) (m : Nat → Nat) : Nat → Nat := fun b => match w.heap[b]? with
 | some (.cells cs _ _)=>if m b < cs.size then cs.size else m b
 | _=>m b
theorem allM_le (w:World) (m:Nat→Nat) (b:Nat):m b ≤ allM w m b:=by
 unfold allM
 split
 ·split <;> omega
 ·exact Nat.le_refl _
theorem allM_cells {w:World} {m:Nat→Nat} {b:Nat} {cs:Array Value} {t:TypeId} {fr:Nat × Nat} (h:w.heap[b]?=some (.cells cs t fr)):cs.size ≤ allM w m b:=by
 unfold allM
 rw [h]
 simp only
 split <;> omega
def lent (g:Gh) (w:World):Gh:={ m:=allM w g.m,o:=g.o }
section
variable {α:Type} [GoT α] {i:Nat} {g g':Gh} {w w':World} {t:TypeId} {x:α} {xs:List α} {p v:Value}
end
section
variable {P:Program} {e:Env} {w:World} {g:Gh} {K:Value→World→Prop} {x y z:Operand}
theorem unlend {g:Gh} {w:World} {g1:Gh} {w':World} (hx:Ext (lent g w) w g1 w'):Ext g w { m:=fun b=>if b < w.heap.size then g.m b else g1.m b,o:=g1.o } w':=
 ⟨hx.below,fun b hb=>by simp [hb],hx.o⟩
theorem D_callGF {f : FuncId} {xs : List Operand} {vs : List Value} {ats : Array TypeId} {R : Gh → World → Value → Prop} (hent : Enters P f) (ha : Args e xs vs)
  (hc:FnG P f vs.toArray (lent g w) w R) (h:∀ g1 w' v,Ext (lent g w) w g1 w'→R g1 w' v→K v w'):Doe P (.call { callee:=.value (.func f),args:=xs.toArray,argTypes:=ats }) e w K:=
 Vj (g:=lent g w) hent ha hc h
end

/-! ### Maps that are only read -/
section
variable {κ ν:Type} [GoT ν] {enc:κ→Value}
def MR (enc:κ→Value) (g:Gh) (w:World) (m:List (κ × ν)) (v:Value):Prop:=(v=.map none∧m=[]) ∨ ∃ i,MP enc i g w m v
def MQ (enc:κ→Value) (n:Nat) (g:Gh) (w:World) (m:List (κ × ν)) (v:Value):Prop:=(v=.map none∧m=[]) ∨ (MP enc 0 g w m v∧∀ b,v=.map (some b)→b < n)
variable {g g':Gh} {w w':World} {m:List (κ × ν)} {v:Value} {i n:Nat}
theorem MR.nil:MR enc g w ([]:List (κ × ν)) (.map none):=.inl ⟨rfl,rfl⟩
theorem MP.r (h:MP enc i g w m v):MR enc g w m v:=.inr ⟨_,h⟩
theorem MQ.r (h:MQ enc n g w m v):MR enc g w m v:=h.imp id fun h=>⟨_,h.1⟩
theorem MP.lt {b:Nat} (h:MP enc i g w m (.map (some b))):b < w.heap.size:=by
 obtain ⟨b',es,cl,hv,_,hh,_⟩:=h
 injection hv with hv; injection hv with hv; subst hv
 exact Gg hh
theorem MQ.ext (h:MQ enc n g w m v) (k:Ext g w g' w'):MQ enc n g' w' m v:=h.imp id fun h=>⟨h.1.ext k,h.2⟩
theorem MQ.stp {j:Nat} (h:MQ enc n g w m v) (k:Stp (j + 1) g w g' w'):MQ enc n g' w' m v:=h.imp id fun h=>⟨h.1.stp k (by cases j <;> rfl),h.2⟩
variable {P:Program} {e:Env} {K:Value→World→Prop} {x y z:Operand} [DecidableEq κ]
end

/-! ### Cells of an array, by a number that varies -/
section
variable {β:Type} [GoT β] {n:Nat}
variable {P:Program} {e:Env} {w:World} {g:Gh} {K:Value→World→Prop} {a1:Operand}
end
/-! ### A pointer to an element, or nil -/
section
variable {P:Program} {e:Env} {x y:Operand}
end

/-! ### A variable that a draw makes and stores to -/
section
variable {α:Type} [GoT α] {i:Nat} {t2:TypeId} {a0 a1:α} {g g':Gh} {w w':World}
variable {P:Program} {N:Nat}
end

/-! ### A variable that holds an own slice -/
def BX {α:Type} [GoT α] (i j:Nat) (g:Gh) (w:World) (et bt:TypeId) (xs:List α) (p:Value):Prop:=∃ q:Fv,OB i g w bt q p∧OM j g w et xs q.v
section
variable {α:Type} [GoT α] {i j k:Nat} {g g':Gh} {w w':World} {et bt:TypeId} {xs:List α} {p:Value}
theorem BX.ext (h:BX i j g w et bt xs p) (hx:Ext g w g' w'):BX i j g' w' et bt xs p:=let ⟨q,h1,h2⟩:=h; ⟨q,h1.ext hx,h2.ext hx⟩
theorem BX.stp (h:BX i j g w et bt xs p) (hx:Stp k g w g' w') (h1:Nat.beq i k=false) (h2:Nat.beq j k=false:=by rfl):BX i j g' w' et bt xs p:=let ⟨q,k1,k2⟩:=h; ⟨q,k1.stp hx h1,k2.stp hx h2⟩
variable {P:Program} {e:Env} {K:Value→World→Prop} {x y:Operand}
end
section
variable {P:Program} {e:Env} {w:World} {g:Gh} {K:Value→World→Prop} {x y z:Operand}
end

/-! ### makeSlice, of structs too -/
section
variable {P:Program} {e:Env} {w:World} {g:Gh} {K:Value→World→Prop} {x y z:Operand}
end
/-! ### bits.Len of Il numbers -/
section
variable {P:Program} {e:Env} {x y:Operand}
end
end Go.Proofs.Ytplaipkjhlkjgaa
/- Steps of a walk under short names. No program is named here. -/
namespace Go.Proofs.Ytplaipkjhlkjgaa
open Go.RowKit
section
variable {P:Program} {N:Nat} {ro:Option Nat} {Q:Jp} {e:Env} {ds:List Deferred} {w:World} {ops:Array Oper} {rest:List Oper} {d:Option Tmp} {ty:TypeId} {pos:String} {af:Array Edge} {x y:Operand}
theorem Zo {v:Value} (hx:ev e x=v) (hd:okO N d=true) (h:EL P N ro ops rest Q (Qi e d v) ds w):EL P N ro ops (⟨d,.move x,ty,pos,af,none⟩ :: rest) Q e ds w:=
 Lv (Zk hx) .plain (by simpa [Xd] using hd) h
theorem EL_as {v:Value} (hx:ev e x=v) (hd:okO N d=true) (h:EL P N ro ops rest Q (Qi e d v) ds w):EL P N ro ops (⟨d,.assign x,ty,pos,af,none⟩ :: rest) Q e ds w:=
 Lv (Wd hx) .plain (by simpa [Xd] using hd) h
theorem Zn (v:Value) (hx:ev e x=v) (hd:okO N d=true) (h:EL P N ro ops rest Q (Qi e d v) ds w):EL P N ro ops (⟨d,.move x,ty,pos,af,none⟩ :: rest) Q e ds w:=Zo hx hd h
theorem Zg (v:Value) (hx:ev e x=v) (hd:okO N d=true) (h:EL P N ro ops rest Q (Qi e d v) ds w):EL P N ro ops (⟨d,.assign x,ty,pos,af,none⟩ :: rest) Q e ds w:=EL_as hx hd h
theorem Gp {op:BinOp} {t t2:TypeId} {m n:Int} (v:Value) (hx:ev e x=.int .i64 m) (hy:ev e y=.int .i64 n) (hv:iop op m n=some v) (hd:okO N d=true) (h:EL P N ro ops rest Q (Qi e d v) ds w):EL P N ro ops (⟨d,.binOp op t x y t2,ty,pos,af,none⟩ :: rest) Q e ds w:=
 Lv (Te hx hy hv) .plain (by simpa [Xd] using hd) h
theorem Tv {c:Operand} {a b:Code} {t:Bool} (ht:t=true) (hc:ev e c=.bool t) (h:E P N ro a Q e ds w):E P N ro (.cond c a b) Q e ds w:=Tt (hc.trans (congrArg Value.bool ht)) h
theorem Tu {c:Operand} {a b:Code} {t:Bool} (ht:t=false) (hc:ev e c=.bool t) (h:E P N ro b Q e ds w):E P N ro (.cond c a b) Q e ds w:=Td (hc.trans (congrArg Value.bool ht)) h
end
section
variable {SR:Hv} {P:Program} {N:Nat} {ops:Array Oper} {C:Ty} {Φ:Bf} {F:Nat→Ty} {Q:Env→Ty} {e:Env} {i:Nat} {l:List Nat} {ro:Option Nat} {R:Jp} {ds:List Deferred} {w:World} {rest:List Oper}
variable {op:Op} {ty:TypeId} {pos:String} {af:Array Edge} {gd:Option (Nat × Bool)} {d:Option Tmp} {j t:Nat} {b b' c':Bool}
theorem Gc (c : Value) (ho : ops[i]? = some ⟨d, op, ty, pos, af, none⟩) (hφ : Φ i = none) (hc : Pur P op e c)
  (k:Lex SR P ops C Φ Q l (Kd F i (fun g w=>∀ j ∈ Gs ⟨d,op,ty,pos,af,none⟩,F j g w)) (Qi e d c)) (hnl:SR.late i=false:=by rfl):Lex SR P ops C Φ Q (i :: l) F e:=
 L_pur (c:=c) ho hφ .plain (fun _ _ _=>hc) k hnl
theorem L_y (c : Value) (ho : ops[i]? = some ⟨d, op, ty, pos, af, some (j, b)⟩) (hφ : Φ i = none) (hd : (ops[j]?).bind (·.dst) = some t) (he : e t = .bool b') (hb : b' = b) (hc : Pur P op e c)
  (k:Lex SR P ops C Φ Q l (Kd F i (fun g w=>∀ j' ∈ Gs ⟨d,op,ty,pos,af,some (j,b)⟩,F j' g w)) (Qi e d c)) (hnl:SR.late i=false:=by rfl):Lex SR P ops C Φ Q (i :: l) F e:=
 L_pur (c:=c) ho hφ (.yes2 hd he hb) (fun _ _ _=>hc) k hnl
theorem L_s (ho:ops[i]?=some ⟨d,op,ty,pos,af,some (j,b)⟩) (hd:(ops[j]?).bind (·.dst)=some t) (he:e t=.bool b') (hb:b'=c') (hc:(c' == b)=false) (k:Lex SR P ops C Φ Q l (Kd F i (fun _ _=>True)) (Qi e d undef)):Lex SR P ops C Φ Q (i :: l) F e:=
 L_skip ho (.no2 hd he hb hc) k
theorem Vn (h:∀ g w,C g w→Q e g w):Lex SR P ops C Φ Q [] F e:=Xr fun g w ha=>h g w ha.1
theorem Zz (v:Value) (h1:Pur P op e v) (hd:(Xd op && okO N d)=true) (h:EL P N ro ops rest R (Qi e d v) ds w):EL P N ro ops (⟨d,op,ty,pos,af,none⟩ :: rest) R e ds w:=Lv h1 .plain hd h
theorem Ga (v:Value) (h1:Pur P op e v) (hd:(ops[j]?).bind (·.dst)=some t) (he:e t=.bool b') (hb:b'=b) (hd':(Xd op && okO N d)=true) (h:EL P N ro ops rest R (Qi e d v) ds w):EL P N ro ops (⟨d,op,ty,pos,af,some (j,b)⟩ :: rest) R e ds w:=Lv h1 (.yes2 hd he hb) hd' h
theorem Gb (hd:(ops[j]?).bind (·.dst)=some t) (he:e t=.bool b') (hb:b'=c') (hc:(c' == b)=false) (hd':okO N d=true) (h:EL P N ro ops rest R (Qi e d undef) ds w):EL P N ro ops (⟨d,op,ty,pos,af,some (j,b)⟩ :: rest) R e ds w:=Su (.no2 hd he hb hc) hd' h
end
section
variable {P:Program} {e:Env} {w:World} {g:Gh} {K:Value→World→Prop} {x y:Operand}
end
theorem sinj.{u} {α:Type u} {a b:α} (h:some a=some b):a=b:=Option.some.inj h
end Go.Proofs.Ytplaipkjhlkjgaa
