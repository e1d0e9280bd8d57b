/- Values that the function owns with all that they lead to: loads, stores, appends. No program is named here. -/
import Derived.Test.YtepehlhgkipcoaaGreatDoorOx
namespace Go.Proofs.YtepehlhgkipcoaaGreatDoor
open Go.RowKit

theorem Y3 {α:Type} {ys:List α} {i:Int} {y:α} (h:idx ys i=some y):ys.set i.toNat y=ys:=by
 obtain ⟨_,h⟩:=Wh h
 obtain ⟨hl,rfl⟩:=List.getElem?_eq_some_iff.1 h
 exact List.set_getElem_self hl
theorem Kc {α:Type} {ys:List α} {i:Int} {y:α} (h:idx ys i=some y):0 ≤ i∧i.toNat < ys.length:=by
 obtain ⟨h0,h⟩:=Wh h
 exact ⟨h0,(List.getElem?_eq_some_iff.1 h).1⟩
section
variable {α β γ : Type} [GoT α] [GoT β] [GoT γ] {A : Ow α} {B : Ow β} {E : Ow γ} {P : Program} {e : Env} {w : World} {g : Gh} {K : Value → World → Prop} {x y z : Operand}
 {i j b b1 off:Nat} {t t2:TypeId} {a:α} {s:A.S}
theorem OV.slice {et : TypeId} {st : List γ → α} {put : (Ow.list et E).S → A.S} {ys : List γ} {s' : (Ow.list et E).S} (h : OV A i g w t2 a b s) (c : Cxt A b (Ow.list et E) st b1 off put) (hx : st ys = a) (hs : put s' = s) (ho : (Ow.list et E).ok s') :
  (∃ ad cap,C2 s' ys.length=.slice ad ys.length cap)∧∀ {k:Int} {v:γ},idx ys k=some v→∃ bb cc ss,s'=.at bb cc ss∧ss.length=ys.length:=by
 subst hx; subst hs
 obtain ⟨carr,et',cs,h1,h2,h3⟩:=c.rd h.loc
 cases s' with
 | nil=>exact ⟨⟨none,0,by rw [h2.1]; rfl⟩,fun hi=>by rw [h2.1] at hi; exact (J8 hi).elim⟩
 | hole=>exact ho.elim
 | sh=>exact ho.elim
 | «at» bb cc ss=>
  obtain ⟨_,_,_,carr2,_,_,h4⟩:=h2
  have hl:=h4.len
  refine ⟨⟨_,_,rfl⟩,fun _=>⟨bb,cc,ss,rfl,?_⟩⟩
  have e:=hl.1; exact e
theorem Dg.cellsAt {s:B.S} {m:Nat→Nat} {u:β} (h:Dg B s m w b1 off u):∃ carr et cs,w.heap[b1]?=some (.cells carr et (0,0))∧B.ow s m w u cs∧∀ j c,cs[j]?=some c→w.cell? ⟨b1,off + j,none⟩=some c:=by
 obtain ⟨carr,et,cs,h1,h2,h3⟩:=h
 exact ⟨carr,et,cs,h1,h2,fun j c hj=>by simpa [World.cell?,h1] using h3 j c hj⟩
def Lat (i:Nat) (g0:Gh) (w0:World) (g:Gh) (w:World):Prop:=Ch g0.m w0 g.m w∧∀ b,b < w0.heap.size→g0.o b=i→w.heap[b]?=w0.heap[b]?
theorem OV.late {g0:Gh} {w0:World} (h:OV A i g0 w0 t2 a b s) (k:Lat i g0 w0 g w):Dg A s g.m w b 0 a:=by
 obtain ⟨cs,h1,h2,h3,h4,h5,h6⟩:=h
 exact ⟨cs,t2,_,(k.2 b (Gg h3) h1).trans h3,A.mono k.1 (fun c hc=>k.2 c (A.lt h4 c hc) (h6 c hc).1) h4,fun j v hj=>by rw [Nat.zero_add]; simpa using hj⟩
theorem Ek {g0 : Gh} {w0 : World} {st : β → α} {put : Unit → A.S} {u : β} {Kp : Prop} (c : Cxt A b (Ow.sh β) st b1 off put) (hx : st u = a) (hs : put () = s) (ha : ∀ w, (isAgg t).run P w = .ok (GoT.agg β) w) (hsz : ∀ w, (sizeOf t).run P w = .ok (GoT.k β) w) (h : OV A i g0 w0 t2 a b s)
  (k:∀ v,RV g0.m w0 u v→(∀ (e:Env) (g:Gh) (w:World),(Ch g0.m w0 g.m w∧∀ b,b < w0.heap.size→g0.o b=i→w.heap[b]?=w0.heap[b]?)→ev e x=.pointer (some ⟨b1,off,none⟩)→∀ d ty pos af gd,(execOp (ev e) ⟨d,.load t x,ty,pos,af,gd⟩).run P w=.ok (.value v) w)→Kp):Kp:=by
 subst hx; subst hs
 obtain ⟨carr,et,cs,h1,h2,h3⟩:=c.rd h.loc
 have h2:GoT.rep g0.m w0 u cs:=h2
 refine k (toV (GoT.agg β) cs) ⟨cs,h2,rfl⟩ fun e g w hl he d ty pos af gd=>?_
 obtain ⟨carr',et',cs',g1,g2,g3⟩:=c.rd (h.late hl)
 have g2:GoT.rep g.m w u cs':=g2
 have hblk:w.heap[b1]?=w0.heap[b1]?:=by
  obtain ⟨_,q1,_,q3,q4,_,q6⟩:=h
  rcases c.mem () with e1 | e1
  ·rw [e1]; exact hl.2 b (Gg q3) q1
  ·exact hl.2 b1 (Gg h1) (q6 b1 e1).1
 rw [hblk,h1] at g1
 injection g1 with g1; injection g1 with g1 _; subst g1
 have hcs:cs'=cs:=by
  have e1:=GoT.len h2; have e2:=GoT.len g2
  refine List.ext_getElem (by omega) fun j q1 q2=>?_
  have a1:=h3 j _ (List.getElem?_eq_getElem q2)
  have a2:=g3 j _ (List.getElem?_eq_getElem q1)
  rw [a1] at a2; exact (Option.some.inj a2).symm
 subst hcs
 have hcell:∀ j c,cs'[j]?=some c→w.cell? ⟨b1,off + j,none⟩=some c:=fun j c hj=>by
  have:=h3 j c hj
  simp only [World.cell?,hblk,h1]; simpa using this
 simp [execOp,he,Instr.loadAt,Instr.sureAddr,Qw ha hsz g2 hcell]
theorem loc_hdr {et:TypeId} {m:Nat→Nat} {s':(Ow.list et E).S} {ys:List γ} (h:Dg (Ow.list et E) s' m w b1 off ys) (hok:(Ow.list et E).ok s'):w.cell? ⟨b1,off,none⟩=some (C2 s' ys.length):=by
 obtain ⟨carr,et',cs,h1,h2,h3⟩:=h.cellsAt
 cases s' with
 | nil=>have:=h3 0 _ (by rw [h2.2]; rfl); rw [h2.1]; exact this
 | hole=>exact hok.elim
 | sh=>exact hok.elim
 | «at» bb cc ss=>exact h3 0 _ (by rw [h2.1]; rfl)
theorem Bd {t:TypeId} {v:Value} (ha:∀ w,(isAgg t).run P w=.ok false w) (h:w.cell? ⟨b1,off,none⟩=some v):(loadVar t ⟨b1,off,none⟩).run P w=.ok v w:=by
 unfold loadVar
 simp [Sem.run_bind,ha,Result.andThen,run_load,h]
theorem Me {g0 : Gh} {w0 : World} {et : TypeId} {st : List γ → α} {put : (Ow.list et E).S → A.S} {ys : List γ} {s' : (Ow.list et E).S} {Kp : Prop} (c : Cxt A b (Ow.list et E) st b1 off put) (hx : st ys = a) (hs : put s' = s) (ho : (Ow.list et E).ok s') (ha : ∀ w, (isAgg t).run P w = .ok false w) (h : OV A i g0 w0 t2 a b s)
  (k:(∀ (e:Env) (g:Gh) (w:World),(Ch g0.m w0 g.m w∧∀ b,b < w0.heap.size→g0.o b=i→w.heap[b]?=w0.heap[b]?)→ev e x=.pointer (some ⟨b1,off,none⟩)→∀ d ty pos af gd,(execOp (ev e) ⟨d,.load t x,ty,pos,af,gd⟩).run P w=.ok (.value (C2 s' ys.length)) w)→Kp):Kp:=by
 subst hx; subst hs
 exact k fun e g w hl he d ty pos af gd=>by
  simp [execOp,he,Instr.loadAt,Instr.sureAddr,Bd ha (loc_hdr (c.rd (h.late hl)) ho)]
theorem Nq {et : TypeId} {v : Value} {n : Nat} (ht : P.underlying t = some (.slice et)) (hx : ev e x = v) (hv : ∃ ad c, v = .slice ad n c) :
  Pur P (.call { callee:=.builtin .len,args:=#[x],argTypes:=#[t] }) e (.int .i64 (n:Int)):=fun _ _ _ _ _ _=>by
 obtain ⟨ad,c,rfl⟩:=hv
 simp [execOp,resolve,invoke,builtin,Builtin.len_,hx,run_underlying ht,goInt]
theorem Lo {et:TypeId} {bb n c kk:Nat} {k:IntKind} {i:Int} (ht:P.underlying t=some (.slice et)) (hsz:∀ w,(sizeOf et).run P w=.ok kk w) (hx:ev e x=.slice (some ⟨bb,0,none⟩) n c) (hy:ev e y=.int k i) (hi:0 ≤ i∧i.toNat < n):Pur P (.indexAddr t x y) e (.pointer (some ⟨bb,i.toNat * kk,none⟩)):=fun _ _ _ _ _ w'=>by
 have hl:i < (n:Int):=by omega
 simp [execOp,hx,hy,Instr.indexAt,asIntOf,Sem.run_bind,run_underlying ht,Result.andThen,hi.1,hl,hsz,Wa]
theorem OV.wr {st : β → α} {put : B.S → A.S} {u u' : β} {s1 s2 : B.S} {g' : Gh} {w' : World} (h : OV A i g w t2 (st u) b (put s1)) (c : Cxt A b B st b1 off put) (hl : Dg B s2 g'.m w' b1 off u') (hch : Ch g.m w g'.m w')
  (hb:∀ c,c=b ∨ c ∈ A.bl (put s1)→c ≠ b1→c ∉ B.bl s1→w'.heap[c]?=w.heap[c]?) (hk:Ck w w' b1 off (GoT.k β)) (hn:(B.bl s2).Nodup) (hs2:∀ c ∈ B.bl s2,c ∈ B.bl s1 ∨ (c ≠ b∧c ∉ A.bl (put s1)))
  (ht:∀ c,c=b ∨ c ∈ A.bl (put s1) ∨ c ∈ B.bl s2→c=b ∨ c ∈ A.bl (put s2)→g'.o c=i∧g'.m c=0):OV A i g' w' t2 (st u') b (put s2):=by
 obtain ⟨cs,h1,h2,h3,h4,h5,h6⟩:=h
 have hloc:Dg A (put s1) g.m w b 0 (st u):=OV.loc (i:=i) (t:=t2) ⟨cs,h1,h2,h3,h4,h5,h6⟩
 obtain ⟨q1,q2⟩:=c.bl h5 hn hs2
 obtain ⟨carr,et,cs',r1,r2,r3⟩:=c.wr hloc h5 hl hch hb hk
 have hblk:∃ carr',w'.heap[b]?=some (.cells carr' t2 (0,0))∧carr'.size=cs.size:=by
  by_cases hbb:b1=b
  ·subst hbb
   obtain ⟨carr',k1,k2,_⟩:=hk cs t2 h3
   exact ⟨carr',k1,k2⟩
  ·by_cases hbn : b ∈ B.bl s1
   ·exact absurd (c.sub hbn) (List.nodup_cons.1 h5).1
   ·exact ⟨cs,(hb b (.inl rfl) (Ne.symm hbb) hbn).trans h3,rfl⟩
 obtain ⟨carr',k1,k2⟩:=hblk
 rw [k1] at r1
 injection r1 with r1; injection r1 with r1 r4; subst r1; subst r4
 have e1:=A.len h4; have e2:=A.len r2
 have hcs:carr'.toList=cs':=by
  refine List.ext_getElem (by rw [Array.length_toList] at e1 ⊢; omega) fun j a1 a2=>?_
  have:=r3 j _ (List.getElem?_eq_getElem a2)
  rw [Nat.zero_add] at this
  have a3:j < carr'.size:=by simpa using a1
  rw [Array.getElem?_eq_getElem a3] at this
  simpa using Option.some.inj this
 have hb0:=ht b (.inl rfl) (.inl rfl)
 exact ⟨carr',hb0.1,hb0.2,k1,hcs ▸ r2,q1,fun c hc=>ht c ((q2 c hc).elim (fun h=>.inr (.inl h)) fun h=>.inr (.inr h)) (.inr hc)⟩
theorem Ea {w : World} {b : Nat} {carr : Array Value} {et : TypeId} {off : Nat} {cz : List Value} (hh : w.heap[b]? = some (.cells carr et (0, 0))) (hl : off + cz.length ≤ carr.size) :
  Ck w (w.setRow b (carr.toList.take off ++ cz ++ carr.toList.drop (off + cz.length)).toArray) b off cz.length∧∀ j v,cz[j]?=some v→(carr.toList.take off ++ cz ++ carr.toList.drop (off + cz.length)).toArray[off + j]?=some v:=by
 have e1:(carr.toList.take off).length=off:=by rw [List.length_take,Array.length_toList]; omega
 have e2:carr.toList.length=carr.size:=Array.length_toList
 refine ⟨fun c2 t2 h2=>?_,fun j v hj=>?_⟩
 ·rw [hh] at h2; injection h2 with h2; injection h2 with q1 q2; subst q1; subst q2
  refine ⟨_,T9 _ _ hh,?_,fun j hj=>?_⟩
  ·rw [List.size_toArray,List.length_append,List.length_append,e1,List.length_drop,e2]; omega
  ·rw [List.getElem?_toArray, List.append_assoc]
   rcases hj with hj | hj
   ·rw [List.getElem?_append_left (by omega),List.getElem?_take,if_pos hj]; simp
   ·rw [List.getElem?_append_right (by omega), List.getElem?_append_right (by omega), List.getElem?_drop, e1]
    rw [show off + cz.length + (j - off - cz.length)=j by omega]; simp
 ·have hjl := (List.getElem?_eq_some_iff.1 hj).1
  rw [List.getElem?_toArray,List.append_assoc,List.getElem?_append_right (by omega),e1,Nat.add_sub_cancel_left,List.getElem?_append_left hjl,hj]
theorem N9 {s:B.S} {m:Nat→Nat} {u:β} (h:Dg B s m w b1 off u) (hk:0 < GoT.k β):∃ carr et,w.heap[b1]?=some (.cells carr et (0,0))∧off + GoT.k β ≤ carr.size:=by
 obtain ⟨carr,et,cs,h1,h2,h3⟩:=h
 have e:=B.len h2
 refine ⟨carr,et,h1,?_⟩
 have:=h3 (GoT.k β - 1) _ (List.getElem?_eq_getElem (by omega))
 have:=(Array.getElem?_eq_some_iff.1 this).1
 omega
theorem R9 {st : β → α} {put : Unit → A.S} {u u' : β} {v : Value} (c : Cxt A b (Ow.sh β) st b1 off put) (hx : st u = a) (hs : put () = s) (hsz : ∀ w, (sizeOf t).run P w = .ok (GoT.k β) w) (hp : ev e x = .pointer (some ⟨b1, off, none⟩)) (h : OV A i g w t2 a b s) (hy : ev e y = v) (hv : RV g.m w u' v)
  (k:∀ g' w',Stp i g w g' w'→OV A i g' w' t2 (st u') b s→K undef w') (hk:0 < GoT.k β:=by decide):Doe P (.store t x y) e w K:=fun d ty pos af gd=>by
 subst hx; subst hs
 obtain ⟨carr,et,h1,h2⟩:=N9 (c.rd h.loc) hk
 have hvs:=G4 hv
 have hvl:v.cells.toList.length=GoT.k β:=by simpa using hvs
 have hrun:=W7 (P:=P) (t:=t) (v:=v) (b:=b1) (o:=off) (by rw [hvs]; exact hsz) h1 (by omega) (GoT.one hv.cells)
 obtain ⟨q1,q2⟩:=Ea (cz:=v.cells.toList) h1 (by rw [hvl]; exact h2)
 rw [hvl] at q1 q2
 rw [hvs] at hrun
 generalize (carr.toList.take off ++ v.cells.toList ++ carr.toList.drop (off + GoT.k β)).toArray=row at hrun q1 q2
 obtain ⟨cs0,p1,p2,p3,p4,p5,p6⟩:=h
 have hob:g.o b1=i∧g.m b1=0:=by
  rcases c.mem () with e1 | e1
  ·rw [e1]; exact ⟨p1,p2⟩
  ·exact p6 b1 e1
 have hstp:Stp i g w g (w.setRow b1 row):=Uv h1 hob.1 (fun j hj=>by rw [hob.2] at hj; omega)
 have hrun2:(execOp (ev e) ⟨d,.store t x y,ty,pos,af,gd⟩).run P w=.ok .skip (w.setRow b1 row):=by
  simp [execOp,hp,hy,Instr.storeAt,Instr.sureAddr,Result.andThen,hrun]
 unfold doE; rw [hrun2]
 refine k g _ hstp (OV.wr (s1:=()) (s2:=()) ⟨cs0,p1,p2,p3,p4,p5,p6⟩ c ⟨row,et,v.cells.toList,T9 _ _ h1,GoT.mono hstp.ch hv.cells,q2⟩ hstp.ch (fun c _ hne _=>Qk b1 row hne) q1 List.nodup_nil (fun _ h=>by cases h) fun c _ hc=>?_)
 rcases hc with e1 | e1
 ·rw [e1]; exact ⟨p1,p2⟩
 ·exact p6 c e1
theorem Na {α : Type} [GoT α] {A : Ow α} {i j : Nat} {t t2 : TypeId} {p v : Value} {a a' : α} {s : A.S} (hsz : ∀ w, (sizeOf t).run P w = .ok (GoT.k α) w) (hx : ev e x = p) (hp : OB i g w t2 a p) (hy : ev e y = v) (hv : OW A j g w a' s v) (hij : Nat.beq j i = false)
  (h:∀ g1 g' w' b,Stp j g w g1 w→Stp i g1 w g' w'→p=.pointer (some ⟨b,0,none⟩)→OV A i g' w' t2 a' b s→K undef w'):Doe P (.store t x y) e w K:=fun d ty pos af gd=>by
 have hji:j ≠ i:=fun e=>by rw [e] at hij; simp at hij
 obtain ⟨b,cs,rfl,ho,hm,hh,hr⟩:=hp
 have hvc:=hv.cells
 have hvl:=A.len hvc
 have hvs:v.cells.size=GoT.k α:=by simpa using hvl
 have hl:=GoT.len hr
 have hrow:cs.toList.take 0 ++ v.cells.toList ++ cs.toList.drop (0 + v.cells.size)=v.cells.toList:=by
  rw [List.take_zero,List.nil_append,List.drop_of_length_le (by simp at hl; simp; omega),List.append_nil]
 have hrun:=W7 (P:=P) (t:=t) (v:=v) (b:=b) (o:=0) (by rw [hvs]; exact hsz) hh (by simp at hl; omega) (A.one hvc)
 rw [hrow] at hrun
 obtain ⟨csv,v1,v2,v3,v4⟩:=hv
 have hnb:b ∉ A.bl s:=fun hb=>hji ((v4 b hb).1.symm.trans ho)
 have hst1:Stp j g w (Mt (A.bl s) i g) w:=F4 (fun c hc=>(v4 c hc).1) i
 have hob:(Mt (A.bl s) i g).o b=i:=by show (if _ then _ else _)=_; rw [if_neg hnb]; exact ho
 have hstp:Stp i (Mt (A.bl s) i g) w (Mt (A.bl s) i g) (w.setRow b v.cells.toList.toArray):=Uv hh hob (fun j hj=>by have:j < g.m b:=hj; rw [hm] at this; omega)
 have hrun2:(execOp (ev e) ⟨d,.store t x y,ty,pos,af,gd⟩).run P w=.ok .skip (w.setRow b v.cells.toList.toArray):=by
  simp [execOp,hx,hy,Instr.storeAt,Instr.sureAddr,Result.andThen,hrun]
 unfold doE; rw [hrun2]
 refine h _ _ _ b hst1 hstp rfl ⟨_,hob,hm,T9 _ _ hh,?_,List.nodup_cons.2 ⟨hnb,v3⟩,fun c hc=>⟨if_pos hc,(v4 c hc).2⟩⟩
 have:=A.mono hstp.ch (fun c hc=>Qk b v.cells.toList.toArray (fun e1=>hnb (e1 ▸ hc))) hvc
 simpa using this
theorem OV.take {et : TypeId} {st : List γ → α} {put : (Ow.list et E).S → A.S} {ys : List γ} {s' : (Ow.list et E).S} (h : OV A i g w t2 a b s) (c : Cxt A b (Ow.list et E) st b1 off put) (hx : st ys = a) (hs : put s' = s) (ho : (Ow.list et E).ok s') (j : Nat) (hij : Nat.beq i j = false) :
  ∃ g',Stp i g w g' w∧OV A i g' w t2 (st []) b (put .hole)∧OW (Ow.list et E) j g' w ys s' (C2 s' ys.length):=by
 subst hx; subst hs
 have hne:i ≠ j:=fun e=>by rw [e] at hij; simp at hij
 obtain ⟨cs0,p1,p2,p3,p4,p5,p6⟩:=h
 have hloc:Dg A (put s') g.m w b 0 (st ys):=OV.loc (i:=i) (t:=t2) ⟨cs0,p1,p2,p3,p4,p5,p6⟩
 have hl:=c.rd hloc
 obtain ⟨carr,et',cs,h1,h2,h3⟩:=hl
 obtain ⟨o1,o2⟩:=c.out p5
 have hsub:∀ x ∈ (Ow.list et E).bl s',g.o x=i∧g.m x=0:=fun x hx=>p6 x (c.sub hx)
 have hv:cs=[C2 s' ys.length]:=by
  cases s' with
  | nil=>rw [h2.2]; rfl
  | hole=>exact ho.elim
  | sh=>exact ho.elim
  | «at» bb cc ss=>exact h2.1
 have hone:=(Ow.list et E).one h2 (C2 s' ys.length) (by rw [hv]; simp)
 refine ⟨Mt ((Ow.list et E).bl s') j g,F4 (fun c hc=>(hsub c hc).1) j,?_,⟨cs,by rw [hv]; rfl,h2,o2,fun x hx=>⟨if_pos hx,(hsub x hx).2⟩⟩⟩
 have hnot:∀ x,x=b ∨ x ∈ A.bl (put (.hole:Sl E.S))→x ∉ (Ow.list et E).bl s':=by
  intro x hx hb
  rcases hx with e1 | e1
  ·exact (List.nodup_cons.1 p5).1 (e1 ▸ c.sub hb)
  ·exact c.sep (s':=.hole) p5 hb (fun h=>by cases h) e1
 refine OV.wr (g:=g) (s1:=s') (s2:=.hole) ⟨cs0,p1,p2,p3,p4,p5,p6⟩ c ⟨carr,et',cs,h1,⟨rfl,_,hv,hone⟩,h3⟩ (Ch.refl _ _) (fun _ _ _ _=>rfl) (fun ca ea hca=>⟨ca,hca,rfl,fun _ _=>rfl⟩) List.nodup_nil (fun _ h=>by cases h) fun x hx hx2=>?_
 have hn:=hnot x hx2
 have:g.o x=i∧g.m x=0:=by
  rcases hx with e1 | e1 | e1
  ·rw [e1]; exact ⟨p1,p2⟩
  ·exact p6 x e1
  ·cases e1
 exact ⟨by show (if _ then _ else _)=_; rw [if_neg hn]; exact this.1,this.2⟩
theorem OV.toOB (h:OV A i g w t2 a b s) (hok:A.ok s):∃ g',Stp i g w g' w∧OB i g' w t2 a (.pointer (some ⟨b,0,none⟩)):=by
 obtain ⟨cs,p1,p2,p3,p4,p5,p6⟩:=h
 obtain ⟨q1,_⟩:=List.nodup_cons.1 p5
 have hle:∀ c,g.m c ≤ (if c ∈ A.bl s then (if g.m c < Pv w c then Pv w c else g.m c) else g.m c):=fun c=>by
  split
  ·split <;> omega
  ·exact Nat.le_refl _
 refine ⟨{ m:=fun c=>if c ∈ A.bl s then (if g.m c < Pv w c then Pv w c else g.m c) else g.m c,o:=g.o },⟨rfl,rfl,rfl,ch_up hle,fun _ _ _=>rfl,fun c _ hn=>?_,fun _ _ _=>rfl⟩,b,cs,rfl,p1,?_,p3,A.pub p4 hok hle fun c hc=>?_⟩
 ·show (if _ then _ else _)=_; rw [if_neg fun h=>hn (p6 c h).1]
 ·show (if _ then _ else _)=_; rw [if_neg q1]; exact p2
 ·show _ ≤ if _ then _ else _; rw [if_pos hc]; split <;> omega
theorem ok_at {et:TypeId} {s':(Ow.list et E).S} {bb cc:Nat} {ss:List E.S} {k:Nat} (ho:(Ow.list et E).ok s') (h:s'=.at bb cc ss) (hk:k < ss.length):E.ok (ss.getD k E.df):=by
 subst h
 rw [List.getD_eq_getElem?_getD,List.getElem?_eq_getElem hk]
 exact (show ∀ s ∈ ss,E.ok s from ho) _ (List.getElem_mem hk)
def AL (i:Nat) (g:Gh) (w:World) (b:Nat) (v:Value):Prop:=∃ cs t,g.o b=i∧w.heap[b]?=some (.cells cs t (0,0))∧v=.agg cs
theorem AL.ext {g':Gh} {w':World} {v:Value} (h:AL i g w b v) (k:Ext g w g' w'):AL i g' w' b v:=by
 obtain ⟨cs,t,h1,h2,h3⟩:=h
 exact ⟨cs,t,(k.o b (Gg h2)).trans h1,(k.below.block b (Gg h2)).trans h2,h3⟩
end
end Go.Proofs.YtepehlhgkipcoaaGreatDoor
