/- Values that the function owns with all that they lead to: laws for operations. No program is named here. -/
import Derived.Test.YtmpjooneiaiffaaOw
namespace Go.Proofs.Ytmpjooneiaiffaa
open Go.RowKit

def OV {α:Type} [GoT α] (A:Ow α) (i:Nat) (g:Gh) (w:World) (t:TypeId) (x:α) (b:Nat) (s:A.S):Prop:=
 ∃ cs,g.o b=i∧g.m b=0∧w.heap[b]?=some (.cells cs t (0,0))∧A.ow s g.m w x cs.toList∧(b :: A.bl s).Nodup∧∀ c ∈ A.bl s,g.o c=i∧g.m c=0
def OW {α:Type} [GoT α] (A:Ow α) (i:Nat) (g:Gh) (w:World) (x:α) (s:A.S) (v:Value):Prop:=
 ∃ cs,v=toV (GoT.agg α) cs∧A.ow s g.m w x cs∧(A.bl s).Nodup∧∀ c ∈ A.bl s,g.o c=i∧g.m c=0
def OWx {α:Type} [GoT α] (A:Ow α) (i:Nat) (g:Gh) (w:World) (x:α) (v:Value):Prop:=∃ s,OW A i g w x s v∧A.ok s
section
variable {α β γ:Type} [GoT α] [GoT β] [GoT γ] {A:Ow α} {B:Ow β} {i j b:Nat} {g g':Gh} {w w':World} {t:TypeId} {x:α} {s:A.S} {v:Value}
theorem OV.ext (h:OV A i g w t x b s) (k:Ext g w g' w'):OV A i g' w' t x b s:=by
 obtain ⟨cs,h1,h2,h3,h4,h5,h6⟩:=h
 have hb:=lt_of_heap h3
 exact ⟨cs,(k.o b hb).trans h1,(k.m b hb).trans h2,(k.below.block b hb).trans h3,A.mono k.ch (fun c hc=>k.below.block c (A.lt h4 c hc)) h4,h5,fun c hc=>⟨(k.o c (A.lt h4 c hc)).trans (h6 c hc).1,(k.m c (A.lt h4 c hc)).trans (h6 c hc).2⟩⟩
theorem OV.stp (h:OV A i g w t x b s) (k:Stp j g w g' w') (hne:Nat.beq i j=false):OV A i g' w' t x b s:=by
 have hij:i ≠ j:=fun e=>by rw [e] at hne; simp at hne
 obtain ⟨cs,h1,h2,h3,h4,h5,h6⟩:=h
 have hb:=lt_of_heap h3
 have hn:∀ c,g.o c=i→g.o c ≠ j:=fun c e=>by rw [e]; exact hij
 exact ⟨cs,(k.o b hb (hn b h1)).trans h1,(k.m b hb (hn b h1)).trans h2,(k.block b hb (hn b h1)).trans h3,A.mono k.ch (fun c hc=>k.block c (A.lt h4 c hc) (hn c (h6 c hc).1)) h4,h5,fun c hc=>⟨(k.o c (A.lt h4 c hc) (hn c (h6 c hc).1)).trans (h6 c hc).1,(k.m c (A.lt h4 c hc) (hn c (h6 c hc).1)).trans (h6 c hc).2⟩⟩
theorem OW.ext (h:OW A i g w x s v) (k:Ext g w g' w'):OW A i g' w' x s v:=by
 obtain ⟨cs,h1,h4,h5,h6⟩:=h
 exact ⟨cs,h1,A.mono k.ch (fun c hc=>k.below.block c (A.lt h4 c hc)) h4,h5,fun c hc=>⟨(k.o c (A.lt h4 c hc)).trans (h6 c hc).1,(k.m c (A.lt h4 c hc)).trans (h6 c hc).2⟩⟩
theorem OW.stp (h:OW A i g w x s v) (k:Stp j g w g' w') (hne:Nat.beq i j=false):OW A i g' w' x s v:=by
 have hij:i ≠ j:=fun e=>by rw [e] at hne; simp at hne
 obtain ⟨cs,h1,h4,h5,h6⟩:=h
 have hn:∀ c,g.o c=i→g.o c ≠ j:=fun c e=>by rw [e]; exact hij
 exact ⟨cs,h1,A.mono k.ch (fun c hc=>k.block c (A.lt h4 c hc) (hn c (h6 c hc).1)) h4,h5,fun c hc=>⟨(k.o c (A.lt h4 c hc) (hn c (h6 c hc).1)).trans (h6 c hc).1,(k.m c (A.lt h4 c hc) (hn c (h6 c hc).1)).trans (h6 c hc).2⟩⟩
theorem OWx.ext (h:OWx A i g w x v) (k:Ext g w g' w'):OWx A i g' w' x v:=let ⟨s,h1,h2⟩:=h; ⟨s,h1.ext k,h2⟩
theorem OWx.stp (h:OWx A i g w x v) (k:Stp j g w g' w') (hne:Nat.beq i j=false:=by rfl):OWx A i g' w' x v:=let ⟨s,h1,h2⟩:=h; ⟨s,h1.stp k hne,h2⟩
theorem OV.loc (h:OV A i g w t x b s):LocR A s g.m w b 0 x:=by
 obtain ⟨cs,h1,h2,h3,h4,h5,h6⟩:=h
 exact ⟨cs,t,_,h3,h4,fun j v hj=>by rw [Nat.zero_add]; simpa using hj⟩
theorem OW.cells (h:OW A i g w x s v):A.ow s g.m w x v.cells.toList:=by
 obtain ⟨cs,rfl,h4,_⟩:=h
 cases ha:GoT.agg α with
 | true=>simpa [toV,Value.cells] using h4
 | false=>
  have hk:=A.len h4
  rw [GoT.k1 ha] at hk
  match cs,hk with
  | [c],_=>
   have h0:=A.one h4 c (by simp)
   simp only [toV,cond_false,List.headD_cons,oneCell_cells h0]
   exact h4
/-! ### Published, lent -/
/-! ### Tags change -/
def retB (bs:List Nat) (i:Nat) (g:Gh):Gh:={ m:=g.m,o:=fun c=>if c ∈ bs then i else g.o c }
theorem retB_stp {bs:List Nat} (h:∀ c ∈ bs,g.o c=j) (i:Nat):Stp j g w (retB bs i g) w:=
 ⟨rfl,rfl,rfl,Ch.refl _ _,fun _ _ _=>rfl,fun _ _ _=>rfl,fun c _ hn=>by show (if c ∈ bs then i else g.o c)=g.o c; rw [if_neg fun hc=>hn (h c hc)]⟩
theorem OW.retag (h:OW A j g w x s v) (i:Nat):∃ g',Stp j g w g' w∧g'.m=g.m∧OW A i g' w x s v:=by
 obtain ⟨cs,h1,h4,h5,h6⟩:=h
 exact ⟨retB (A.bl s) i g,retB_stp (fun c hc=>(h6 c hc).1) i,rfl,cs,h1,h4,h5,fun c hc=>⟨if_pos hc,(h6 c hc).2⟩⟩
theorem OW.hand {g0:Gh} {w0:World} {k:Nat} (hfr:Fr g0 w0 g w) (h:OW A (k + 1) g w x s v) (hok:A.ok s):∃ g',Ext g0 w0 g' w∧g'.m=g.m∧OWx A i g' w x v:=by
 obtain ⟨cs,h1,h4,h5,h6⟩:=h
 have hnew:∀ c ∈ A.bl s,¬ c < w0.heap.size:=fun c hc hlt=>by have:=hfr.o c hlt; have:=(h6 c hc).1; omega
 refine ⟨{ m:=g.m,o:=fun c=>if c < w0.heap.size then g0.o c else if c ∈ A.bl s then i else 0 },⟨hfr.below,hfr.m,fun c hc=>by simp [hc]⟩,rfl,s,⟨cs,h1,h4,h5,fun c hc=>⟨?_,(h6 c hc).2⟩⟩,hok⟩
 show (if _ then _ else _)=_
 rw [if_neg (hnew c hc),if_pos hc]
/-! ### Slices -/
def hdrV {σ:Type} (s:Sl σ) (n:Nat):Value:=match s with | .at b c _=>.slice (some ⟨b,0,none⟩) n c | .nil=>.slice none 0 0 | _=>undef
theorem hdr_at {σ:Type} {s:Sl σ} {b c:Nat} {ss:List σ} (h:s=.at b c ss) (n:Nat):hdrV s n=.slice (some ⟨b,0,none⟩) n c:=by subst h; rfl
theorem flat_rows {m : Nat → Nat} {w : World} : ∀ {xs : List α} {cs : List Value}, FlatR m w xs cs → Rows (Ow.sh α) m w (List.replicate xs.length ()) xs cs
 | [],_,h=>⟨rfl,h⟩
 | _ :: _,_,⟨c1,c2,h2,h3,h4⟩=>by subst h2; exact ⟨_,_,c1,c2,rfl,rfl,h3,flat_rows h4⟩
end
end Go.Proofs.Ytmpjooneiaiffaa
/- Values that the function owns with all that they lead to: loads, stores, appends. No program is named here. -/
namespace Go.Proofs.Ytmpjooneiaiffaa
open Go.RowKit

theorem set_idx {α:Type} {ys:List α} {i:Int} {y:α} (h:idx ys i=some y):ys.set i.toNat y=ys:=by
 obtain ⟨_,h⟩:=idx_some h
 obtain ⟨hl,rfl⟩:=List.getElem?_eq_some_iff.1 h
 exact List.set_getElem_self hl
theorem idx_nat {α:Type} {ys:List α} {i:Int} {y:α} (h:idx ys i=some y):0 ≤ i∧i.toNat < ys.length:=by
 obtain ⟨h0,h⟩:=idx_some h
 exact ⟨h0,(List.getElem?_eq_some_iff.1 h).1⟩
section
variable {α β γ : Type} [GoT α] [GoT β] [GoT γ] {A : Ow α} {B : Ow β} {E : Ow γ} {P : Program} {e : Env} {w : World} {g : Gh} {K : Value → World → Prop} {x y z : Operand}
 {i j b b1 off:Nat} {t t2:TypeId} {a:α} {s:A.S}
theorem OV.slice {et : TypeId} {st : List γ → α} {put : (Ow.list et E).S → A.S} {ys : List γ} {s' : (Ow.list et E).S} (h : OV A i g w t2 a b s) (c : Cxt A b (Ow.list et E) st b1 off put) (hx : st ys = a) (hs : put s' = s) (ho : (Ow.list et E).ok s') :
  (∃ ad cap,hdrV s' ys.length=.slice ad ys.length cap)∧∀ {k:Int} {v:γ},idx ys k=some v→∃ bb cc ss,s'=.at bb cc ss∧ss.length=ys.length:=by
 subst hx; subst hs
 obtain ⟨carr,et',cs,h1,h2,h3⟩:=c.rd h.loc
 cases s' with
 | nil=>exact ⟨⟨none,0,by rw [h2.1]; rfl⟩,fun hi=>by rw [h2.1] at hi; exact (idx_nil hi).elim⟩
 | hole=>exact ho.elim
 | sh=>exact ho.elim
 | «at» bb cc ss=>
  obtain ⟨_,_,_,carr2,_,_,h4⟩:=h2
  have hl:=h4.len
  refine ⟨⟨_,_,rfl⟩,fun _=>⟨bb,cc,ss,rfl,?_⟩⟩
  have e:=hl.1; exact e
theorem LocR.cellsAt {s:B.S} {m:Nat→Nat} {u:β} (h:LocR B s m w b1 off u):∃ carr et cs,w.heap[b1]?=some (.cells carr et (0,0))∧B.ow s m w u cs∧∀ j c,cs[j]?=some c→w.cell? ⟨b1,off + j,none⟩=some c:=by
 obtain ⟨carr,et,cs,h1,h2,h3⟩:=h
 exact ⟨carr,et,cs,h1,h2,fun j c hj=>by simpa [World.cell?,h1] using h3 j c hj⟩
def Lat (i:Nat) (g0:Gh) (w0:World) (g:Gh) (w:World):Prop:=Ch g0.m w0 g.m w∧∀ b,b < w0.heap.size→g0.o b=i→w.heap[b]?=w0.heap[b]?
theorem OV.late {g0:Gh} {w0:World} (h:OV A i g0 w0 t2 a b s) (k:Lat i g0 w0 g w):LocR A s g.m w b 0 a:=by
 obtain ⟨cs,h1,h2,h3,h4,h5,h6⟩:=h
 exact ⟨cs,t2,_,(k.2 b (lt_of_heap h3) h1).trans h3,A.mono k.1 (fun c hc=>k.2 c (A.lt h4 c hc) (h6 c hc).1) h4,fun j v hj=>by rw [Nat.zero_add]; simpa using hj⟩
theorem loc_hdr {et:TypeId} {m:Nat→Nat} {s':(Ow.list et E).S} {ys:List γ} (h:LocR (Ow.list et E) s' m w b1 off ys) (hok:(Ow.list et E).ok s'):w.cell? ⟨b1,off,none⟩=some (hdrV s' ys.length):=by
 obtain ⟨carr,et',cs,h1,h2,h3⟩:=h.cellsAt
 cases s' with
 | nil=>have:=h3 0 _ (by rw [h2.2]; rfl); rw [h2.1]; exact this
 | hole=>exact hok.elim
 | sh=>exact hok.elim
 | «at» bb cc ss=>exact h3 0 _ (by rw [h2.1]; rfl)
theorem load1_run {t:TypeId} {v:Value} (ha:∀ w,(isAgg t).run P w=.ok false w) (h:w.cell? ⟨b1,off,none⟩=some v):(loadVar t ⟨b1,off,none⟩).run P w=.ok v w:=by
 unfold loadVar
 simp [Sem.run_bind,ha,Result.andThen,run_load,h]
theorem P_indexH {et:TypeId} {bb n c kk:Nat} {k:IntKind} {i:Int} (ht:P.underlying t=some (.slice et)) (hsz:∀ w,(sizeOf et).run P w=.ok kk w) (hx:ev e x=.slice (some ⟨bb,0,none⟩) n c) (hy:ev e y=.int k i) (hi:0 ≤ i∧i.toNat < n):Pur P (.indexAddr t x y) e (.pointer (some ⟨bb,i.toNat * kk,none⟩)):=fun _ _ _ _ _ w'=>by
 have hl:i < (n:Int):=by omega
 simp [execOp,hx,hy,Instr.indexAt,asIntOf,Sem.run_bind,run_underlying ht,Result.andThen,hi.1,hl,hsz,addr_add]
theorem OV.wr {st : β → α} {put : B.S → A.S} {u u' : β} {s1 s2 : B.S} {g' : Gh} {w' : World} (h : OV A i g w t2 (st u) b (put s1)) (c : Cxt A b B st b1 off put) (hl : LocR B s2 g'.m w' b1 off u') (hch : Ch g.m w g'.m w')
  (hb:∀ c,c=b ∨ c ∈ A.bl (put s1)→c ≠ b1→c ∉ B.bl s1→w'.heap[c]?=w.heap[c]?) (hk:Keeps w w' b1 off (GoT.k β)) (hn:(B.bl s2).Nodup) (hs2:∀ c ∈ B.bl s2,c ∈ B.bl s1 ∨ (c ≠ b∧c ∉ A.bl (put s1)))
  (ht:∀ c,c=b ∨ c ∈ A.bl (put s1) ∨ c ∈ B.bl s2→c=b ∨ c ∈ A.bl (put s2)→g'.o c=i∧g'.m c=0):OV A i g' w' t2 (st u') b (put s2):=by
 obtain ⟨cs,h1,h2,h3,h4,h5,h6⟩:=h
 have hloc:LocR A (put s1) g.m w b 0 (st u):=OV.loc (i:=i) (t:=t2) ⟨cs,h1,h2,h3,h4,h5,h6⟩
 obtain ⟨q1,q2⟩:=c.bl h5 hn hs2
 obtain ⟨carr,et,cs',r1,r2,r3⟩:=c.wr hloc h5 hl hch hb hk
 have hblk:∃ carr',w'.heap[b]?=some (.cells carr' t2 (0,0))∧carr'.size=cs.size:=by
  by_cases hbb:b1=b
  ·subst hbb
   obtain ⟨carr',k1,k2,_⟩:=hk cs t2 h3
   exact ⟨carr',k1,k2⟩
  ·by_cases hbn : b ∈ B.bl s1
   ·exact absurd (c.sub hbn) (List.nodup_cons.1 h5).1
   ·exact ⟨cs,(hb b (.inl rfl) (Ne.symm hbb) hbn).trans h3,rfl⟩
 obtain ⟨carr',k1,k2⟩:=hblk
 rw [k1] at r1
 injection r1 with r1; injection r1 with r1 r4; subst r1; subst r4
 have e1:=A.len h4; have e2:=A.len r2
 have hcs:carr'.toList=cs':=by
  refine List.ext_getElem (by rw [Array.length_toList] at e1 ⊢; omega) fun j a1 a2=>?_
  have:=r3 j _ (List.getElem?_eq_getElem a2)
  rw [Nat.zero_add] at this
  have a3:j < carr'.size:=by simpa using a1
  rw [Array.getElem?_eq_getElem a3] at this
  simpa using Option.some.inj this
 have hb0:=ht b (.inl rfl) (.inl rfl)
 exact ⟨carr',hb0.1,hb0.2,k1,hcs ▸ r2,q1,fun c hc=>ht c ((q2 c hc).elim (fun h=>.inr (.inl h)) fun h=>.inr (.inr h)) (.inr hc)⟩
theorem set_row {w : World} {b : Nat} {carr : Array Value} {et : TypeId} {off : Nat} {cz : List Value} (hh : w.heap[b]? = some (.cells carr et (0, 0))) (hl : off + cz.length ≤ carr.size) :
  Keeps w (w.setRow b (carr.toList.take off ++ cz ++ carr.toList.drop (off + cz.length)).toArray) b off cz.length∧∀ j v,cz[j]?=some v→(carr.toList.take off ++ cz ++ carr.toList.drop (off + cz.length)).toArray[off + j]?=some v:=by
 have e1:(carr.toList.take off).length=off:=by rw [List.length_take,Array.length_toList]; omega
 have e2:carr.toList.length=carr.size:=Array.length_toList
 refine ⟨fun c2 t2 h2=>?_,fun j v hj=>?_⟩
 ·rw [hh] at h2; injection h2 with h2; injection h2 with q1 q2; subst q1; subst q2
  refine ⟨_,setRow_cells _ _ hh,?_,fun j hj=>?_⟩
  ·rw [List.size_toArray,List.length_append,List.length_append,e1,List.length_drop,e2]; omega
  ·rw [List.getElem?_toArray, List.append_assoc]
   rcases hj with hj | hj
   ·rw [List.getElem?_append_left (by omega),List.getElem?_take,if_pos hj]; simp
   ·rw [List.getElem?_append_right (by omega), List.getElem?_append_right (by omega), List.getElem?_drop, e1]
    rw [show off + cz.length + (j - off - cz.length)=j by omega]; simp
 ·have hjl := (List.getElem?_eq_some_iff.1 hj).1
  rw [List.getElem?_toArray,List.append_assoc,List.getElem?_append_right (by omega),e1,Nat.add_sub_cancel_left,List.getElem?_append_left hjl,hj]
theorem loc_room {s:B.S} {m:Nat→Nat} {u:β} (h:LocR B s m w b1 off u) (hk:0 < GoT.k β):∃ carr et,w.heap[b1]?=some (.cells carr et (0,0))∧off + GoT.k β ≤ carr.size:=by
 obtain ⟨carr,et,cs,h1,h2,h3⟩:=h
 have e:=B.len h2
 refine ⟨carr,et,h1,?_⟩
 have:=h3 (GoT.k β - 1) _ (List.getElem?_eq_getElem (by omega))
 have:=(Array.getElem?_eq_some_iff.1 this).1
 omega
theorem D_storeOV {st : β → α} {put : Unit → A.S} {u u' : β} {v : Value} (c : Cxt A b (Ow.sh β) st b1 off put) (hx : st u = a) (hs : put () = s) (hsz : ∀ w, (sizeOf t).run P w = .ok (GoT.k β) w) (hp : ev e x = .pointer (some ⟨b1, off, none⟩)) (h : OV A i g w t2 a b s) (hy : ev e y = v) (hv : RV g.m w u' v)
  (k:∀ g' w',Stp i g w g' w'→OV A i g' w' t2 (st u') b s→K undef w') (hk:0 < GoT.k β:=by decide):Doe P (.store t x y) e w K:=fun d ty pos af gd=>by
 subst hx; subst hs
 obtain ⟨carr,et,h1,h2⟩:=loc_room (c.rd h.loc) hk
 have hvs:=cells_size hv
 have hvl:v.cells.toList.length=GoT.k β:=by simpa using hvs
 have hrun:=storeVar_run (P:=P) (t:=t) (v:=v) (b:=b1) (o:=off) (by rw [hvs]; exact hsz) h1 (by omega) (GoT.one hv.cells)
 obtain ⟨q1,q2⟩:=set_row (cz:=v.cells.toList) h1 (by rw [hvl]; exact h2)
 rw [hvl] at q1 q2
 rw [hvs] at hrun
 generalize (carr.toList.take off ++ v.cells.toList ++ carr.toList.drop (off + GoT.k β)).toArray=row at hrun q1 q2
 obtain ⟨cs0,p1,p2,p3,p4,p5,p6⟩:=h
 have hob:g.o b1=i∧g.m b1=0:=by
  rcases c.mem () with e1 | e1
  ·rw [e1]; exact ⟨p1,p2⟩
  ·exact p6 b1 e1
 have hstp:Stp i g w g (w.setRow b1 row):=stp_row h1 hob.1 (fun j hj=>by rw [hob.2] at hj; omega)
 have hrun2:(execOp (ev e) ⟨d,.store t x y,ty,pos,af,gd⟩).run P w=.ok .skip (w.setRow b1 row):=by
  simp [execOp,hp,hy,Instr.storeAt,Instr.sureAddr,Result.andThen,hrun]
 unfold doE; rw [hrun2]
 refine k g _ hstp (OV.wr (s1:=()) (s2:=()) ⟨cs0,p1,p2,p3,p4,p5,p6⟩ c ⟨row,et,v.cells.toList,setRow_cells _ _ h1,GoT.mono hstp.ch hv.cells,q2⟩ hstp.ch (fun c _ hne _=>setRow_other b1 row hne) q1 List.nodup_nil (fun _ h=>by cases h) fun c _ hc=>?_)
 rcases hc with e1 | e1
 ·rw [e1]; exact ⟨p1,p2⟩
 ·exact p6 c e1
theorem D_storeOW {α : Type} [GoT α] {A : Ow α} {i j : Nat} {t t2 : TypeId} {p v : Value} {a a' : α} {s : A.S} (hsz : ∀ w, (sizeOf t).run P w = .ok (GoT.k α) w) (hx : ev e x = p) (hp : OB i g w t2 a p) (hy : ev e y = v) (hv : OW A j g w a' s v) (hij : Nat.beq j i = false)
  (h:∀ g1 g' w' b,Stp j g w g1 w→Stp i g1 w g' w'→p=.pointer (some ⟨b,0,none⟩)→OV A i g' w' t2 a' b s→K undef w'):Doe P (.store t x y) e w K:=fun d ty pos af gd=>by
 have hji:j ≠ i:=fun e=>by rw [e] at hij; simp at hij
 obtain ⟨b,cs,rfl,ho,hm,hh,hr⟩:=hp
 have hvc:=hv.cells
 have hvl:=A.len hvc
 have hvs:v.cells.size=GoT.k α:=by simpa using hvl
 have hl:=GoT.len hr
 have hrow:cs.toList.take 0 ++ v.cells.toList ++ cs.toList.drop (0 + v.cells.size)=v.cells.toList:=by
  rw [List.take_zero,List.nil_append,List.drop_of_length_le (by simp at hl; simp; omega),List.append_nil]
 have hrun:=storeVar_run (P:=P) (t:=t) (v:=v) (b:=b) (o:=0) (by rw [hvs]; exact hsz) hh (by simp at hl; omega) (A.one hvc)
 rw [hrow] at hrun
 obtain ⟨csv,v1,v2,v3,v4⟩:=hv
 have hnb:b ∉ A.bl s:=fun hb=>hji ((v4 b hb).1.symm.trans ho)
 have hst1:Stp j g w (retB (A.bl s) i g) w:=retB_stp (fun c hc=>(v4 c hc).1) i
 have hob:(retB (A.bl s) i g).o b=i:=by show (if _ then _ else _)=_; rw [if_neg hnb]; exact ho
 have hstp:Stp i (retB (A.bl s) i g) w (retB (A.bl s) i g) (w.setRow b v.cells.toList.toArray):=stp_row hh hob (fun j hj=>by have:j < g.m b:=hj; rw [hm] at this; omega)
 have hrun2:(execOp (ev e) ⟨d,.store t x y,ty,pos,af,gd⟩).run P w=.ok .skip (w.setRow b v.cells.toList.toArray):=by
  simp [execOp,hx,hy,Instr.storeAt,Instr.sureAddr,Result.andThen,hrun]
 unfold doE; rw [hrun2]
 refine h _ _ _ b hst1 hstp rfl ⟨_,hob,hm,setRow_cells _ _ hh,?_,List.nodup_cons.2 ⟨hnb,v3⟩,fun c hc=>⟨if_pos hc,(v4 c hc).2⟩⟩
 have:=A.mono hstp.ch (fun c hc=>setRow_other b v.cells.toList.toArray (fun e1=>hnb (e1 ▸ hc))) hvc
 simpa using this
theorem OV.take {et : TypeId} {st : List γ → α} {put : (Ow.list et E).S → A.S} {ys : List γ} {s' : (Ow.list et E).S} (h : OV A i g w t2 a b s) (c : Cxt A b (Ow.list et E) st b1 off put) (hx : st ys = a) (hs : put s' = s) (ho : (Ow.list et E).ok s') (j : Nat) (hij : Nat.beq i j = false) :
  ∃ g',Stp i g w g' w∧OV A i g' w t2 (st []) b (put .hole)∧OW (Ow.list et E) j g' w ys s' (hdrV s' ys.length):=by
 subst hx; subst hs
 have hne:i ≠ j:=fun e=>by rw [e] at hij; simp at hij
 obtain ⟨cs0,p1,p2,p3,p4,p5,p6⟩:=h
 have hloc:LocR A (put s') g.m w b 0 (st ys):=OV.loc (i:=i) (t:=t2) ⟨cs0,p1,p2,p3,p4,p5,p6⟩
 have hl:=c.rd hloc
 obtain ⟨carr,et',cs,h1,h2,h3⟩:=hl
 obtain ⟨o1,o2⟩:=c.out p5
 have hsub:∀ x ∈ (Ow.list et E).bl s',g.o x=i∧g.m x=0:=fun x hx=>p6 x (c.sub hx)
 have hv:cs=[hdrV s' ys.length]:=by
  cases s' with
  | nil=>rw [h2.2]; rfl
  | hole=>exact ho.elim
  | sh=>exact ho.elim
  | «at» bb cc ss=>exact h2.1
 have hone:=(Ow.list et E).one h2 (hdrV s' ys.length) (by rw [hv]; simp)
 refine ⟨retB ((Ow.list et E).bl s') j g,retB_stp (fun c hc=>(hsub c hc).1) j,?_,⟨cs,by rw [hv]; rfl,h2,o2,fun x hx=>⟨if_pos hx,(hsub x hx).2⟩⟩⟩
 have hnot:∀ x,x=b ∨ x ∈ A.bl (put (.hole:Sl E.S))→x ∉ (Ow.list et E).bl s':=by
  intro x hx hb
  rcases hx with e1 | e1
  ·exact (List.nodup_cons.1 p5).1 (e1 ▸ c.sub hb)
  ·exact c.sep (s':=.hole) p5 hb (fun h=>by cases h) e1
 refine OV.wr (g:=g) (s1:=s') (s2:=.hole) ⟨cs0,p1,p2,p3,p4,p5,p6⟩ c ⟨carr,et',cs,h1,⟨rfl,_,hv,hone⟩,h3⟩ (Ch.refl _ _) (fun _ _ _ _=>rfl) (fun ca ea hca=>⟨ca,hca,rfl,fun _ _=>rfl⟩) List.nodup_nil (fun _ h=>by cases h) fun x hx hx2=>?_
 have hn:=hnot x hx2
 have:g.o x=i∧g.m x=0:=by
  rcases hx with e1 | e1 | e1
  ·rw [e1]; exact ⟨p1,p2⟩
  ·exact p6 x e1
  ·cases e1
 exact ⟨by show (if _ then _ else _)=_; rw [if_neg hn]; exact this.1,this.2⟩
theorem OV.toOB (h:OV A i g w t2 a b s) (hok:A.ok s):∃ g',Stp i g w g' w∧OB i g' w t2 a (.pointer (some ⟨b,0,none⟩)):=by
 obtain ⟨cs,p1,p2,p3,p4,p5,p6⟩:=h
 obtain ⟨q1,_⟩:=List.nodup_cons.1 p5
 have hle:∀ c,g.m c ≤ (if c ∈ A.bl s then (if g.m c < blkN w c then blkN w c else g.m c) else g.m c):=fun c=>by
  split
  ·split <;> omega
  ·exact Nat.le_refl _
 refine ⟨{ m:=fun c=>if c ∈ A.bl s then (if g.m c < blkN w c then blkN w c else g.m c) else g.m c,o:=g.o },⟨rfl,rfl,rfl,ch_up hle,fun _ _ _=>rfl,fun c _ hn=>?_,fun _ _ _=>rfl⟩,b,cs,rfl,p1,?_,p3,A.pub p4 hok hle fun c hc=>?_⟩
 ·show (if _ then _ else _)=_; rw [if_neg fun h=>hn (p6 c h).1]
 ·show (if _ then _ else _)=_; rw [if_neg q1]; exact p2
 ·show _ ≤ if _ then _ else _; rw [if_pos hc]; split <;> omega
def AL (i:Nat) (g:Gh) (w:World) (b:Nat) (v:Value):Prop:=∃ cs t,g.o b=i∧w.heap[b]?=some (.cells cs t (0,0))∧v=.agg cs
theorem AL.stp {g':Gh} {w':World} {v:Value} (h:AL i g w b v) (k:Stp j g w g' w') (hne:Nat.beq i j=false):AL i g' w' b v:=by
 have hij:i ≠ j:=fun e=>by rw [e] at hne; simp at hne
 obtain ⟨cs,t,h1,h2,h3⟩:=h
 have hn:g.o b ≠ j:=by rw [h1]; exact hij
 exact ⟨cs,t,(k.o b (lt_of_heap h2) hn).trans h1,(k.block b (lt_of_heap h2) hn).trans h2,h3⟩
end
end Go.Proofs.Ytmpjooneiaiffaa
/- Values that the function owns with all that they lead to: from and to own slices; struct values; what calls hand out. No program is named here. -/
namespace Go.Proofs.Ytmpjooneiaiffaa
open Go.RowKit

def OVb {α:Type} [GoT α] (A:Ow α) (i:Nat) (g:Gh) (w:World) (t:TypeId) (x:α) (b:Nat):Prop:=∃ s,OV A i g w t x b s∧A.ok s
section
variable {α β γ:Type} [GoT α] [GoT β] [GoT γ] {A:Ow α} {B:Ow β} {i j b:Nat} {g g':Gh} {w w':World} {t:TypeId} {x:α} {s:A.S} {v:Value}
theorem OVb.stp (h:OVb A i g w t x b) (k:Stp j g w g' w') (hne:Nat.beq i j=false):OVb A i g' w' t x b:=let ⟨s,h1,h2⟩:=h; ⟨s,h1.stp k hne,h2⟩
theorem sh_flat : ∀ l : List (Ow.sh α).S, l.flatMap (Ow.sh α).bl = []
 | []=>rfl
 | s :: l=>by rw [List.flatMap_cons,sh_flat l]; rfl
theorem OA.toW {et:TypeId} {xs:List α} (h:OA i g w et xs v):OWx (Ow.list et (Ow.sh α)) i g w xs v:=by
 rcases h with ⟨rfl,rfl⟩ | ⟨b,c,cs,rfl,ho,hm,hh,h1,h2,h3,hf⟩
 ·exact ⟨.nil,⟨_,rfl,⟨rfl,rfl⟩,List.nodup_nil,fun c hc=>by cases hc⟩,trivial⟩
 ·have hbl : (Ow.list et (Ow.sh α)).bl (.at b c (List.replicate xs.length ())) = [b] := congrArg (List.cons b) (sh_flat (α := α) _)
  refine ⟨.at b c (List.replicate xs.length ()),⟨_,rfl,⟨rfl,h1,h2,cs,hh,h3,flat_rows hf⟩,by rw [hbl]; simp,fun x hx=>?_⟩,fun _ _=>trivial⟩
  rw [hbl,List.mem_singleton] at hx
  rw [hx]; exact ⟨ho,hm⟩
theorem RV.ow {u:β} {v:Value} (h:RV g.m w u v) (i:Nat):OW (Ow.sh β) i g w u () v:=let ⟨cs,h1,h2⟩:=h; ⟨cs,h2,h1,List.nodup_nil,fun c hc=>by cases hc⟩
structure Wn (A : Ow α) (i : Nat) (g : Gh) (w : World) (x : α) (s : A.S) (cs : List Value) : Prop where
 ow:A.ow s g.m w x cs
 nd:(A.bl s).Nodup
 tg:∀ c ∈ A.bl s,g.o c=i∧g.m c=0
theorem OW.wn (h:OW A i g w x s v):Wn A i g w x s v.cells.toList:=by
 have hc:=h.cells
 obtain ⟨cs,h1,h4,h5,h6⟩:=h
 exact ⟨hc,h5,h6⟩
theorem Wn.mk_ {cs:List Value} (h:Wn A i g w x s cs):OW A i g w x s (toV (GoT.agg α) cs):=⟨cs,rfl,h.ow,h.nd,h.tg⟩
theorem Wn.pair {x:α} {y:β} {s:A.S} {t:B.S} {c1 c2:List Value} (h1:Wn A i g w x s c1) (h2:Wn B j g w y t c2) (hij:Nat.beq i j=false):∃ g',Stp i g w g' w∧g'.m=g.m∧Wn (Ow.pair A B) j g' w (x,y) (s,t) (c1 ++ c2):=by
 have hne:i ≠ j:=fun e=>by rw [e] at hij; simp at hij
 have hd:∀ c,c ∈ A.bl s→c ∉ B.bl t:=fun c a1 a2=>hne ((h1.tg c a1).1.symm.trans (h2.tg c a2).1)
 refine ⟨retB (A.bl s) j g,retB_stp (fun c hc=>(h1.tg c hc).1) j,rfl,⟨c1,c2,rfl,h1.ow,h2.ow⟩,List.nodup_append.2 ⟨h1.nd,h2.nd,fun a ha b hb e=>hd a ha (e ▸ hb)⟩,fun c hc=>?_⟩
 rcases List.mem_append.1 hc with hc | hc
 ·exact ⟨if_pos hc,(h1.tg c hc).2⟩
 ·exact ⟨by show (if _ then _ else _)=_; rw [if_neg fun h=>hd c h hc]; exact (h2.tg c hc).1,(h2.tg c hc).2⟩
theorem Wn.shl {y:β} {c2:List Value} (h:GoT.rep g.m w y c2) (j:Nat):Wn (Ow.sh β) j g w y () c2:=⟨h,List.nodup_nil,fun c hc=>by cases hc⟩
theorem Wn.stp {k:Nat} {cs:List Value} (h:Wn A i g w x s cs) (hk:Stp k g w g' w') (hne:Nat.beq i k=false):Wn A i g' w' x s cs:=by
 have hij:i ≠ k:=fun e=>by rw [e] at hne; simp at hne
 have hn:∀ c,g.o c=i→g.o c ≠ k:=fun c e=>by rw [e]; exact hij
 exact ⟨A.mono hk.ch (fun c hc=>hk.block c (A.lt h.ow c hc) (hn c (h.tg c hc).1)) h.ow,h.nd,fun c hc=>⟨(hk.o c (A.lt h.ow c hc) (hn c (h.tg c hc).1)).trans (h.tg c hc).1,(hk.m c (A.lt h.ow c hc) (hn c (h.tg c hc).1)).trans (h.tg c hc).2⟩⟩
theorem Wn.struct {α:Type} {to:α→β} {x:α} {s:B.S} {cs:List Value} (h:Wn B i g w (to x) s cs):@Wn α (GoT.struct α to) (Ow.struct to B) i g w x s cs:=
 @Wn.mk α (GoT.struct α to) (Ow.struct to B) i g w x s cs h.ow h.nd h.tg
theorem Wn.fl {cs:List Value} (h:Wn A i g w x s cs):Wn A i g w x s (cs ++ []):=by rw [List.append_nil]; exact h
theorem Wn.nil (et:TypeId) (A:Ow α) (i:Nat) (g:Gh) (w:World):Wn (Ow.list et A) i g w [] .nil [.slice none 0 0]:=⟨⟨rfl,rfl⟩,List.nodup_nil,fun c hc=>by cases hc⟩
theorem OW.csz (h:OW A i g w x s v):v.cells.size=GoT.k α:=by have:=A.len h.cells; simpa using this
/-! ### What calls hand out -/
def Ow.free (A:Ow α):Prop:=∀ {s:A.S} {m m':Nat→Nat} {w:World} {x:α} {cs:List Value},A.ok s→A.ow s m w x cs→A.ow s m' w x cs
theorem set_unit {ss:List Unit} {i:Nat}:ss.set i ()=ss:=by
 apply List.ext_getElem (by simp)
 intro j h1 h2; rfl
end
/-! ### In regions that draw their order -/
section
variable {α β γ:Type} [GoT α] [GoT β] [GoT γ] {A:Ow α} {B:Ow β} {E:Ow γ} {P:Program} {e:Env} {w:World} {g:Gh} {x y:Operand} {i b b1 off:Nat} {t t2:TypeId} {a0 a1:α} {s:A.S}
theorem up_owx {a:α} {v:Value}:Up extRel (fun g w=>OWx A i g w a v):=fun _ _ _ _ hx h=>h.ext hx
theorem up_ov {a:α}:Up extRel (fun g w=>OV A i g w t a b s):=fun _ _ _ _ hx h=>h.ext hx
theorem D_storeOVR {st : β → α} {put : Unit → A.S} {u u' : β} {v : Value} (c : Cxt A b (Ow.sh β) st b1 off put) (hx0 : st u = a0) (hx1 : st u' = a1) (hs : put () = s) (hsz : ∀ w, (sizeOf t).run P w = .ok (GoT.k β) w) (hp : ev e x = .pointer (some ⟨b1, off, none⟩)) (h : OV A i g w t2 a0 b s ∨ OV A i g w t2 a1 b s) (hy : ev e y = v) (hv : RV g.m w u' v) (hk : 0 < GoT.k β := by decide) :
  Doe P (.store t x y) e w fun _ w'=>∃ g',(boxRel i (fun g w=>OV A i g w t2 a0 b s) (fun g w=>OV A i g w t2 a1 b s)).rel g w g' w'∧OV A i g' w' t2 a1 b s:=by
 have key:∀ u0,st u0=a0 ∨ st u0=a1→OV A i g w t2 (st u0) b s→Doe P (.store t x y) e w fun _ w'=>∃ g',(boxRel i (fun g w=>OV A i g w t2 a0 b s) (fun g w=>OV A i g w t2 a1 b s)).rel g w g' w'∧OV A i g' w' t2 a1 b s:=fun u0 _ h=>
  D_storeOV c rfl hs hsz hp h hy hv (fun g' w' hst hb=>by
   rw [hx1] at hb
   exact ⟨g',⟨hst,fun _=>hb,fun _=>.inr hb⟩,hb⟩) hk
 rcases h with h | h
 ·exact key u (.inl hx0) (hx0 ▸ h)
 ·exact key u' (.inr hx1) (hx1 ▸ h)
theorem loadHAB {et : TypeId} {st0 st1 : List γ → α} {put0 put1 : (Ow.list et E).S → A.S} {ys0 ys1 : List γ} {s' : (Ow.list et E).S} {d : Option Tmp} {ty : TypeId} {pos : String} {af : Array Edge} {gd : Option (Nat × Bool)} (c0 : Cxt A b (Ow.list et E) st0 b1 off put0) (hx0 : st0 ys0 = a0) (hs0 : put0 s' = s) (c1 : Cxt A b (Ow.list et E) st1 b1 off put1) (hx1 : st1 ys1 = a1) (hs1 : put1 s' = s) (hn : ys1.length = ys0.length)
  (ho:(Ow.list et E).ok s') (ha:∀ w,(isAgg t).run P w=.ok false w) (hp:ev e x=.pointer (some ⟨b1,off,none⟩)) (h:OV A i g w t2 a0 b s ∨ OV A i g w t2 a1 b s):(execOp (ev e) ⟨d,.load t x,ty,pos,af,gd⟩).run P w=.ok (.value (hdrV s' ys0.length)) w:=by
 rcases h with h | h
 ·subst hx0; subst hs0
  simp [execOp,hp,Instr.loadAt,Instr.sureAddr,load1_run ha (loc_hdr (c0.rd h.loc) ho)]
 ·rw [← hn]
  subst hx1; subst hs1
  simp [execOp,hp,Instr.loadAt,Instr.sureAddr,load1_run ha (loc_hdr (c1.rd h.loc) ho)]
theorem SubS.at_ {α β:Type} [GoT α] [GoT β] {o off:Nat} {f:α→β} {s:α→β→α} (h:SubS o f s) (ho:off=o):SubS off f s:=ho ▸ h
theorem vmod_vmod {β:Type} {n:Nat} {v:Vector β n} {i:Int} {h:β→β} (hh:∀ b,h (h b)=h b):vmod (vmod v i h) i h=vmod v i h:=by
 unfold vmod
 split
 ·simp [hh]
 ·rfl
end
end Go.Proofs.Ytmpjooneiaiffaa
