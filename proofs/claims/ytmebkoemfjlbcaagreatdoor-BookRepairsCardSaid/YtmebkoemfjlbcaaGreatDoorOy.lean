/- Values that the function owns with all that they lead to: loads, stores, appends. No program is named here. -/
import Derived.Test.YtmebkoemfjlbcaaGreatDoorOx
namespace Go.Proofs.YtmebkoemfjlbcaaGreatDoor
open Go.RowKit

section
variable {α β γ : Type} [GoT α] [GoT β] [GoT γ] {A : Ow α} {B : Ow β} {E : Ow γ} {P : Program} {e : Env} {w : World} {g : Gh} {K : Value → World → Prop} {x y z : Operand}
 {i j b b1 off:Nat} {t t2:TypeId} {a:α} {s:A.S}
theorem OV.slice {et : TypeId} {st : List γ → α} {put : (Ow.list et E).S → A.S} {ys : List γ} {s' : (Ow.list et E).S} (h : OV A i g w t2 a b s) (c : Cxt A b (Ow.list et E) st b1 off put) (hx : st ys = a) (hs : put s' = s) (ho : (Ow.list et E).ok s') :
  (∃ ad cap,hdrV s' ys.length=.slice ad ys.length cap)∧∀ {k:Int} {v:γ},idx ys k=some v→∃ bb cc ss,s'=.at bb cc ss∧ss.length=ys.length:=by
 subst hx; subst hs
 obtain ⟨carr,et',cs,h1,h2,h3⟩:=c.rd h.loc
 cases s' with
 | nil=>exact ⟨⟨none,0,by rw [h2.1]; rfl⟩,fun hi=>by rw [h2.1] at hi; exact (idx_nil hi).elim⟩
 | hole=>exact ho.elim
 | sh=>exact ho.elim
 | «at» bb cc ss=>
  obtain ⟨_,_,_,carr2,_,_,h4⟩:=h2
  have hl:=h4.len
  refine ⟨⟨_,_,rfl⟩,fun _=>⟨bb,cc,ss,rfl,?_⟩⟩
  have e:=hl.1; exact e
def Lat (i:Nat) (g0:Gh) (w0:World) (g:Gh) (w:World):Prop:=Ch g0.m w0 g.m w∧∀ b,b < w0.heap.size→g0.o b=i→w.heap[b]?=w0.heap[b]?
theorem OV.late {g0:Gh} {w0:World} (h:OV A i g0 w0 t2 a b s) (k:Lat i g0 w0 g w):LocR A s g.m w b 0 a:=by
 obtain ⟨cs,h1,h2,h3,h4,h5,h6⟩:=h
 exact ⟨cs,t2,_,(k.2 b (lt_of_heap h3) h1).trans h3,A.mono k.1 (fun c hc=>k.2 c (A.lt h4 c hc) (h6 c hc).1) h4,fun j v hj=>by rw [Nat.zero_add]; simpa using hj⟩
theorem load1_run {t:TypeId} {v:Value} (ha:∀ w,(isAgg t).run P w=.ok false w) (h:w.cell? ⟨b1,off,none⟩=some v):(loadVar t ⟨b1,off,none⟩).run P w=.ok v w:=by
 unfold loadVar
 simp [Sem.run_bind,ha,Result.andThen,run_load,h]
theorem P_lenH {et : TypeId} {v : Value} {n : Nat} (ht : P.underlying t = some (.slice et)) (hx : ev e x = v) (hv : ∃ ad c, v = .slice ad n c) :
  Pur P (.call { callee:=.builtin .len,args:=#[x],argTypes:=#[t] }) e (.int .i64 (n:Int)):=fun _ _ _ _ _ _=>by
 obtain ⟨ad,c,rfl⟩:=hv
 simp [execOp,resolve,invoke,builtin,Builtin.len_,hx,run_underlying ht,goInt]
theorem OV.wr {st : β → α} {put : B.S → A.S} {u u' : β} {s1 s2 : B.S} {g' : Gh} {w' : World} (h : OV A i g w t2 (st u) b (put s1)) (c : Cxt A b B st b1 off put) (hl : LocR B s2 g'.m w' b1 off u') (hch : Ch g.m w g'.m w')
  (hb:∀ c,c=b ∨ c ∈ A.bl (put s1)→c ≠ b1→c ∉ B.bl s1→w'.heap[c]?=w.heap[c]?) (hk:Keeps w w' b1 off (GoT.k β)) (hn:(B.bl s2).Nodup) (hs2:∀ c ∈ B.bl s2,c ∈ B.bl s1 ∨ (c ≠ b∧c ∉ A.bl (put s1)))
  (ht:∀ c,c=b ∨ c ∈ A.bl (put s1) ∨ c ∈ B.bl s2→c=b ∨ c ∈ A.bl (put s2)→g'.o c=i∧g'.m c=0):OV A i g' w' t2 (st u') b (put s2):=by
 obtain ⟨cs,h1,h2,h3,h4,h5,h6⟩:=h
 have hloc:LocR A (put s1) g.m w b 0 (st u):=OV.loc (i:=i) (t:=t2) ⟨cs,h1,h2,h3,h4,h5,h6⟩
 obtain ⟨q1,q2⟩:=c.bl h5 hn hs2
 obtain ⟨carr,et,cs',r1,r2,r3⟩:=c.wr hloc h5 hl hch hb hk
 have hblk:∃ carr',w'.heap[b]?=some (.cells carr' t2 (0,0))∧carr'.size=cs.size:=by
  by_cases hbb:b1=b
  ·subst hbb
   obtain ⟨carr',k1,k2,_⟩:=hk cs t2 h3
   exact ⟨carr',k1,k2⟩
  ·by_cases hbn : b ∈ B.bl s1
   ·exact absurd (c.sub hbn) (List.nodup_cons.1 h5).1
   ·exact ⟨cs,(hb b (.inl rfl) (Ne.symm hbb) hbn).trans h3,rfl⟩
 obtain ⟨carr',k1,k2⟩:=hblk
 rw [k1] at r1
 injection r1 with r1; injection r1 with r1 r4; subst r1; subst r4
 have e1:=A.len h4; have e2:=A.len r2
 have hcs:carr'.toList=cs':=by
  refine List.ext_getElem (by rw [Array.length_toList] at e1 ⊢; omega) fun j a1 a2=>?_
  have:=r3 j _ (List.getElem?_eq_getElem a2)
  rw [Nat.zero_add] at this
  have a3:j < carr'.size:=by simpa using a1
  rw [Array.getElem?_eq_getElem a3] at this
  simpa using Option.some.inj this
 have hb0:=ht b (.inl rfl) (.inl rfl)
 exact ⟨carr',hb0.1,hb0.2,k1,hcs ▸ r2,q1,fun c hc=>ht c ((q2 c hc).elim (fun h=>.inr (.inl h)) fun h=>.inr (.inr h)) (.inr hc)⟩
theorem OV.take {et : TypeId} {st : List γ → α} {put : (Ow.list et E).S → A.S} {ys : List γ} {s' : (Ow.list et E).S} (h : OV A i g w t2 a b s) (c : Cxt A b (Ow.list et E) st b1 off put) (hx : st ys = a) (hs : put s' = s) (ho : (Ow.list et E).ok s') (j : Nat) (hij : Nat.beq i j = false) :
  ∃ g',Stp i g w g' w∧OV A i g' w t2 (st []) b (put .hole)∧OW (Ow.list et E) j g' w ys s' (hdrV s' ys.length):=by
 subst hx; subst hs
 have hne:i ≠ j:=fun e=>by rw [e] at hij; simp at hij
 obtain ⟨cs0,p1,p2,p3,p4,p5,p6⟩:=h
 have hloc:LocR A (put s') g.m w b 0 (st ys):=OV.loc (i:=i) (t:=t2) ⟨cs0,p1,p2,p3,p4,p5,p6⟩
 have hl:=c.rd hloc
 obtain ⟨carr,et',cs,h1,h2,h3⟩:=hl
 obtain ⟨o1,o2⟩:=c.out p5
 have hsub:∀ x ∈ (Ow.list et E).bl s',g.o x=i∧g.m x=0:=fun x hx=>p6 x (c.sub hx)
 have hv:cs=[hdrV s' ys.length]:=by
  cases s' with
  | nil=>rw [h2.2]; rfl
  | hole=>exact ho.elim
  | sh=>exact ho.elim
  | «at» bb cc ss=>exact h2.1
 have hone:=(Ow.list et E).one h2 (hdrV s' ys.length) (by rw [hv]; simp)
 refine ⟨retB ((Ow.list et E).bl s') j g,retB_stp (fun c hc=>(hsub c hc).1) j,?_,⟨cs,by rw [hv]; rfl,h2,o2,fun x hx=>⟨if_pos hx,(hsub x hx).2⟩⟩⟩
 have hnot:∀ x,x=b ∨ x ∈ A.bl (put (.hole:Sl E.S))→x ∉ (Ow.list et E).bl s':=by
  intro x hx hb
  rcases hx with e1 | e1
  ·exact (List.nodup_cons.1 p5).1 (e1 ▸ c.sub hb)
  ·exact c.sep (s':=.hole) p5 hb (fun h=>by cases h) e1
 refine OV.wr (g:=g) (s1:=s') (s2:=.hole) ⟨cs0,p1,p2,p3,p4,p5,p6⟩ c ⟨carr,et',cs,h1,⟨rfl,_,hv,hone⟩,h3⟩ (Ch.refl _ _) (fun _ _ _ _=>rfl) (fun ca ea hca=>⟨ca,hca,rfl,fun _ _=>rfl⟩) List.nodup_nil (fun _ h=>by cases h) fun x hx hx2=>?_
 have hn:=hnot x hx2
 have:g.o x=i∧g.m x=0:=by
  rcases hx with e1 | e1 | e1
  ·rw [e1]; exact ⟨p1,p2⟩
  ·exact p6 x e1
  ·cases e1
 exact ⟨by show (if _ then _ else _)=_; rw [if_neg hn]; exact this.1,this.2⟩
def AL (i:Nat) (g:Gh) (w:World) (b:Nat) (v:Value):Prop:=∃ cs t,g.o b=i∧w.heap[b]?=some (.cells cs t (0,0))∧v=.agg cs
theorem AL.ext {g':Gh} {w':World} {v:Value} (h:AL i g w b v) (k:Ext g w g' w'):AL i g' w' b v:=by
 obtain ⟨cs,t,h1,h2,h3⟩:=h
 exact ⟨cs,t,(k.o b (lt_of_heap h2)).trans h1,(k.below.block b (lt_of_heap h2)).trans h2,h3⟩
theorem AL.stp {g':Gh} {w':World} {v:Value} (h:AL i g w b v) (k:Stp j g w g' w') (hne:Nat.beq i j=false):AL i g' w' b v:=by
 have hij:i ≠ j:=fun e=>by rw [e] at hne; simp at hne
 obtain ⟨cs,t,h1,h2,h3⟩:=h
 have hn:g.o b ≠ j:=by rw [h1]; exact hij
 exact ⟨cs,t,(k.o b (lt_of_heap h2) hn).trans h1,(k.block b (lt_of_heap h2) hn).trans h2,h3⟩
end
end Go.Proofs.YtmebkoemfjlbcaaGreatDoor
