/- An own variable that holds an array of slices of the function's own, any of which is appended to. No program is named here. -/
import Derived.Test.YtpglkdijpcgcaaaGreatDoorSf
import Derived.Test.YtpglkdijpcgcaaaGreatDoorWr
namespace Go.Proofs.YtpglkdijpcgcaaaGreatDoor
open Go.RowKit

theorem Ac (o:Nat→Nat):∀ n:Nat,∃ J,∀ b,b<n→o b≠J∧o b<J
 | 0=>⟨0,fun b hb=>absurd hb (Nat.not_lt_zero b)⟩
 | n+1=>by
  obtain ⟨J,h⟩:=Ac o n
  refine ⟨max J (o n+1),fun b hb=>?_⟩
  rcases Nat.lt_succ_iff_lt_or_eq.1 hb with h1 | rfl
  ·have:=(h b h1).2;omega
  ·omega
section
variable {P:Program} {e:Env} {w w':World} {g g':Gh} {K:Value→World→Prop} {x y:Operand}
theorem Im {α:Type} [GoT α] {i:Nat} {t et:TypeId} {z:Value} {bytes:Nat} {xs ys r:List α} {u v:Value}
  (ht:P.underlying t=some (.slice et)) (hinfo:(P.info? et).map (fun i=>(i.zero,i.size,i.bytes))=some (some z,GoT.k α,bytes)) (hzs:z.cells.size=GoT.k α)
  (hx:X e x=u) (hos:OS i g w et xs u) (hu:RV g.m w xs u) (hy:X e y=v) (hv:RV g.m w ys v) (hr:apnd bytes xs ys=some r)
  (h:∀ g' w' v',Stp i g w g' w'→OS i g' w' et r v'→RV g'.m w' r v'→Uy g w g' w' u v'→K v' w'):Doe P (.call {callee:=.builtin .append,args:=#[x,y],argTypes:=#[t,t]}) e w K:=fun d ty pos af gd=>by
 obtain ⟨ti,hi,hz,hsz,hby⟩:=info_parts hinfo
 subst hby
 obtain ⟨J,hJ⟩:=Ac g.o w.heap.size
 obtain ⟨g1,hg1m,hg1,hos1,hub⟩:∃ g1:Gh,g1.m=g.m∧(∀ b,b<w.heap.size→u.ownBlock≠some b→g1.o b=g.o b)∧OS J g1 w et xs u∧(∀ b,u.ownBlock=some b→g.o b=i):=by
  rcases hos with ⟨h1,h2⟩ | ⟨b,c,cs,hval,hob,hmb,hh,hnc⟩
  ·exact ⟨g,rfl,fun _ _ _=>rfl,.inl ⟨h1,h2⟩,fun b hb=>by rw [h1] at hb;cases hb⟩
  ·refine ⟨{m:=g.m,o:=W8 g.o b J},rfl,fun b' _ hne=>Qt _ _ fun e=>hne (by rw [hval,e];rfl),.inr ⟨b,c,cs,hval,Tv _ _ _,hmb,hh,hnc⟩,fun b' hb'=>?_⟩
   rw [hval] at hb'
   have:b=b':=by simpa [Value.ownBlock] using hb'
   rw [← this];exact hob
 obtain ⟨g2,w2,v2,hrun,s1,s2,s3,_,_⟩:=De (P:=P) t ty et ti z ht hi hz hsz hzs hos1 (hg1m▸hu) (hg1m▸hv) hr
 have hap:∀ b,b<w.heap.size→u.ownBlock≠some b→w2.heap[b]?=w.heap[b]?∧g2.o b=g.o b∧g2.m b=g.m b∧v2.ownBlock≠some b:=fun b hb hne=>by
  have e1:=hg1 b hb hne
  have hoJ:g1.o b≠J:=by rw [e1];exact (hJ b hb).1
  have e2:=(s1.o b hb hoJ).trans e1
  refine ⟨s1.block b hb hoJ,e2,(s1.m b hb hoJ).trans (by rw [hg1m]),fun hvb=>?_⟩
  rcases s2 with ⟨h1,_⟩ | ⟨b',c,cs,hval,hob,_⟩
  ·rw [h1] at hvb;cases hvb
  ·rw [hval] at hvb
   have:b'=b:=by simpa [Value.ownBlock] using hvb
   subst this
   exact (hJ b' hb).1 (e2.symm.trans hob)
 have hgo:∀ b,b<w.heap.size→u.ownBlock≠some b→(if g2.o b=J then i else g2.o b)=g.o b:=fun b hb hne=>by
  obtain ⟨_,e2,_,_⟩:=hap b hb hne
  rw [if_neg (by rw [e2];exact (hJ b hb).1),e2]
 have hnb:∀ b,b<w.heap.size→g.o b≠i→u.ownBlock≠some b:=fun b _ hne hb=>hne (hub b hb)
 have hrun2:(execOp (X e) ⟨d,.call {callee:=.builtin .append,args:=#[x,y],argTypes:=#[t,t]},ty,pos,af,gd⟩).run P w=.ok (.value v2) w2:=by
  simp only [execOp,resolve,invoke,builtin,Sem.run_bind,Sem.run_pure,Result.andThen_ok,List.map_toArray,List.map_cons,List.map_nil,hx,hy,hrun]
 unfold doE;rw [hrun2]
 refine h {m:=g2.m,o:=fun b=>if g2.o b=J then i else g2.o b} w2 v2 ⟨s1.os,s1.tape,s1.output,hg1m▸s1.ch,fun b hb hne=>(hap b hb (hnb b hb hne)).1,fun b hb hne=>(hap b hb (hnb b hb hne)).2.2.1,fun b hb hne=>hgo b hb (hnb b hb hne)⟩ ?_ s3 fun b hb hne=>⟨(hap b hb hne).1,hgo b hb hne,(hap b hb hne).2.2.1,(hap b hb hne).2.2.2⟩
 rcases s2 with h1 | ⟨b,c,cs,hval,hob,h2⟩
 ·exact .inl h1
 ·exact .inr ⟨b,c,cs,hval,if_pos hob,h2⟩
end
section
variable {β:Type} [GoT β] {n i j q:Nat} {g g':Gh} {w w':World} {et t:TypeId} {xs:Vector (List β) n} {p:Value}
def VSF (q:Nat) (i j:Nat) (g:Gh) (w:World) (et t:TypeId) (xs:Vector (List β) n) (p:Value) (cs:Array Value):Prop:=
 (∃ b,p=.pointer (some ⟨b,0,none⟩)∧g.o b=i∧w.heap[b]?=some (.cells cs t (0,0)))∧cs.size=n ∧
 (∀ k (h:k<n),k≠q→∃ v,cs[k]?=some v∧OS j g w et xs[k] v)∧∀ k k' b v v',k≠q→k'≠q→k≠k'→cs[k]?=some v→cs[k']?=some v'→v.ownBlock=some b→v'.ownBlock≠some b
theorem VSF.ext {cs:Array Value} (h:VSF q i j g w et t xs p cs) (k:Ext g w g' w'):VSF q i j g' w' et t xs p cs:=by
 obtain ⟨⟨b,hp,ho,hh⟩,h1,h2,h3⟩:=h
 exact ⟨⟨b,hp,(k.o b (Gq hh)).trans ho,(k.below.block b (Gq hh)).trans hh⟩,h1,fun k' hk hq=>let ⟨v,a1,a2⟩:=h2 k' hk hq;⟨v,a1,a2.ext k⟩,h3⟩
theorem VSF.stp {s:Nat} {cs:Array Value} (h:VSF q i j g w et t xs p cs) (k:Stp s g w g' w') (hi:Nat.beq i s=false) (hj:Nat.beq j s=false:=by rfl):VSF q i j g' w' et t xs p cs:=by
 obtain ⟨⟨b,hp,ho,hh⟩,h1,h2,h3⟩:=h
 have hij:g.o b≠s:=by rw [ho];intro he;rw [he] at hi;simp at hi
 exact ⟨⟨b,hp,(k.o b (Gq hh) hij).trans ho,(k.block b (Gq hh) hij).trans hh⟩,h1,fun k' hk hq=>let ⟨v,a1,a2⟩:=h2 k' hk hq;⟨v,a1,a2.stp k hj⟩,h3⟩
def VS (i j:Nat) (g:Gh) (w:World) (et t:TypeId) (xs:Vector (List β) n) (p:Value):Prop:=∃ cs,VSF n i j g w et t xs p cs
theorem VS.ext (h:VS i j g w et t xs p) (k:Ext g w g' w'):VS i j g' w' et t xs p:=let ⟨cs,h⟩:=h;⟨cs,h.ext k⟩
theorem VS.stp {s:Nat} (h:VS i j g w et t xs p) (k:Stp s g w g' w') (hi:Nat.beq i s=false) (hj:Nat.beq j s=false:=by rfl):VS i j g' w' et t xs p:=let ⟨cs,h⟩:=h;⟨cs,h.stp k hi hj⟩
theorem CB.vs {cs:Array Value} (h:CB i g w t p cs) (hz:cs.toList=List.replicate n (.slice none 0 0)) (hx:xs.toList=List.replicate n []):VS i j g w et t xs p:=by
 obtain ⟨b,hp,ho,hh⟩:=h
 have hn:cs.size=n:=by rw [← Array.length_toList,hz,List.length_replicate]
 have hz2:∀ k,k<n→cs[k]?=some (.slice none 0 0):=fun k hk=>by rw [← Array.getElem?_toList,hz,List.getElem?_replicate,if_pos hk]
 have hx2:∀ k (h:k<n),xs[k]=[]:=fun k hk=>by
  have h1:xs.toList[k]?=some []:=by rw [hx,List.getElem?_replicate,if_pos hk]
  obtain ⟨_,h2⟩:=List.getElem?_eq_some_iff.1 h1
  simpa using h2
 refine ⟨cs,⟨b,hp,ho,hh⟩,hn,fun k hk _=>⟨_,hz2 k hk,by rw [hx2 k hk];exact OS.nil⟩,fun k k' b' v v' h1 _ _ e1 _ h2=>?_⟩
 have hk:k<n:=by rw [← hn];exact (Array.getElem?_eq_some_iff.1 e1).1
 rw [hz2 k hk] at e1
 injection e1 with e1
 rw [← e1] at h2
 cases h2
variable {P:Program} {e:Env} {K:Value→World→Prop} {x y:Operand}
theorem D_loadVS {tl:TypeId} {ii:Int} {b:List β} (hi:ii.toNat<n) (he:vat ii.toNat hi xs=b) (ha:∀ w,(isAgg tl).run P w=.ok false w) (hx:X e x=S p (ii.toNat*GoT.k (List β))) (hp:OB i g w t xs p) (h:VS i j g w et t xs p)
  (hk2:∀ cs v,VSF n i j g w et t xs p cs→cs[ii.toNat]?=some v→OS j g w et b v→RV g.m w b v→K v w):Doe P (.load tl x) e w K:=by
 obtain ⟨cs,hv⟩:=h
 have hv0:=hv
 obtain ⟨⟨b0,hp0,ho,hh⟩,h1,h2,h3⟩:=hv
 obtain ⟨v,a1,a2⟩:=h2 ii.toNat hi (by omega)
 subst he
 have hx2:X e x=.pointer (some ⟨b0,ii.toNat,none⟩):=by
  rw [hx,hp0,show GoT.k (List β)=1 from rfl]
  simp [S]
 refine Xf ha hx2 (by simp only [World.cell?,hh];exact a1) (hk2 cs v hv0 a1 a2 ?_)
 obtain ⟨b1,cs1,hp1,ho1,hm1,hh1,hr1⟩:=hp
 rw [hp0] at hp1
 injection hp1 with he;injection he with he;injection he with he _
 subst he
 rw [hh] at hh1
 injection hh1 with he;injection he with he
 subst he
 have hr2:=(Gl.dyn (β:=List β) hi).1.2 _ _ _ _ hr1
 have hk1:GoT.k (List β)=1:=rfl
 rw [hk1,Nat.mul_one] at hr2
 have hone:(cs.toList.drop ii.toNat).take 1=[v]:=by
  have:cs.toList[ii.toNat]?=some v:=by rw [Array.getElem?_toList];exact a1
  obtain ⟨hlt,hge⟩:=List.getElem?_eq_some_iff.1 this
  rw [List.drop_eq_getElem_cons hlt,hge];rfl
 rw [hone] at hr2
 exact ⟨_,hr2,rfl⟩
theorem VSF.apart {cs:Array Value} {k:Nat} {v v':Value} (h:VSF n i j g w et t xs p cs) (hk:k<n) (hv:cs[k]?=some v) (hij:Nat.beq i j=false) (hos:OS j g w et xs[k] v) (ha:Uy g w g' w' v v') :
  VSF k i j g' w' et t xs p cs∧∀ k' u b,k'≠k→cs[k']?=some u→u.ownBlock=some b→v'.ownBlock≠some b:=by
 obtain ⟨⟨b,hp,ho,hh⟩,h1,h2,h3⟩:=h
 have hne:∀ b' ,(g.o b'=i→v.ownBlock≠some b'):=fun b' hb' hvb=>by
  rcases hos with ⟨e1,_⟩ | ⟨b2,c,cs2,hval,hob,_⟩
  ·rw [e1] at hvb;cases hvb
  ·rw [hval] at hvb
   have:b2=b':=by simpa [Value.ownBlock] using hvb
   subst this
   rw [hb'] at hob
   rw [hob] at hij;simp at hij
 obtain ⟨q1,q2,q3,q4⟩:=ha b (Gq hh) (hne b ho)
 have hoth:∀ k' (hk':k'<n),k'≠k→∃ u,cs[k']?=some u∧OS j g' w' et xs[k'] u∧∀ b',u.ownBlock=some b'→v'.ownBlock≠some b':=fun k' hk' hkk=>by
  obtain ⟨u,a1,a2⟩:=h2 k' hk' (by omega)
  refine ⟨u,a1,?_,fun b' hb'=>?_⟩
  ·rcases a2 with h | ⟨b2,c,cs2,hval,hob,hmb,hh2,hr⟩
   ·exact .inl h
   ·have hub:u.ownBlock=some b2:=by rw [hval];rfl
    have hvn:v.ownBlock≠some b2:=h3 k' k b2 u v (by omega) (by omega) hkk a1 hv hub
    obtain ⟨z1,z2,z3,_⟩:=ha b2 (Gq hh2) hvn
    exact .inr ⟨b2,c,cs2,hval,z2.trans hob,z3.trans hmb,z1.trans hh2,hr⟩
  ·rcases a2 with h | ⟨b2,c,cs2,hval,hob,hmb,hh2,hr⟩
   ·rw [h.1] at hb';cases hb'
   ·have hub:u.ownBlock=some b2:=by rw [hval];rfl
    have e3:b2=b':=by rw [hub] at hb';injection hb'
    subst e3
    have hvn:v.ownBlock≠some b2:=h3 k' k b2 u v (by omega) (by omega) hkk a1 hv hub
    exact (ha b2 (Gq hh2) hvn).2.2.2
 refine ⟨⟨⟨b,hp,q2.trans ho,q1.trans hh⟩,h1,fun k' hk' hkk=>let ⟨u,a1,a2,_⟩:=hoth k' hk' hkk;⟨u,a1,a2⟩,fun k1 k2 b' v1 v2 e1 e2 e3 e4 e5 e6=>?_⟩,fun k' u b' hkk a1 hb'=>?_⟩
 ·have s1:k1<n:=by rw [← h1];exact (Array.getElem?_eq_some_iff.1 e4).1
  have s2:k2<n:=by rw [← h1];exact (Array.getElem?_eq_some_iff.1 e5).1
  exact h3 k1 k2 b' v1 v2 (by omega) (by omega) e3 e4 e5 e6
 ·have s1:k'<n:=by rw [← h1];exact (Array.getElem?_eq_some_iff.1 a1).1
  obtain ⟨u2,a2,_,a4⟩:=hoth k' s1 hkk
  rw [a1] at a2
  injection a2 with a2
  subst a2
  exact a4 b' hb'
theorem Mm {ta:TypeId} {ii:Int} {z:Value} {bytes:Nat} {b ys r:List β} {u v:Value} {cs:Array Value} (hi:ii.toNat<n) (he:vat ii.toNat hi xs=b)
  (ht:P.underlying ta=some (.slice et)) (hinfo:(P.info? et).map (fun i=>(i.zero,i.size,i.bytes))=some (some z,GoT.k β,bytes)) (hzs:z.cells.size=GoT.k β)
  (hx:X e x=u) (hf:VSF n i j g w et t xs p cs) (hc:cs[ii.toNat]?=some u) (hos:OS j g w et b u) (hu:RV g.m w b u) (hy:X e y=v) (hv:RV g.m w ys v) (hr:apnd bytes b ys=some r) (hij:Nat.beq i j=false)
  (h:∀ g' w' v',Stp j g w g' w'→OS j g' w' et r v'→RV g'.m w' r v'→VSF ii.toNat i j g' w' et t xs p cs→(∀ k' u b,k'≠ii.toNat→cs[k']?=some u→u.ownBlock=some b→v'.ownBlock≠some b)→K v' w'):Doe P (.call {callee:=.builtin .append,args:=#[x,y],argTypes:=#[ta,ta]}) e w K:=by
 subst he
 refine Im (g:=g) ht hinfo hzs hx hos hu hy hv hr fun g' w' v' hs o' r' ap=>?_
 obtain ⟨f1,f2⟩:=hf.apart hi hc hij hos ap
 exact h g' w' v' hs o' r' f1 f2
theorem Ie {tl:TypeId} {ii:Int} {v:Value} {r:List β} {cs:Array Value} (hi:ii.toNat<n) (hs:∀ w,(sizeOf tl).run P w=.ok (GoT.k (List β)) w) (hx:X e x=S p (ii.toNat*GoT.k (List β))) (hp:OB i g w t xs p) (hy:X e y=v) (hv:RV g.m w r v)
  (hos:OS j g w et r v) (hf:VSF ii.toNat i j g w et t xs p cs) (ho2:∀ k' u b,k'≠ii.toNat→cs[k']?=some u→u.ownBlock=some b→v.ownBlock≠some b) (hij:Nat.beq j i=false)
  (h:∀ g' w',Stp i g w g' w'→OB i g' w' t (Ja xs ii r) p→VS i j g' w' et t (Ja xs ii r) p→K undef w'):Doe P (.store tl x y) e w K:=fun d ty pos af gd=>by
 have hcl:v.cells=#[v]:=Kn hv
 have hk1:GoT.k (List β)=1:=rfl
 have hsub:=Gl.dyn (β:=List β) (n:=n) hi
 obtain ⟨bl,cs0,rfl,ho,hm,hh,hr⟩:=hp
 obtain ⟨⟨b',hp',hob',hh'⟩,h1,h2,h3⟩:=hf
 injection hp' with he;injection he with he;injection he with he _
 subst he
 rw [hh] at hh'
 injection hh' with he;injection he with he
 subst he
 have hsz:=Tl hv
 have hl:=GoT.len hr
 have hb:=hsub.1.1
 have hrun:=Wr (P:=P) (t:=tl) (v:=v) (b:=bl) (o:=ii.toNat*GoT.k (List β)) (by rw [hsz];exact hs) hh (by simp at hl;omega) (GoT.one hv.cells)
 have hrep:=hsub.2 _ _ _ _ _ _ hr hv.cells
 rw [show v.cells.toList.length=v.cells.size from by simp] at hrep
 generalize hrow:cs0.toList.take (ii.toNat*GoT.k (List β))++v.cells.toList++cs0.toList.drop (ii.toNat*GoT.k (List β)+v.cells.size)=row at hrun hrep
 have hstp:Stp i g w g (w.setRow bl row.toArray):=Y8 hh ho (fun j hj=>by rw [hm] at hj;omega)
 have hrun2:(execOp (X e) ⟨d,.store tl x y,ty,pos,af,gd⟩).run P w=.ok .skip (w.setRow bl row.toArray):=by
  simp [execOp,hx,hy,S,Instr.storeAt,Instr.sureAddr,Result.andThen,hrun]
 have hrw:row=cs0.toList.set ii.toNat v:=by
  rw [← hrow,hcl,hk1,Nat.mul_one,List.set_eq_take_append_cons_drop,if_pos (by rw [Array.length_toList,h1];exact hi)]
  simp
 have hget:∀ k,row.toArray[k]?=if k=ii.toNat then some v else cs0[k]?:=fun k=>by
  rw [List.getElem?_toArray,hrw,List.getElem?_set,Array.length_toList,h1,Array.getElem?_toList]
  by_cases hk:ii.toNat=k
  ·rw [if_pos hk,if_pos (hk▸hi),if_pos hk.symm]
  ·rw [if_neg hk,if_neg (Ne.symm hk)]
 unfold doE;rw [hrun2]
 refine h g _ hstp ⟨bl,_,rfl,ho,hm,T4 _ _ hh,by simpa using GoT.mono hstp.ch hrep⟩ ⟨row.toArray,⟨bl,rfl,ho,T4 _ _ hh⟩,by rw [hrw];simpa using h1,fun k hk _=>?_,fun k k' b v1 v2 _ _ hne e1 e2 o1 o2=>?_⟩
 ·rw [hget]
  by_cases hkk:k=ii.toNat
  ·subst hkk
   refine ⟨v,if_pos rfl,?_⟩
   have:(Ja xs ii r)[ii.toNat]=r:=by unfold Ja;rw [Vector.getElem_setIfInBounds_self]
   rw [this];exact hos.stp hstp hij
  ·obtain ⟨u,a1,a2⟩:=h2 k hk hkk
   refine ⟨u,by rw [if_neg hkk];exact a1,?_⟩
   have:(Ja xs ii r)[k]=xs[k]:=by unfold Ja;rw [Vector.getElem_setIfInBounds_ne hk (Ne.symm hkk)]
   rw [this];exact a2.stp hstp hij
 ·rw [hget] at e1 e2
  by_cases k1:k=ii.toNat
  ·rw [if_pos k1] at e1
   rw [if_neg (by omega)] at e2
   injection e1 with e1
   subst e1
   exact ho2 k' v2 b (by omega) e2 o2 o1
  ·rw [if_neg k1] at e1
   by_cases k2:k'=ii.toNat
   ·rw [if_pos k2] at e2
    injection e2 with e2
    subst e2
    exact ho2 k v1 b k1 e1 o1 o2
   ·rw [if_neg k2] at e2
    exact h3 k k' b v1 v2 k1 k2 hne e1 e2 o1 o2
end
end Go.Proofs.YtpglkdijpcgcaaaGreatDoor
