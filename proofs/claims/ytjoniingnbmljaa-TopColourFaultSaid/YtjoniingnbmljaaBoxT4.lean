/- Laws of plain functions, part 4. -/
import Derived.Test.YtjoniingnbmljaaBoxT3
set_option maxRecDepth 8000
namespace Go.Proofs.Ytjoniingnbmljaa
open Go.RowKit
open Classical
theorem s58 {l : BoxLoom} (hl : LOk l) {cs : List Int} (hlen : cs.length ≤ 1000) {k : Nat} (hk : k < 1000) {l' : BoxLoom} {pt : BoxPoint} {m : List (BoxPoint × Int)} (hl' : LOk l') (hB : l'.Boxes = l.Boxes) (hr : pt.race = rc l') (hv : Vs cs pt (k + 1)) (hm : KOk (nbx l 0) (nbx l 1) (sgl cs) (Vs cs) m)
  (hlt:cL (cs.drop (cs.length - (k + 1))) l' < never) :
  Yes (f69 ⟨(nbx l 0:Int),(nbx l 1:Int),⟨⟩⟩ m (sgl cs) pt) (fun r=>∃ n,LOk n∧n.Boxes=l.Boxes∧r.2.1.race=rc n∧Vs cs r.2.1 k∧KOk (nbx l 0) (nbx l 1) (sgl cs) (Vs cs) r.2.2∧(rf (cs.drop (cs.length - (k + 1))) l').1=r.1 :: (rf (cs.drop (cs.length - k)) n).1∧cL (cs.drop (cs.length - k)) n < never):=by
 have hV:=pts_sgl (cs:=cs) hlen
 obtain ⟨g,h1,h2,h3⟩:=hv
 have hg:g < cs.length:=by omega
 have hd:cs.drop (cs.length - (k + 1))=cs[g] :: cs.drop (cs.length - k):=by
  rw [show cs.length - (k + 1)=g by omega,show cs.length - k=g + 1 by omega]; exact List.drop_eq_getElem_cons hg
 have hdl:(cs.drop (cs.length - k)).length ≤ 1000:=by simp; omega
 rw [hd] at hlt ⊢
 obtain ⟨x1,p,x2,x,z1,z2,z3,z4,z5⟩:=rf_first hdl hl' hlt
 have hpa:p ∈ allP l':=by rw [z1]; simp
 obtain ⟨w1,w2,w3,w4⟩:=wv_ok hl' hpa z2
 have hst:stL l'=x1.filterMap (stp l') ++ (p,⟨rc x.1,colr l' x.2.1,x.2.2⟩) :: x2.filterMap (stp l'):=by
  unfold stL
  rw [z1,List.filterMap_append,List.filterMap_cons]
  have:stp l' p=some (p,⟨rc x.1,colr l' x.2.1,x.2.2⟩):=by unfold stp; rw [z2.1]; rfl
  rw [this]
 obtain ⟨pg,pd,pr⟩:=pt
 simp only at h1 h2 hr
 subst h1 h2 hr
 have hvp:Vs cs ⟨(g:Int),0,rc l'⟩ (k + 1):=⟨g,rfl,rfl,h3⟩
 have tot:cst (nbx l 0) (nbx l 1) (fun p s=>f140 p (sgl cs) s) (k + 1) ⟨(g:Int),0,rc l'⟩=cL (cs[g] :: cs.drop (cs.length - k)) l':=by rw [cst_cL hlen (k + 1) hl' hB rfl hvp,hd]
 unfold f69
 refine Yes.jn (Yes.bind ?_)
 refine (Yes.mono (Q':=fun r=>r.1=1∧∃ n,LOk n∧n.Boxes=l.Boxes∧r.2.2.1.race=rc n∧Vs cs r.2.2.1 k∧KOk (nbx l 0) (nbx l 1) (sgl cs) (Vs cs) r.2.2.2∧(rf (cs[g] :: cs.drop (cs.length - k)) l').1=r.2.1 :: (rf (cs.drop (cs.length - k)) n).1∧cL (cs.drop (cs.length - k)) n < never) ?_ fun r hr=>?_)
 ·show Yes (f215 _ _ _ _ _) _
  rw [← nbx_of hB,← nbx_of hB]
  refine s98 hl' ?_
  rw [hst]
  rw [nbx_of hB,nbx_of hB]
  -- a round for a pick that weaves the colour
  have rnd : ∀ (y : BoxPick × BoxStep) (n : BoxLoom), LOk n → n.Boxes = l'.Boxes → y.2.next = rc n → 0 ≤ y.2.moves ∧ y.2.moves ≤ 6 → y.2.colour = cs[g] → ∀ (s : BoxPick × BoxPoint × List (BoxPoint × Int)) (R : Bool × (Nat × BoxPick × BoxPoint × List (BoxPoint × Int)) → Prop), KOk (nbx l 0) (nbx l 1) (sgl cs) (Vs cs) s.2.2 →
    (∀ mm,KOk (nbx l 0) (nbx l 1) (sgl cs) (Vs cs) mm→(y.2.moves + cL (cs.drop (cs.length - k)) n=cL (cs[g] :: cs.drop (cs.length - k)) l'→R (false,1,y.1,⟨((g + 1:Nat):Int),0,y.2.next⟩,mm))∧(y.2.moves + cL (cs.drop (cs.length - k)) n ≠ cL (cs[g] :: cs.drop (cs.length - k)) l'→R (true,0,s.1,s.2.1,mm))) →
    Yes ((f140 ⟨(g:Int),0,rc l'⟩ (sgl cs) y.2).bind fun j7=>Option.bind (α:=Bool × (List (BoxPoint × Int))) (bif j7.2 then (f68 big ⟨(nbx l 0:Int),(nbx l 1:Int),⟨⟩⟩ s.2.2 (sgl cs) (j7.1)).bind fun jA=>(f68 big ⟨(nbx l 0:Int),(nbx l 1:Int),⟨⟩⟩ (jA.2) (sgl cs) ⟨(g:Int),0,rc l'⟩).bind fun qA=>some (((w64 ((y.2).moves + jA.1)) == qA.1),qA.2) else some (false,s.2.2)) fun (q8,v7)=>bif q8 then some (false,((1:Nat),(y.1,j7.1,v7))) else some (true,((0:Nat),(s.1,s.2.1,v7)))) R:=fun y n hn hnB hnx hmv hcol s R hks hR=>by
   have hv1:Vs cs ⟨((g + 1:Nat):Int),0,y.2.next⟩ k:=⟨g + 1,rfl,rfl,by omega⟩
   have e1:f140 ⟨(g:Int),0,rc l'⟩ (sgl cs) y.2=some (⟨((g + 1:Nat):Int),0,y.2.next⟩,true):=by rw [s88s hg hlen,hcol]; simp
   rw [e1,Option.bind_some]
   have cr:=cL_rng (cs.drop (cs.length - k)) hn hdl
   refine Yes.bind (qtake rfl (Yes.bind ((s57 hl hV k big (Nat.lt_trans hk (by unfold big; omega)) hn (hnB.trans hB) hnx hv1 hks).mono fun a ha=>Yes.bind ((s57 hl hV (k + 1) big (Nat.lt_of_le_of_lt (by omega:k + 1 ≤ 1000) (by unfold big; omega)) hl' hB rfl hvp ha.2).mono fun b hb=>Yes.some ?_))))
   obtain ⟨a1,_⟩:=ha
   obtain ⟨b1,b2⟩:=hb
   rw [cst_cL hlen k hn (hnB.trans hB) hnx hv1] at a1
   rw [tot] at b1
   rw [a1,b1,w64_id (by unfold never at *; omega) (by unfold never at *; omega)]
   by_cases hq:y.2.moves + cL (cs.drop (cs.length - k)) n=cL (cs[g] :: cs.drop (cs.length - k)) l'
   ·exact qtake (beq_iff_eq.2 hq) (Yes.some ((hR _ b2).1 hq))
   ·exact qskip (beq_eq_false_iff_ne.2 hq) (Yes.some ((hR _ b2).2 hq))
  refine runL_first (I:=fun s=>s.1=0∧KOk (nbx l 0) (nbx l 1) (sgl cs) (Vs cs) s.2.2.2) _ _ _ _ ⟨rfl,hm⟩ (fun y hy s hs=>?_) (fun s hs=>?_)
  ·obtain ⟨q, hq, hqe⟩ := List.mem_filterMap.1 hy
   obtain ⟨t,s⟩:=s
   obtain ⟨ht,hs⟩:=hs
   simp only at ht hs
   subst ht
   rw [guardC_0]
   have hqa:q ∈ allP l':=by rw [z1]; simp [hq]
   unfold stp at hqe
   cases ho:oneL l' q with
   | none=>rw [ho] at hqe; cases hqe
   | some v=>
    rw [ho] at hqe
    cases hqe
    obtain ⟨o1,o2,_,_,o5,o6⟩:=oneL_ok hl' ((mem_allP hl').1 hqa) (show oneL l' q=some (v.1,v.2.1,v.2.2) from ho)
    by_cases hc:colr l' v.2.1=cs[g]
    ·refine rnd (q, ⟨rc v.1, colr l' v.2.1, v.2.2⟩) v.1 o1 o2 rfl ⟨o5, o6⟩ hc s _ hs fun mm hmm => ⟨fun he => ?_, fun _ => ⟨rfl, rfl, hmm⟩⟩
     have:=z5 q hq v ⟨ho,hc⟩
     have he:v.2.2 + cL (cs.drop (cs.length - k)) v.1=cL (cs[g] :: cs.drop (cs.length - k)) l':=he
     omega
    ·have e1:f140 ⟨(g:Int),0,rc l'⟩ (sgl cs) ⟨rc v.1,colr l' v.2.1,v.2.2⟩=some (⟨(g:Int),0,rc l'⟩,false):=by
      rw [s88s hg hlen,show (cs[g] == colr l' v.2.1)=false from beq_eq_false_iff_ne.2 fun h=>hc h.symm]; rfl
     show Yes ((f140 ⟨(g:Int),0,rc l'⟩ (sgl cs) ⟨rc v.1,colr l' v.2.1,v.2.2⟩).bind _) _
     rw [e1,Option.bind_some]
     exact Yes.bind (qskip rfl (Yes.some (qskip rfl (Yes.some ⟨rfl,rfl,hs⟩))))
  ·obtain ⟨t, s⟩ := s
   obtain ⟨ht,hs⟩:=hs
   simp only at ht hs
   subst ht
   rw [guardC_0]
   refine rnd (p,⟨rc x.1,colr l' x.2.1,x.2.2⟩) x.1 w1 w2 rfl ⟨w3,w4⟩ z2.2 s _ hs fun mm hmm=>⟨fun _=>⟨rfl,rfl,x.1,w1,w2.trans hB,rfl,⟨g + 1,rfl,rfl,by omega⟩,hmm,z4,by omega⟩,fun hne=>absurd z3 hne⟩
 ·obtain ⟨t, r1, r2, r3⟩ := r
  obtain ⟨ht,n,hn⟩:=hr
  simp only at ht
  subst ht
  exact qskip rfl (Yes.some ⟨n,hn⟩)
theorem s52 (xs:List Int) (h:xs.length ≤ 1000):f63 xs=some (xs.all (btw 0 9)):=by unfold f63; rw [s87 _ _ _ (by omega)]; rfl
theorem kok_nil {B0 B1:Nat} {gs:List (List Int)} {V:BoxPoint→Nat→Prop}:KOk B0 B1 gs V []:=⟨fun h=>by cases h⟩
theorem s17 {l:BoxLoom} {cs:List Int} (hl:LOk l) (h24:cs.length ≤ 24) (hc:cs.all (btw 0 9)=true):f10 l cs=some (if (rf cs l).2.2=cs.length then ((rf cs l).1,(rf cs l).2.1,0,0) else ([],0,(rf cs l).2.2,9)):=by
 have hR:=rf_ok cs (by omega) hl
 have hfar:=hR.far
 refine Yes.eq ?_
 unfold f10
 refine qbind _ (s51 l hl.sml) (Yes.jn (qskip (by rw [chk0.2 hl]; rfl) (qskip (decide_eq_false (by omega)) (qbind _ (s52 cs (by omega)) (qskip (by rw [hc]; rfl) (qbind _ (s53 cs (by omega)) (qbind _ (s54r hl) (Yes.jn ?_))))))))
 refine Yes.upto cs.length (by omega) (fun t s=>(t:Int) ≤ (rf cs l).2.2∧s=[]) ⟨hfar.1,rfl⟩ (fun t s k ht hI hk=>?_) (fun s k hI=>?_)
 ·obtain ⟨hI, rfl⟩ := hI
  have hcut:cut (sgl cs) 0 (w64 ((t:Int) + 1))=some (sgl (cs.take (t + 1))):=by
   rw [w64_id (by omega) (by omega)]
   unfold cut
   rw [if_pos ⟨by omega,by omega,by rw [sgl_len]; omega⟩,show ((t:Int) + 1).toNat=t + 1 by omega]
   simp [sgl,List.map_take]
  have hlen':(cs.take (t + 1)).length ≤ 1000:=by simp; omega
  have hv:Vs (cs.take (t + 1)) ⟨0,0,rc l⟩ (t + 1):=⟨0,rfl,rfl,by simp; omega⟩
  refine qtake (by simp; omega) (Yes.jn (qbind _ (s56 hl) (qbind _ hcut (Yes.bind ((s57 hl (pts_sgl hlen') (t + 1) big (by unfold big; omega) hl rfl rfl hv kok_nil).mono fun r hr=>?_)))))
  obtain ⟨hr,_⟩:=hr
  rw [cst_cL hlen' (t + 1) hl rfl rfl hv,show (cs.take (t + 1)).length - (t + 1)=0 by simp; omega,List.drop_zero] at hr
  have hp:=hR.pre (t + 1) (by omega)
  refine Yes.cond (fun hc=>Yes.some ?_) (fun hc=>hk _ ⟨?_,rfl⟩)
  ·have hge : r.1 ≥ never := of_decide_eq_true hc
   have:¬ ((t + 1:Nat):Int) ≤ (rf cs l).2.2:=fun h=>by have:=hp.2 h; omega
   rw [if_neg (by omega),show (rf cs l).2.2=(t:Int) by omega]
  ·have hlt : ¬ r.1 ≥ never := of_decide_eq_false hc
   exact hp.1 (by omega)
 ·obtain ⟨hI, rfl⟩ := hI
  have hall:(rf cs l).2.2=cs.length:=by omega
  have hlt:=hR.all.2 hall
  have hv:Vs cs ⟨0,0,rc l⟩ cs.length:=⟨0,rfl,rfl,by omega⟩
  rw [if_pos hall]
  refine qskip (by simp) (qbind _ (s56 hl) (Yes.bind ((s57 hl (pts_sgl (by omega)) cs.length big (by unfold big; omega) hl rfl rfl hv kok_nil).mono fun r hr=>?_)))
  obtain ⟨hr,hk⟩:=hr
  rw [cst_cL (by omega) cs.length hl rfl rfl hv,Nat.sub_self,List.drop_zero,← hR.mv hlt] at hr
  rw [hr]
  refine Yes.bind (Yes.mono (Q':=fun s=>s.1=(rf cs l).1) ?_ fun s hs=>Yes.some (by rw [hs]))
  refine Yes.lp (fun s=>∃ k n,LOk n∧n.Boxes=l.Boxes∧s.2.1.race=rc n∧Vs cs s.2.1 k∧KOk (nbx l 0) (nbx l 1) (sgl cs) (Vs cs) s.2.2∧s.1 ++ (rf (cs.drop (cs.length - k)) n).1=(rf cs l).1∧cL (cs.drop (cs.length - k)) n < never∧s.1.length + k=cs.length) (fun s=>cs.length - s.1.length) ⟨cs.length,l,hl,rfl,rfl,hv,hk,by rw [Nat.sub_self,List.drop_zero]; rfl,by rw [Nat.sub_self,List.drop_zero]; exact hlt,by simp⟩ (by simp; omega) ?_
  rintro ⟨ps,pt,m⟩ kk ⟨k,n,a1,a2,a3,a4,a5,a6,a7,a8⟩ hkk
  simp only at a3 a4 a5 a6 a8
  have hz:=(pts_sgl (cs:=cs) (by omega)).zero a4
  rw [sgl_len] at hz
  obtain ⟨g,g1,g2,g3⟩:=id a4
  refine Yes.jn (Yes.cond (fun hc2=>?_) (fun hc2=>Yes.some ?_))
  ·have hlt2 : pt.group < ((sgl cs).length : Int) := of_decide_eq_true hc2
   rw [sgl_len] at hlt2
   obtain ⟨k,rfl⟩:∃ k',k=k' + 1:=⟨k - 1,by omega⟩
   refine Yes.bind (Yes.bind ((s58 hl (by omega) (by omega) a1 a2 a3 a4 a5 a7).mono fun b hb=>Yes.bind (Yes.apnd (by simp; omega) (by simp; omega) (Yes.some ?_))))
   obtain ⟨n',b1,b2,b3,b4,b5,b6,b7⟩:=hb
   refine hkk _ ⟨k,n',b1,b2,b3,b4,b5,?_,b7,by simp; omega⟩ ?_
   ·show (ps ++ [b.1]) ++ _ = _
    rw [← a6,b6]; simp
   ·show cs.length - (ps ++ [b.1]).length < cs.length - ps.length
    simp; omega
  ·have hge : ¬ pt.group < ((sgl cs).length : Int) := of_decide_eq_false hc2
   rw [sgl_len] at hge
   have hk0:k=0:=by omega
   subst hk0
   rw [Nat.sub_zero,List.drop_length,rf,List.append_nil] at a6
   exact a6
theorem oneL_cols {l:BoxLoom} (hd:Dst l.Shuttles) {p:BoxPick} {n:BoxLoom} {i:Nat} {m:Int} (h:oneL l p=some (n,i,m)) (t:List Nat):t.map (colr n)=t.map (colr l):=List.map_congr_left fun j _=>oneL_colr hd h j
theorem rf_plan : ∀ (cs : List Int) {l : BoxLoom}, cs.length ≤ 1000 → LOk l → cL cs l < never → (∃ n, thr l (rf cs l).1 = some n) ∧ (∀ p ∈ (rf cs l).1, okP l.Boxes p = true) ∧ (thl l (rf cs l).1).map (colr l) = cs ∧ mvt l (rf cs l).1 = cL cs l
 | [],l,_,_,_=>by rw [rf,cL]; exact ⟨⟨l,by rw [thr]⟩,by simp,by rw [thl]; rfl,by rw [mvt]⟩
 | c :: cs,l,hlen,hl,hlt=>by
  simp only [List.length_cons] at hlen
  obtain ⟨x1,p,x2,x,z1,z2,z3,z4,_⟩:=rf_first (by omega) hl hlt
  have hpa:p ∈ allP l:=by rw [z1]; simp
  obtain ⟨w1,w2,w3,w4⟩:=wv_ok hl hpa z2
  obtain ⟨⟨n,i1⟩,i2,i3,i4⟩:=rf_plan cs (by omega) w1 (by omega)
  have ho:oneL l p=some (x.1,x.2.1,x.2.2):=z2.1
  rw [z4]
  refine ⟨⟨n,by rw [thr_cons,ho]; exact i1⟩,fun q hq=>?_,?_,?_⟩
  ·rcases List.mem_cons.1 hq with rfl | hq
   ·exact (mem_allP hl).1 hpa
   ·rw [← w2]; exact i2 q hq
  ·rw [thl, ho]
   show (x.2.1 :: thl x.1 (rf cs x.1).1).map (colr l)=_
   rw [List.map_cons,← oneL_cols hl.dst ho,i3,z2.2]
  ·rw [mvt, ho]
   show x.2.2 + mvt x.1 (rf cs x.1).1=_
   rw [i4,z3]
theorem s17p {l:BoxLoom} {cs:List Int} (hl:LOk l) (h24:cs.length ≤ 24) (hc:cs.all (btw 0 9)=true) (hlt:cL cs l < never):f10 l cs=some ((rf cs l).1,cL cs l,0,0):=by
 have hR:=rf_ok cs (by omega) hl
 rw [s17 hl h24 hc,if_pos (hR.all.1 hlt),hR.mv hlt]
end Go.Proofs.Ytjoniingnbmljaa
