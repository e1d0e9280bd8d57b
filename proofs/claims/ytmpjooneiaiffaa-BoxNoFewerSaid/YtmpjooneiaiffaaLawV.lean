/- BoxFewests. -/
import Derived.Test.YtmpjooneiaiffaaLawAA
import Derived.Test.YtmpjooneiaiffaaLawZ
set_option maxRecDepth 8000
namespace Go.Proofs.Ytmpjooneiaiffaa
open Go.RowKit
open Classical

/-! ### Groups of one colour -/
def sgl (cs:List Int):List (List Int):=cs.map fun c=>[c]
theorem sgl_len {cs:List Int}:(sgl cs).length=cs.length:=by simp [sgl]
theorem sgl_at {cs:List Int} {i:Nat} (h:i < cs.length):idx (sgl cs) (i:Int)=some [cs[i]]:=by rw [qidx (by rw [sgl_len]; exact h)]; simp [sgl]
theorem s53 (cs:List Int) (h:cs.length ≤ 1000):f53 cs=some (sgl cs):=by
 refine Yes.eq ?_
 unfold f53
 refine Yes.bind (Yes.mono (Q':=fun r=>r=sgl cs) ?_ fun r hr=>Yes.some hr)
 refine Yes.upto cs.length (by omega) (fun i s=>s=(sgl cs).take i) (by simp) (fun i s k hi hI hk=>?_) (fun s k hI=>qskip (by simp) (Yes.some ?_))
 ·have hs : s.length ≤ 1000 := by rw [hI]; simp [sgl]; omega
  refine qtake (by simp; omega) (Yes.bind (qbind _ (qidx hi) (Yes.bind (Yes.apnd (by simp; omega) (by simp; omega) (Yes.some (hk _ ?_))))))
  rw [take_succ (by rw [sgl_len]; exact hi),hI]
  simp [sgl]
 ·rw [hI,← sgl_len,List.take_length]
def Vs (cs:List Int) (pt:BoxPoint) (k:Nat):Prop:=∃ g:Nat,pt.group=(g:Int)∧pt.done=0∧g + k=cs.length
theorem s65s {cs:List Int} {g:Nat} (hg:g < cs.length) (hl:cs.length ≤ 1000) (r:BoxRace):f65 ⟨(g:Int),1,r⟩ (sgl cs)=some ⟨((g + 1:Nat):Int),0,r⟩:=by
 refine Yes.eq ?_
 unfold f65
 refine Yes.bind (Yes.mono (Q':=fun p=>p=⟨((g + 1:Nat):Int),0,r⟩) ?_ fun p hp=>Yes.some hp)
 have sh:shl64 (1:Int) (([cs[g]]:List Int).length:Int)=some 2:=rfl
 refine Yes.lp (fun s=>s=⟨(g:Int),1,r⟩ ∨ s=⟨((g + 1:Nat):Int),0,r⟩) (fun s=>s.done.toNat) (.inl rfl) (by simp) ?_
 rintro s kk (rfl | rfl) hk
 ·refine Yes.jn (Yes.bind (qtake (decide_eq_true (by show (g : Int) < ((sgl cs).length : Int); rw [sgl_len]; omega)) (qbind _ (sgl_at hg) (qbind 2 rfl (Yes.some (qtake rfl (hk _ (.inr ?_) ?_)))))))
  ·show (⟨w64 ((g : Int) + 1), 0, r⟩ : BoxPoint) = _
   rw [w64_id (by omega) (by omega)]; simp
  ·show (0:Nat) < 1; omega
 ·refine Yes.jn (Yes.bind (Yes.cond (fun hc => ?_) (fun hc => Yes.some (qskip rfl (Yes.some rfl)))))
  have hlt:((g + 1:Nat):Int) < ((sgl cs).length:Int):=of_decide_eq_true hc
  rw [sgl_len] at hlt
  exact qbind _ (sgl_at (i:=g + 1) (by omega)) (qbind 2 rfl (Yes.some (qskip rfl (Yes.some rfl))))
theorem s88s {cs:List Int} {g:Nat} (hg:g < cs.length) (hl:cs.length ≤ 1000) (r:BoxRace) (s:BoxStep):f88 ⟨(g:Int),0,r⟩ (sgl cs) s=some (bif cs[g] == s.colour then (⟨((g + 1:Nat):Int),0,s.next⟩,true) else (⟨(g:Int),0,r⟩,false)):=by
 refine Yes.eq ?_
 unfold f88
 have hb1:bit64 .or (0:Int) 1=1:=by decide
 refine Yes.jn (qbind _ (sgl_at hg) ?_)
 refine Yes.lp (fun t=>t.1=⟨(g:Int),0,r⟩∧(t.2.2=0 ∨ (t.2.2=1∧(cs[g] == s.colour)=false))) (fun t=>1 - t.2.2.toNat) ⟨rfl,.inl rfl⟩ (by simp) ?_
 rintro ⟨p,q,u⟩ kk ⟨rfl,hu⟩ hk
 simp only at hu
 rcases hu with rfl | ⟨rfl,hc⟩
 ·refine qtake rfl (Yes.jn (qbind (cs[g]) rfl (Yes.bind (Yes.cond (fun hc => qbind (0 : Int) rfl (Yes.some ?_)) (fun hc => Yes.some (qskip rfl (hk _ ⟨rfl, .inr ⟨rfl, hc⟩⟩ ?_)))))))
  ·refine qtake rfl (qbind (1 : Int) rfl ?_)
   dsimp only
   rw [hb1]
   refine qbind _ (s65s hg hl s.next) (Yes.some ?_)
   rw [hc]; rfl
  ·show 1 - (1:Int).toNat < 1 - (0:Int).toNat; omega
 ·refine qskip rfl (Yes.some ?_)
  rw [hc]; rfl
theorem pts_sgl {cs : List Int} (hl : cs.length ≤ 1000) : Pts (sgl cs) (Vs cs) where
 zero:=by
  rintro pt k ⟨g,h1,h2,h3⟩
  rw [h1,sgl_len]
  constructor
  ·intro h; omega
  ·intro h; omega
 one:=by
  rintro pt k k' ⟨g,h1,h2,h3⟩ ⟨g',h1',h2',h3'⟩
  omega
 step:=by
  rintro pt k s ⟨g,h1,h2,h3⟩
  obtain ⟨pg,pd,pr⟩:=pt
  simp only at h1 h2
  subst h1 h2
  refine ⟨_,_,s88s (by omega) hl pr s,?_⟩
  cases hc:cs[g] == s.colour with
  | false=>intro h; cases h
  | true=>intro _; exact ⟨rfl,g + 1,rfl,rfl,by omega⟩
theorem foldl_mem {α β : Type} {f g : β → α → β} : ∀ (xs : List α) (b : β), (∀ x ∈ xs, ∀ b, f b x = g b x) → xs.foldl f b = xs.foldl g b
 | [],_,_=>rfl
 | x :: xs,b,h=>by rw [List.foldl_cons,List.foldl_cons,h x (by simp),foldl_mem xs _ fun y hy=>h y (by simp [hy])]
theorem cst_cL {l : BoxLoom} {cs : List Int} (hlen : cs.length ≤ 1000) : ∀ (k : Nat) {l' : BoxLoom} {pt : BoxPoint}, LOk l' → l'.Boxes = l.Boxes → pt.race = rc l' → Vs cs pt k → cst (nbx l 0) (nbx l 1) (fun p s => f88 p (sgl cs) s) k pt = cL (cs.drop (cs.length - k)) l'
 | 0,l',pt,_,_,_,_=>by rw [cst,Nat.sub_zero,List.drop_length,cL]
 | k + 1,l',pt,hl',hB,hr,hv=>by
  obtain ⟨g,h1,h2,h3⟩:=hv
  have hg:g < cs.length:=by omega
  have hd:cs.drop (cs.length - (k + 1))=cs[g] :: cs.drop (cs.length - k):=by
   rw [show cs.length - (k + 1)=g by omega,show cs.length - k=g + 1 by omega]; exact List.drop_eq_getElem_cons hg
  rw [cst,hd,cL,hr,← nbx_of hB,← nbx_of hB,pkR_rc hl']
  unfold stL
  rw [List.foldl_filterMap]
  refine foldl_mem _ _ fun p hp b=>?_
  obtain ⟨pg,pd,pr⟩:=pt
  simp only at h1 h2 hr
  subst h1 h2
  unfold stp minS
  cases ho:oneL l' p with
  | none=>rfl
  | some x=>
   obtain ⟨h4,h5,_⟩:=oneL_ok hl' ((mem_allP hl').1 hp) (show oneL l' p=some (x.1,x.2.1,x.2.2) from ho)
   simp only [Option.map_some]
   unfold cstS
   simp only [s88s hg hlen]
   by_cases hc:colr l' x.2.1=cs[g]
   ·rw [if_pos hc, show (cs[g] == colr l' x.2.1) = true from beq_iff_eq.2 hc.symm]
    simp only [cond_true]
    rw [nbx_of hB,nbx_of hB,cst_cL hlen k h4 (h5.trans hB) rfl ⟨g + 1,rfl,rfl,by omega⟩]
   ·rw [if_neg hc, show (cs[g] == colr l' x.2.1) = false from beq_eq_false_iff_ne.2 fun h => hc h.symm]
    rfl
theorem runL_first {σ α : Type} {cons : Cons σ α} {Q : σ → Prop} {I : σ → Prop} : ∀ (xs : List α) (x : α) (ys : List α) (s : σ), I s → (∀ y ∈ xs, ∀ s, I s → Yes (cons s y) (fun r => r.1 = true ∧ I r.2)) → (∀ s, I s → Yes (cons s x) (fun r => r.1 = false ∧ Q r.2)) → Yes (runL cons (xs ++ x :: ys) s) Q
 | [],x,ys,s,hs,_,hx=>by
  obtain ⟨r,hr,h1,h2⟩:=hx s hs
  rw [List.nil_append,runL,hr,Option.bind_some,h1]
  exact Yes.some h2
 | y :: xs,x,ys,s,hs,hy,hx=>by
  obtain ⟨r,hr,h1,h2⟩:=hy y (by simp) s hs
  rw [List.cons_append,runL,hr,Option.bind_some,h1]
  exact runL_first xs x ys r.2 h2 (fun z hz=>hy z (by simp [hz])) hx
theorem guardC_0 {SV α:Type} (body:SV→α→Option (Bool × (Nat × SV))) (s:SV) (x:α):guardC body (0,s) x=body s x:=rfl
theorem s58 {l : BoxLoom} (hl : LOk l) {cs : List Int} (hlen : cs.length ≤ 1000) {k : Nat} (hk : k < 1000) {l' : BoxLoom} {pt : BoxPoint} {m : List (BoxPoint × Int)} (hl' : LOk l') (hB : l'.Boxes = l.Boxes) (hr : pt.race = rc l') (hv : Vs cs pt (k + 1)) (hm : KOk (nbx l 0) (nbx l 1) (sgl cs) (Vs cs) m)
  (hlt:cL (cs.drop (cs.length - (k + 1))) l' < never) :
  Yes (f58 ⟨(nbx l 0:Int),(nbx l 1:Int),⟨⟩⟩ m (sgl cs) pt) (fun r=>∃ n,LOk n∧n.Boxes=l.Boxes∧r.2.1.race=rc n∧Vs cs r.2.1 k∧KOk (nbx l 0) (nbx l 1) (sgl cs) (Vs cs) r.2.2∧(rf (cs.drop (cs.length - (k + 1))) l').1=r.1 :: (rf (cs.drop (cs.length - k)) n).1∧cL (cs.drop (cs.length - k)) n < never):=by
 have hV:=pts_sgl (cs:=cs) hlen
 obtain ⟨g,h1,h2,h3⟩:=hv
 have hg:g < cs.length:=by omega
 have hd:cs.drop (cs.length - (k + 1))=cs[g] :: cs.drop (cs.length - k):=by
  rw [show cs.length - (k + 1)=g by omega,show cs.length - k=g + 1 by omega]; exact List.drop_eq_getElem_cons hg
 have hdl:(cs.drop (cs.length - k)).length ≤ 1000:=by simp; omega
 rw [hd] at hlt ⊢
 obtain ⟨x1,p,x2,x,z1,z2,z3,z4,z5⟩:=rf_first hdl hl' hlt
 have hpa:p ∈ allP l':=by rw [z1]; simp
 obtain ⟨w1,w2,w3,w4⟩:=wv_ok hl' hpa z2
 have hst:stL l'=x1.filterMap (stp l') ++ (p,⟨rc x.1,colr l' x.2.1,x.2.2⟩) :: x2.filterMap (stp l'):=by
  unfold stL
  rw [z1,List.filterMap_append,List.filterMap_cons]
  have:stp l' p=some (p,⟨rc x.1,colr l' x.2.1,x.2.2⟩):=by unfold stp; rw [z2.1]; rfl
  rw [this]
 obtain ⟨pg,pd,pr⟩:=pt
 simp only at h1 h2 hr
 subst h1 h2 hr
 have hvp:Vs cs ⟨(g:Int),0,rc l'⟩ (k + 1):=⟨g,rfl,rfl,h3⟩
 have tot:cst (nbx l 0) (nbx l 1) (fun p s=>f88 p (sgl cs) s) (k + 1) ⟨(g:Int),0,rc l'⟩=cL (cs[g] :: cs.drop (cs.length - k)) l':=by rw [cst_cL hlen (k + 1) hl' hB rfl hvp,hd]
 unfold f58
 refine Yes.jn (Yes.bind ?_)
 refine (Yes.mono (Q':=fun r=>r.1=1∧∃ n,LOk n∧n.Boxes=l.Boxes∧r.2.2.1.race=rc n∧Vs cs r.2.2.1 k∧KOk (nbx l 0) (nbx l 1) (sgl cs) (Vs cs) r.2.2.2∧(rf (cs[g] :: cs.drop (cs.length - k)) l').1=r.2.1 :: (rf (cs.drop (cs.length - k)) n).1∧cL (cs.drop (cs.length - k)) n < never) ?_ fun r hr=>?_)
 ·show Yes (f98 _ _ _ _ _) _
  rw [← nbx_of hB,← nbx_of hB]
  refine s98 hl' ?_
  rw [hst]
  rw [nbx_of hB,nbx_of hB]
  -- a round for a pick that weaves the colour
  have rnd : ∀ (y : BoxPick × BoxStep) (n : BoxLoom), LOk n → n.Boxes = l'.Boxes → y.2.next = rc n → 0 ≤ y.2.moves ∧ y.2.moves ≤ 6 → y.2.colour = cs[g] → ∀ (s : BoxPick × BoxPoint × List (BoxPoint × Int)) (R : Bool × (Nat × BoxPick × BoxPoint × List (BoxPoint × Int)) → Prop), KOk (nbx l 0) (nbx l 1) (sgl cs) (Vs cs) s.2.2 →
    (∀ mm,KOk (nbx l 0) (nbx l 1) (sgl cs) (Vs cs) mm→(y.2.moves + cL (cs.drop (cs.length - k)) n=cL (cs[g] :: cs.drop (cs.length - k)) l'→R (false,1,y.1,⟨((g + 1:Nat):Int),0,y.2.next⟩,mm))∧(y.2.moves + cL (cs.drop (cs.length - k)) n ≠ cL (cs[g] :: cs.drop (cs.length - k)) l'→R (true,0,s.1,s.2.1,mm))) →
    Yes ((f88 ⟨(g:Int),0,rc l'⟩ (sgl cs) y.2).bind fun j7=>Option.bind (α:=Bool × (List (BoxPoint × Int))) (bif j7.2 then (f57 big ⟨(nbx l 0:Int),(nbx l 1:Int),⟨⟩⟩ s.2.2 (sgl cs) (j7.1)).bind fun jA=>(f57 big ⟨(nbx l 0:Int),(nbx l 1:Int),⟨⟩⟩ (jA.2) (sgl cs) ⟨(g:Int),0,rc l'⟩).bind fun qA=>some (((w64 ((y.2).moves + jA.1)) == qA.1),qA.2) else some (false,s.2.2)) fun (q8,v7)=>bif q8 then some (false,((1:Nat),(y.1,j7.1,v7))) else some (true,((0:Nat),(s.1,s.2.1,v7)))) R:=fun y n hn hnB hnx hmv hcol s R hks hR=>by
   have hv1:Vs cs ⟨((g + 1:Nat):Int),0,y.2.next⟩ k:=⟨g + 1,rfl,rfl,by omega⟩
   have e1:f88 ⟨(g:Int),0,rc l'⟩ (sgl cs) y.2=some (⟨((g + 1:Nat):Int),0,y.2.next⟩,true):=by rw [s88s hg hlen,hcol]; simp
   rw [e1,Option.bind_some]
   have cr:=cL_rng (cs.drop (cs.length - k)) hn hdl
   refine Yes.bind (qtake rfl (Yes.bind ((s57 hl hV k big (Nat.lt_trans hk (by unfold big; omega)) hn (hnB.trans hB) hnx hv1 hks).mono fun a ha=>Yes.bind ((s57 hl hV (k + 1) big (Nat.lt_of_le_of_lt (by omega:k + 1 ≤ 1000) (by unfold big; omega)) hl' hB rfl hvp ha.2).mono fun b hb=>Yes.some ?_))))
   obtain ⟨a1,_⟩:=ha
   obtain ⟨b1,b2⟩:=hb
   rw [cst_cL hlen k hn (hnB.trans hB) hnx hv1] at a1
   rw [tot] at b1
   rw [a1,b1,w64_id (by unfold never at *; omega) (by unfold never at *; omega)]
   by_cases hq:y.2.moves + cL (cs.drop (cs.length - k)) n=cL (cs[g] :: cs.drop (cs.length - k)) l'
   ·exact qtake (beq_iff_eq.2 hq) (Yes.some ((hR _ b2).1 hq))
   ·exact qskip (beq_eq_false_iff_ne.2 hq) (Yes.some ((hR _ b2).2 hq))
  refine runL_first (I:=fun s=>s.1=0∧KOk (nbx l 0) (nbx l 1) (sgl cs) (Vs cs) s.2.2.2) _ _ _ _ ⟨rfl,hm⟩ (fun y hy s hs=>?_) (fun s hs=>?_)
  ·obtain ⟨q, hq, hqe⟩ := List.mem_filterMap.1 hy
   obtain ⟨t,s⟩:=s
   obtain ⟨ht,hs⟩:=hs
   simp only at ht hs
   subst ht
   rw [guardC_0]
   have hqa:q ∈ allP l':=by rw [z1]; simp [hq]
   unfold stp at hqe
   cases ho:oneL l' q with
   | none=>rw [ho] at hqe; cases hqe
   | some v=>
    rw [ho] at hqe
    cases hqe
    obtain ⟨o1,o2,_,_,o5,o6⟩:=oneL_ok hl' ((mem_allP hl').1 hqa) (show oneL l' q=some (v.1,v.2.1,v.2.2) from ho)
    by_cases hc:colr l' v.2.1=cs[g]
    ·refine rnd (q, ⟨rc v.1, colr l' v.2.1, v.2.2⟩) v.1 o1 o2 rfl ⟨o5, o6⟩ hc s _ hs fun mm hmm => ⟨fun he => ?_, fun _ => ⟨rfl, rfl, hmm⟩⟩
     have:=z5 q hq v ⟨ho,hc⟩
     have he:v.2.2 + cL (cs.drop (cs.length - k)) v.1=cL (cs[g] :: cs.drop (cs.length - k)) l':=he
     omega
    ·have e1:f88 ⟨(g:Int),0,rc l'⟩ (sgl cs) ⟨rc v.1,colr l' v.2.1,v.2.2⟩=some (⟨(g:Int),0,rc l'⟩,false):=by
      rw [s88s hg hlen,show (cs[g] == colr l' v.2.1)=false from beq_eq_false_iff_ne.2 fun h=>hc h.symm]; rfl
     show Yes ((f88 ⟨(g:Int),0,rc l'⟩ (sgl cs) ⟨rc v.1,colr l' v.2.1,v.2.2⟩).bind _) _
     rw [e1,Option.bind_some]
     exact Yes.bind (qskip rfl (Yes.some (qskip rfl (Yes.some ⟨rfl,rfl,hs⟩))))
  ·obtain ⟨t, s⟩ := s
   obtain ⟨ht,hs⟩:=hs
   simp only at ht hs
   subst ht
   rw [guardC_0]
   refine rnd (p,⟨rc x.1,colr l' x.2.1,x.2.2⟩) x.1 w1 w2 rfl ⟨w3,w4⟩ z2.2 s _ hs fun mm hmm=>⟨fun _=>⟨rfl,rfl,x.1,w1,w2.trans hB,rfl,⟨g + 1,rfl,rfl,by omega⟩,hmm,z4,by omega⟩,fun hne=>absurd z3 hne⟩
 ·obtain ⟨t, r1, r2, r3⟩ := r
  obtain ⟨ht,n,hn⟩:=hr
  simp only at ht
  subst ht
  exact qskip rfl (Yes.some ⟨n,hn⟩)
end Go.Proofs.Ytmpjooneiaiffaa
/- BoxFewests. -/
set_option maxRecDepth 8000
namespace Go.Proofs.Ytmpjooneiaiffaa
open Go.RowKit
open Classical

theorem s16 (xs:List Int) (h:xs.length ≤ 1000):f16 xs=some xs:=by
 refine Yes.eq ?_
 unfold f16
 exact Yes.bind (Yes.apnd (by simp; omega) (by simp; omega) (Yes.some (by simp)))
theorem s52 (xs:List Int) (h:xs.length ≤ 1000):f52 xs=some (xs.all (btw 0 9)):=by unfold f52; rw [s87 _ _ _ (by omega)]; rfl
theorem kok_nil {B0 B1:Nat} {gs:List (List Int)} {V:BoxPoint→Nat→Prop}:KOk B0 B1 gs V []:=⟨fun h=>by cases h⟩
theorem s17 {l:BoxLoom} {cs:List Int} (hl:LOk l) (h24:cs.length ≤ 24) (hc:cs.all (btw 0 9)=true):f17 l cs=some (if (rf cs l).2.2=cs.length then ((rf cs l).1,(rf cs l).2.1,0,0) else ([],0,(rf cs l).2.2,9)):=by
 have hR:=rf_ok cs (by omega) hl
 have hfar:=hR.far
 refine Yes.eq ?_
 unfold f17
 refine qbind _ (s51 l hl.sml) (Yes.jn (qskip (by rw [chk0.2 hl]; rfl) (qskip (decide_eq_false (by omega)) (qbind _ (s52 cs (by omega)) (qskip (by rw [hc]; rfl) (qbind _ (s53 cs (by omega)) (qbind _ (s54r hl) (Yes.jn ?_))))))))
 refine Yes.upto cs.length (by omega) (fun t s=>(t:Int) ≤ (rf cs l).2.2∧s=[]) ⟨hfar.1,rfl⟩ (fun t s k ht hI hk=>?_) (fun s k hI=>?_)
 ·obtain ⟨hI, rfl⟩ := hI
  have hcut:cut (sgl cs) 0 (w64 ((t:Int) + 1))=some (sgl (cs.take (t + 1))):=by
   rw [w64_id (by omega) (by omega)]
   unfold cut
   rw [if_pos ⟨by omega,by omega,by rw [sgl_len]; omega⟩,show ((t:Int) + 1).toNat=t + 1 by omega]
   simp [sgl,List.map_take]
  have hlen':(cs.take (t + 1)).length ≤ 1000:=by simp; omega
  have hv:Vs (cs.take (t + 1)) ⟨0,0,rc l⟩ (t + 1):=⟨0,rfl,rfl,by simp; omega⟩
  refine qtake (by simp; omega) (Yes.jn (qbind _ (s56 hl) (qbind _ hcut (Yes.bind ((s57 hl (pts_sgl hlen') (t + 1) big (by unfold big; omega) hl rfl rfl hv kok_nil).mono fun r hr=>?_)))))
  obtain ⟨hr,_⟩:=hr
  rw [cst_cL hlen' (t + 1) hl rfl rfl hv,show (cs.take (t + 1)).length - (t + 1)=0 by simp; omega,List.drop_zero] at hr
  have hp:=hR.pre (t + 1) (by omega)
  refine Yes.cond (fun hc=>Yes.some ?_) (fun hc=>hk _ ⟨?_,rfl⟩)
  ·have hge : r.1 ≥ never := of_decide_eq_true hc
   have:¬ ((t + 1:Nat):Int) ≤ (rf cs l).2.2:=fun h=>by have:=hp.2 h; omega
   rw [if_neg (by omega),show (rf cs l).2.2=(t:Int) by omega]
  ·have hlt : ¬ r.1 ≥ never := of_decide_eq_false hc
   exact hp.1 (by omega)
 ·obtain ⟨hI, rfl⟩ := hI
  have hall:(rf cs l).2.2=cs.length:=by omega
  have hlt:=hR.all.2 hall
  have hv:Vs cs ⟨0,0,rc l⟩ cs.length:=⟨0,rfl,rfl,by omega⟩
  rw [if_pos hall]
  refine qskip (by simp) (qbind _ (s56 hl) (Yes.bind ((s57 hl (pts_sgl (by omega)) cs.length big (by unfold big; omega) hl rfl rfl hv kok_nil).mono fun r hr=>?_)))
  obtain ⟨hr,hk⟩:=hr
  rw [cst_cL (by omega) cs.length hl rfl rfl hv,Nat.sub_self,List.drop_zero,← hR.mv hlt] at hr
  rw [hr]
  refine Yes.bind (Yes.mono (Q':=fun s=>s.1=(rf cs l).1) ?_ fun s hs=>Yes.some (by rw [hs]))
  refine Yes.lp (fun s=>∃ k n,LOk n∧n.Boxes=l.Boxes∧s.2.1.race=rc n∧Vs cs s.2.1 k∧KOk (nbx l 0) (nbx l 1) (sgl cs) (Vs cs) s.2.2∧s.1 ++ (rf (cs.drop (cs.length - k)) n).1=(rf cs l).1∧cL (cs.drop (cs.length - k)) n < never∧s.1.length + k=cs.length) (fun s=>cs.length - s.1.length) ⟨cs.length,l,hl,rfl,rfl,hv,hk,by rw [Nat.sub_self,List.drop_zero]; rfl,by rw [Nat.sub_self,List.drop_zero]; exact hlt,by simp⟩ (by simp; omega) ?_
  rintro ⟨ps,pt,m⟩ kk ⟨k,n,a1,a2,a3,a4,a5,a6,a7,a8⟩ hkk
  simp only at a3 a4 a5 a6 a8
  have hz:=(pts_sgl (cs:=cs) (by omega)).zero a4
  rw [sgl_len] at hz
  obtain ⟨g,g1,g2,g3⟩:=id a4
  refine Yes.jn (Yes.cond (fun hc2=>?_) (fun hc2=>Yes.some ?_))
  ·have hlt2 : pt.group < ((sgl cs).length : Int) := of_decide_eq_true hc2
   rw [sgl_len] at hlt2
   obtain ⟨k,rfl⟩:∃ k',k=k' + 1:=⟨k - 1,by omega⟩
   refine Yes.bind (Yes.bind ((s58 hl (by omega) (by omega) a1 a2 a3 a4 a5 a7).mono fun b hb=>Yes.bind (Yes.apnd (by simp; omega) (by simp; omega) (Yes.some ?_))))
   obtain ⟨n',b1,b2,b3,b4,b5,b6,b7⟩:=hb
   refine hkk _ ⟨k,n',b1,b2,b3,b4,b5,?_,b7,by simp; omega⟩ ?_
   ·show (ps ++ [b.1]) ++ _ = _
    rw [← a6,b6]; simp
   ·show cs.length - (ps ++ [b.1]).length < cs.length - ps.length
    simp; omega
  ·have hge : ¬ pt.group < ((sgl cs).length : Int) := of_decide_eq_false hc2
   rw [sgl_len] at hge
   have hk0:k=0:=by omega
   subst hk0
   rw [Nat.sub_zero,List.drop_length,rf,List.append_nil] at a6
   exact a6
end Go.Proofs.Ytmpjooneiaiffaa
/- Plain laws: the yarn that is left; the picks of bytes, exactly. -/
set_option maxRecDepth 8000
namespace Go.Proofs.Ytmpjooneiaiffaa
open Go.RowKit
open Classical

/-! ### The picks of bytes -/
theorem bx_sum {v:Vector (Vector Int 4) 2} {m:BoxLoom} (hv:BxV v m) (hm:LOk m) {p:BoxPick} {L R:Nat} (hL:p.Left=L) (hR:p.Right=R) (hL4:L < 4) (hR4:R < 4) {n:BoxLoom} {i:Nat} {q:Int} (ho:oneL m p=some (n,i,q)):v[0][L] + v[1][R]=(i:Int) + 1:=by
 have e0:=hv 0 L (by omega) hL4
 have e1:=hv 1 R (by omega) hR4
 rw [e0,e1]
 obtain ⟨_,_,_,⟨_,g⟩ | ⟨_,g⟩⟩:=oneL_some hm.dst ho
 ·rw [show inX m.Shuttles ((1:Nat):Int) (R:Int)=-1 from inX_none (hR ▸ g.free),show inX m.Shuttles ((0:Nat):Int) (L:Int)=i from inX_some hm.dst (hL ▸ g.at0)]; omega
 ·rw [show inX m.Shuttles ((0:Nat):Int) (L:Int)=-1 from inX_none (hL ▸ g.free),show inX m.Shuttles ((1:Nat):Int) (R:Int)=i from inX_some hm.dst (hR ▸ g.at0)]; omega
theorem s39x {l:BoxLoom} (hl:LOk l) (x:Race) (hP:x.Picks.length ≤ 9223372036854775807) {mst:Nat} (hmst:mst ≤ 24):Yes (f39 x l (mst:Int)) (fun r=>∃ n,thr l r.1=some n∧(∀ p ∈ r.1,okP l.Boxes p=true)∧BxV r.2.2.1 n∧r.1.length ≤ mst∧r.2.1=(thl l r.1).map (fun i:Nat=>(i:Int))∧r.2.2.2=mvt l r.1):=by
 have byte:∀ u:UInt8,(0:Int) ≤ (u.toNat:Int)∧(u.toNat:Int) ≤ 255:=fun u=>by have:=u.toNat_lt; omega
 have b0:=hl.box (i:=0) (by omega)
 have b1:=hl.box (i:=1) (by omega)
 have hb0:idx l.Boxes (0:Int)=some (l.Boxes.getD 0 0):=box_at hl.len (i:=0) (by omega)
 have hb1:idx l.Boxes (1:Int)=some (l.Boxes.getD 1 0):=box_at hl.len (i:=1) (by omega)
 unfold f39
 refine Yes.bind ((s45 hl).mono fun v0 hv0=>qbind _ (at_at hl.len (i:=0) (by omega)) (qbind _ (at_at hl.len (i:=1) (by omega)) (Yes.bind ?_)))
 refine Yes.lp (fun s => ∃ k : Nat, s.2.2.2.2.2 = (k : Int) ∧ k ≤ x.Picks.length ∧ s.1.length ≤ mst ∧ (∀ p ∈ s.1, okP l.Boxes p = true) ∧ s.2.1 = (thl l s.1).map (fun i : Nat => (i : Int)) ∧ s.2.2.2.1 = mvt l s.1 ∧ ∃ m, thr l s.1 = some m ∧ BxV s.2.2.1 m ∧ s.2.2.2.2.1 = (⟨List.toArray [m.At.getD 0 0, m.At.getD 1 0], rfl⟩ : Vector Int 2))
  (fun s=>x.Picks.length + 1 - s.2.2.2.2.2.toNat) ⟨0,rfl,by omega,by simp,by simp,by simp [thl],by simp [mvt],l,rfl,hv0,rfl⟩ (by simp; omega) ?_
 rintro ⟨ps,sh,v,o7,at',u⟩ kk ⟨k,rfl,hk,c2,c3,c6,c7,m,c4,c5,c8⟩ hk'
 simp only at c2 c3 c4 c5 c6 c7 c8
 obtain ⟨m1,m2,_⟩:=thr_ok hl c3 c4
 have hend:∀ b:Bool,b=false→Yes (some (ps,sh,v,o7)) fun r=>Yes (some (r.1,r.2.1,r.2.2.1,r.2.2.2)) fun r=>∃ n,thr l r.1=some n∧(∀ p ∈ r.1,okP l.Boxes p=true)∧BxV r.2.2.1 n∧r.1.length ≤ mst∧r.2.1=(thl l r.1).map (fun i:Nat=>(i:Int))∧r.2.2.2=mvt l r.1:=fun _ _=>Yes.some (Yes.some ⟨m,c4,c3,c5,c2,c6,c7⟩)
 refine Yes.jn (Yes.bind (Yes.cond (fun hc=>Yes.some (Yes.cond (fun hc2=>?_) (fun hc2=>hend _ hc2))) (fun hc=>Yes.some (hend false rfl))))
 have hkl:k < x.Picks.length:=by have:(k:Int) < (x.Picks.length:Int):=of_decide_eq_true hc; omega
 have hlt:ps.length < mst:=by have:(ps.length:Int) < (mst:Int):=of_decide_eq_true hc2; omega
 have hby:=byte x.Picks[k]
 have next:∀ ps' sh' v' o' a',ps'.length ≤ mst→(∀ p ∈ ps',okP l.Boxes p=true)→sh'=(thl l ps').map (fun i:Nat=>(i:Int))→o'=mvt l ps'→(∃ m,thr l ps'=some m∧BxV v' m∧a'=(⟨List.toArray [m.At.getD 0 0,m.At.getD 1 0],rfl⟩:Vector Int 2))→Yes (kk (ps',sh',v',o',a',w64 ((k:Int) + 1))) fun r=>Yes (some (r.1,r.2.1,r.2.2.1,r.2.2.2)) fun r=>∃ n,thr l r.1=some n∧(∀ p ∈ r.1,okP l.Boxes p=true)∧BxV r.2.2.1 n∧r.1.length ≤ mst∧r.2.1=(thl l r.1).map (fun i:Nat=>(i:Int))∧r.2.2.2=mvt l r.1:=fun ps' sh' v' o' a' d2 d3 d4 d5 d6=>by
  rw [w64_id (by omega) (by omega)]
  refine hk' _ ⟨k + 1,by simp,by omega,d2,d3,d4,d5,d6⟩ ?_
  show x.Picks.length + 1 - ((k:Int) + 1).toNat < x.Picks.length + 1 - ((k:Int)).toNat
  omega
 obtain ⟨L,hL,hL2⟩:∃ L:Nat,(x.Picks[k].toNat:Int) % l.Boxes.getD 0 0=L∧(L:Int) < l.Boxes.getD 0 0:=by
  have e1:=Int.emod_nonneg (x.Picks[k].toNat:Int) (show l.Boxes.getD 0 0 ≠ 0 by omega)
  have e2:=Int.emod_lt_of_pos (x.Picks[k].toNat:Int) (show 0 < l.Boxes.getD 0 0 by omega)
  exact ⟨((x.Picks[k].toNat:Int) % l.Boxes.getD 0 0).toNat,by omega,by omega⟩
 obtain ⟨R,hR,hR2⟩:∃ R:Nat,(x.Picks[k].toNat:Int) / 8 % l.Boxes.getD 1 0=R∧(R:Int) < l.Boxes.getD 1 0:=by
  have e1:=Int.emod_nonneg ((x.Picks[k].toNat:Int) / 8) (show l.Boxes.getD 1 0 ≠ 0 by omega)
  have e2:=Int.emod_lt_of_pos ((x.Picks[k].toNat:Int) / 8) (show 0 < l.Boxes.getD 1 0 by omega)
  exact ⟨((x.Picks[k].toNat:Int) / 8 % l.Boxes.getD 1 0).toNat,by omega,by omega⟩
 have hL4:L < 4:=by omega
 have hR4:R < 4:=by omega
 refine Yes.jn (Yes.bind (qbind _ (qidx hkl) (qbind _ hb0 (qbind _ (rem_nn hby.1 (by omega)) (qbind _ (qidx hkl) (qbind _ (quo_nn8 hby.1 hby.2) (qbind _ hb1 (qbind _ (rem_nn (by omega) (by omega)) ?_))))))))
 rw [hL,hR]
 have hpk:okP l.Boxes ⟨(L:Int),(R:Int)⟩=true:=okP_iff.2 ⟨⟨by show (0:Int) ≤ (L:Int); omega,by show (L:Int) ≤ _; omega⟩,by show (0:Int) ≤ (R:Int); omega,by show (R:Int) ≤ _; omega⟩
 refine qbind (⟨(L:Int),(R:Int)⟩:BoxPick) rfl (qbind _ (vidx v (i:=0) (by omega)) (qbind _ (vidx _ hL4) (qbind _ (vidx v (i:=1) (by omega)) (qbind _ (vidx _ hR4) (Yes.jn (Yes.cond (fun hc3=>Yes.some ?_) (fun hc3=>?_)))))))
 ·exact next _ _ _ _ _ (by omega) c3 c6 c7 ⟨m,c4,c5,c8⟩
 ·obtain ⟨n, i, q, ho, hbx⟩ := bx_step (p := ⟨(L : Int), (R : Int)⟩) c5 m1 (by rw [m2]; exact hpk) rfl rfl hL4 hR4 hc3
  have hsum:=bx_sum c5 m1 (p:=⟨(L:Int),(R:Int)⟩) rfl rfl hL4 hR4 ho
  obtain ⟨_,_,_,hil,_⟩:=oneL_ok m1 (by rw [m2]; exact hpk) ho
  have hfew:=m1.few
  obtain ⟨hq,_,hna,_⟩:=oneL_some m1.dst ho
  have hmb:=mvt_bound hl c3
  have hth:thr l (ps ++ [(⟨(L:Int),(R:Int)⟩:BoxPick)])=some n:=by rw [thr_append,c4,Option.bind_some,thr_one,ho]; rfl
  have ma0:=m1.at (i:=0) (by omega)
  have ma1:=m1.at (i:=1) (by omega)
  have mb0:=m1.box (i:=0) (by omega)
  have mb1:=m1.box (i:=1) (by omega)
  have hsl:sh.length ≤ ps.length:=by rw [c6,List.length_map]; exact thl_len
  refine qbind _ (vidx v (i:=0) (by omega)) (qbind _ (vidx _ hL4) (qbind _ (vidx _ (i:=1) (by omega)) (qbind _ (vidx _ hR4) (Yes.bind (Yes.apnd (by simp; omega) (by simp; omega) (Yes.bind (Yes.apnd (by simp; omega) (by simp; omega) (Yes.some ?_))))))))
  refine next _ _ _ _ _ (by simp; omega) (fun p hp=>?_) ?_ ?_ ⟨n,hth,hbx,by rw [hna]; rfl⟩
  ·rcases List.mem_append.1 hp with hp | hp
   ·exact c3 p hp
   ·rw [List.mem_singleton.1 hp]; exact hpk
  ·rw [thl_append _ _ c4, thl, ho, List.map_append, ← c6]
   have:w64 (w64 (v[0][L] + v[1][R]) - 1)=(i:Int):=by rw [hsum,w64_id (n:=(i:Int) + 1) (by omega) (by omega),w64_id (by omega) (by omega)]; omega
   rw [this]; rfl
  ·rw [mvt_append _ _ c4, mvt, ho]
   show w64 (o7 + w64 (w64 (w64 (max64 at'[0] (L:Int) - min64 at'[0] (L:Int)) + max64 at'[1] (R:Int)) - min64 at'[1] (R:Int)))=mvt l ps + (q + mvt n [])
   have h0:at'[0]=m.At.getD 0 0:=by rw [c8]; rfl
   have h1:at'[1]=m.At.getD 1 0:=by rw [c8]; rfl
   rw [h0,h1,moves_is (by omega) (by omega) (by omega) (by omega),mvt,c7]
   have hq2:max (m.At.getD 0 0) (L:Int) - min (m.At.getD 0 0) (L:Int) + (max (m.At.getD 1 0) (R:Int) - min (m.At.getD 1 0) (R:Int))=q:=by
    rw [hq]; unfold mvs; simp only; omega
   have hqb:0 ≤ q∧q ≤ 6:=(oneL_ok m1 (by rw [m2]; exact hpk) ho).2.2.2.2
   rw [hq2,w64_id (by omega) (by omega)]; omega
end Go.Proofs.Ytmpjooneiaiffaa
