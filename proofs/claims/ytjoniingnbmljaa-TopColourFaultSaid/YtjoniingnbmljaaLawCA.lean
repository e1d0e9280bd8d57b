/- Plain laws: three shuttles of three colours, three boxes on a side: each order can be woven. -/
import Derived.Test.YtjoniingnbmljaaFtT2
set_option maxRecDepth 8000
namespace Go.Proofs.Ytjoniingnbmljaa
open Go.RowKit
open Classical

structure Three (l : BoxLoom) : Prop where
 ok:LOk l
 bx:l.Boxes=[3,3]
 n3:l.Shuttles.length=3
 col:∀ i (h:i < l.Shuttles.length),l.Shuttles[i].Colour=i
theorem three_mv {l n:BoxLoom} {q:BoxPick} {i:Nat} {m:Int} {s b:Int} (h:Three l) (hq:okP l.Boxes q=true) (ho:oneL l q=some (n,i,m)) (hn:n.Shuttles=mv l.Shuttles i s b):Three n:=by
 obtain ⟨h1,h2,h3,_⟩:=oneL_ok h.ok hq ho
 refine ⟨h1,by rw [h2,h.bx],by rw [h3,h.n3],fun j hj=>?_⟩
 have hj':j < l.Shuttles.length:=by omega
 have:∀ (xs:List Zw) (e:xs=mv l.Shuttles i s b) (hx:j < xs.length),xs[j].Colour=(j:Int):=fun xs e hx=>by
  subst e
  rw [mv_at hx hj']
  split
  ·exact h.col j hj'
  ·exact h.col j hj'
 exact this _ hn hj
theorem three_free {l:BoxLoom} (h:Three l) {c:Nat} (hc:c < l.Shuttles.length) {s:Int} (hs:l.Shuttles[c].Side ≠ s):∃ t:Nat,t < 3∧¬ ∃ i,isAt l.Shuttles s t i:=by
 rcases Classical.em (∃ t:Nat,t < 3∧¬ ∃ i,isAt l.Shuttles s t i) with hh | hh
 ·exact hh
 exfalso
 have hall:∀ t:Nat,t < 3→∃ i,isAt l.Shuttles s t i:=fun t ht=>Classical.byContradiction fun hn=>hh ⟨t,ht,hn⟩
 have hn3:=h.n3
 have ne:∀ {t i:Nat},isAt l.Shuttles s t i→i < 3∧i ≠ c:=fun {t i} hi=>by
  obtain ⟨h1,h2,_⟩:=hi
  exact ⟨by omega,fun e=>by subst e; exact hs h2⟩
 have dj:∀ {t u i j:Nat},t ≠ u→isAt l.Shuttles s t i→isAt l.Shuttles s u j→i ≠ j:=fun {t u i j} htu hi hj e=>by
  subst e
  obtain ⟨_,_,h1⟩:=hi
  obtain ⟨_,_,h2⟩:=hj
  exact htu (by have:=h1.symm.trans h2; omega)
 obtain ⟨i0,a0⟩:=hall 0 (by omega)
 obtain ⟨i1,a1⟩:=hall 1 (by omega)
 obtain ⟨i2,a2⟩:=hall 2 (by omega)
 have:=ne a0; have:=ne a1; have:=ne a2
 have:=dj (by decide) a0 a1; have:=dj (by decide) a0 a2; have:=dj (by decide) a1 a2
 omega
theorem three_step {l:BoxLoom} (h:Three l) {c:Nat} (hc3:c < 3):∃ q ∈ allP l,∃ x,Wv l (c:Int) q x∧Three x.1:=by
 have hc:c < l.Shuttles.length:=by have:=h.n3; omega
 have hs:=h.ok.sh _ (List.getElem_mem hc)
 rw [h.bx] at hs
 unfold okS at hs
 simp only [Bool.and_eq_true,btw_iff,decide_eq_true_eq] at hs
 obtain ⟨⟨⟨_,hside⟩,hbox⟩,_⟩:=hs
 have hcol:colr l c=(c:Int):=by rw [colr_at hc]; exact h.col c hc
 have hat:isAt l.Shuttles l.Shuttles[c].Side l.Shuttles[c].Box c:=⟨hc,rfl,rfl⟩
 rcases (by omega:l.Shuttles[c].Side=0 ∨ l.Shuttles[c].Side=1) with e | e
 ·rw [e] at hbox hat
  have hb:0 ≤ l.Shuttles[c].Box∧l.Shuttles[c].Box ≤ 2:=hbox
  obtain ⟨t,ht,hf⟩:=three_free h hc (s:=1) (by omega)
  have i0:=inX_some h.ok.dst hat
  have i1:=inX_none hf
  have hp:okP l.Boxes ⟨l.Shuttles[c].Box,(t:Int)⟩=true:=okP_iff.2 (by rw [h.bx]; exact ⟨hb,by show (0:Int) ≤ t; omega,by show (t:Int) ≤ 2; omega⟩)
  have ho:oneL l ⟨l.Shuttles[c].Box,(t:Int)⟩=some (⟨l.Boxes,[l.Shuttles[c].Box,(t:Int)],mv l.Shuttles c 1 t⟩,c,mvs l ⟨l.Shuttles[c].Box,(t:Int)⟩):=by
   unfold oneL; simp only [i0,i1]; rw [dif_neg (by omega),if_pos (by omega)]; rfl
  exact ⟨_,(mem_allP h.ok).2 hp,_,⟨ho,hcol⟩,three_mv h hp ho rfl⟩
 ·rw [e] at hbox hat
  have hb:0 ≤ l.Shuttles[c].Box∧l.Shuttles[c].Box ≤ 2:=hbox
  obtain ⟨t,ht,hf⟩:=three_free h hc (s:=0) (by omega)
  have i1:=inX_some h.ok.dst hat
  have i0:=inX_none hf
  have hp:okP l.Boxes ⟨(t:Int),l.Shuttles[c].Box⟩=true:=okP_iff.2 (by rw [h.bx]; exact ⟨⟨by show (0:Int) ≤ t; omega,by show (t:Int) ≤ 2; omega⟩,hb⟩)
  have ho:oneL l ⟨(t:Int),l.Shuttles[c].Box⟩=some (⟨l.Boxes,[(t:Int),l.Shuttles[c].Box],mv l.Shuttles c 0 t⟩,c,mvs l ⟨(t:Int),l.Shuttles[c].Box⟩):=by
   unfold oneL; simp only [i0,i1]; rw [dif_neg (by omega),if_neg (by omega)]; rfl
  exact ⟨_,(mem_allP h.ok).2 hp,_,⟨ho,hcol⟩,three_mv h hp ho rfl⟩
theorem three_all : ∀ (cs : List Int), (∀ c ∈ cs, ∃ k : Nat, c = k ∧ k < 3) → cs.length ≤ 1000 → ∀ {l : BoxLoom}, Three l → cL cs l < never
 | [],_,_,l,_=>by rw [cL]; unfold never; omega
 | c :: cs,hc,hlen,l,h=>by
  obtain ⟨k,rfl,hk⟩:=hc c (by simp)
  obtain ⟨q,hq,x,hx,h3⟩:=three_step h hk
  simp only [List.length_cons] at hlen
  have ih:=three_all cs (fun c hc'=>hc c (by simp [hc'])) (by omega) h3
  obtain ⟨w1,_,w3,w4⟩:=wv_ok h.ok hq hx
  have hr:=cL_rng cs w1 (by omega)
  rw [cL,fold_lt]
  refine .inr ⟨q,hq,x,hx,?_⟩
  unfold never at *
  show x.2.2 + cL cs x.1 < _
  omega
theorem side_par : ∀ (ps : List BoxPick) {l n : BoxLoom}, LOk l → (∀ p ∈ ps, okP l.Boxes p = true) → thr l ps = some n → ∀ {i : Nat} (h : i < l.Shuttles.length) (h' : i < n.Shuttles.length), n.Shuttles[i].Side = (l.Shuttles[i].Side + ((thl l ps).count i : Nat)) % 2
 | [],l,n,hl,_,ht,i,h,h'=>by
  rw [thr] at ht; cases ht
  have hs:=hl.sh _ (List.getElem_mem h)
  unfold okS at hs
  simp only [Bool.and_eq_true,btw_iff,decide_eq_true_eq] at hs
  rw [thl]; simp only [List.count_nil]; omega
 | p :: ps,l,n,hl,hp,ht,i,h,h'=>by
  rw [thr] at ht
  cases ho:oneL l p with
  | none=>rw [ho] at ht; cases ht
  | some x=>
   obtain ⟨m,j,mm⟩:=x
   rw [ho] at ht
   have ht:thr m ps=some n:=ht
   obtain ⟨m1,m2,m3,m4,_⟩:=oneL_ok hl (hp p (by simp)) ho
   have him:i < m.Shuttles.length:=by omega
   have ih:=side_par ps m1 (fun q hq=>by rw [m2]; exact hp q (by simp [hq])) ht him h'
   have key:m.Shuttles[i].Side=if j=i then 1 - l.Shuttles[i].Side else l.Shuttles[i].Side:=by
    obtain ⟨_,_,_,hh⟩:=oneL_some hl.dst ho
    have go:∀ (s b:Int) (xs:List Zw) (e:xs=mv l.Shuttles j s b) (hx:i < xs.length),(∀ hj:j < l.Shuttles.length,l.Shuttles[j].Side=1 - s)→xs[i].Side=if j=i then 1 - l.Shuttles[i].Side else l.Shuttles[i].Side:=fun s b xs e hx hj=>by
     subst e
     rw [mv_at hx h]
     by_cases hji:j=i
     ·subst hji; rw [if_pos rfl,if_pos rfl,hj h]; show s=_; omega
     ·rw [if_neg hji,if_neg hji]
    rcases hh with ⟨e,hg⟩ | ⟨e,hg⟩
    ·exact go 1 _ _ e him fun hj=>by obtain ⟨_,h1,_⟩:=hg.at0; omega
    ·exact go 0 _ _ e him fun hj=>by obtain ⟨_,h1,_⟩:=hg.at0; omega
   have ht2:thl l (p :: ps)=j :: thl m ps:=by rw [thl,ho]
   rw [ih,ht2,key,List.count_cons]
   have hs:=hl.sh _ (List.getElem_mem h)
   unfold okS at hs
   simp only [Bool.and_eq_true,btw_iff,decide_eq_true_eq] at hs
   by_cases hji:j=i
   ·subst hji; simp only [if_pos,beq_self_eq_true]; omega
   ·rw [if_neg hji,if_neg (by simpa using hji)]; omega
theorem count_col {l : BoxLoom} (h : Three l) : ∀ (t : List Nat), (∀ i ∈ t, i < 3) → ∀ {cs : List Int}, t.map (colr l) = cs → ∀ {i : Nat}, i < 3 → t.count i = cs.count (i : Int)
 | [],_,cs,e,i,_=>by cases e; rfl
 | j :: t,ht,cs,e,i,hi=>by
  cases e
  have hj:=ht j (by simp)
  have hc:colr l j=(j:Int):=by rw [colr_at (by have:=h.n3; omega)]; exact h.col j _
  rw [List.map_cons,List.count_cons,List.count_cons,count_col h t (fun k hk=>ht k (by simp [hk])) rfl hi,hc]
  by_cases hji:j=i
  ·subst hji; simp
  ·rw [if_neg (by simpa using hji),if_neg (by simp; omega)]
end Go.Proofs.Ytjoniingnbmljaa
