/- BoxFewests. -/
import Derived.Test.YtmpjooneiaiffaaLawAA
set_option maxRecDepth 8000
namespace Go.Proofs.Ytmpjooneiaiffaa
open Go.RowKit
open Classical

theorem Oe {l:BoxLoom} (hl:LOk l):(Wx l).length ≤ 16:=by
 obtain ⟨_,a0,b0⟩:=Yr hl (s:=0) (by omega)
 obtain ⟨_,a1,b1⟩:=Yr hl (s:=1) (by omega)
 have:∀ i,((List.range i).flatMap (row (nbx l 1))).length=i * nbx l 1:=fun i=>by
  induction i with
  | zero=>simp
  | succ i ih=>rw [List.range_succ,List.flatMap_append,List.length_append,ih,List.flatMap_cons,List.flatMap_nil,List.append_nil,row,List.length_map,List.length_range,Nat.add_mul]; omega
 show ((List.range (nbx l 0)).flatMap (row (nbx l 1))).length ≤ 16
 rw [this]
 exact Nat.le_trans (Nat.mul_le_mul b0 b1) (by omega)
theorem cut_tail {α:Type} (c:α) (cs:List α):cut (c :: cs) (1:Int) (((c :: cs).length:Nat):Int)=some cs:=by
 unfold cut
 rw [if_pos ⟨by omega,by simp; omega,Int.le_refl _⟩]
 simp
theorem s22 : ∀ (cs : List Int) (n : Nat) {l : BoxLoom}, cs.length < n → cs.length ≤ 30 → LOk l → f22 n l cs = some (rf cs l)
 | cs,0,_,h,_,_=>absurd h (Nat.not_lt_zero _)
 | [],n + 1,l,_,_,_=>by rw [f22,rf]; rfl
 | c :: cs,n + 1,l,hn,h30,hl=>by
  simp only [List.length_cons] at hn h30
  have hal:=Oe hl
  have hF:∀ n,LOk n→Mo cs n:=fun n hn=>Av cs (by omega) hn
  refine Yes.eq ?_
  rw [f22]
  refine Yes.jn (Tw (beq_eq_false_iff_ne.2 (by simp only [List.length_cons]; omega)) (Gj _ (s60 hl) (Yes.bind (Yes.mono (Q':=fun r=>r=rf (c :: cs) l) ?_ fun r hr=>Yes.some hr))))
  refine Yes.lp (fun s=>∃ i:Nat,s.2.2.2.2=(i:Int)∧i ≤ (Wx l).length∧(s.1,s.2.1,s.2.2.1,s.2.2.2.1)=((Wx l).take i).foldl (rfS l c (cs.length:Int) (fun n=>rf cs n)) ([],0,0,false)) (fun s=>(Wx l).length + 1 - s.2.2.2.2.toNat) ⟨0,rfl,by omega,by simp⟩ (by simp; omega) ?_
  rintro ⟨pk,mv,fa,fd,u⟩ kk ⟨i,rfl,hi,hs⟩ hk
  simp only at hs
  by_cases hlt:i < (Wx l).length
  ·have hpa : (Wx l)[i] ∈ Wx l := List.getElem_mem hlt
   have hpi:=(Ys hl).1 hpa
   have next:∀ s':List Gf × Int × Int × Bool,s'=rfS l c (cs.length:Int) (fun n=>rf cs n) (pk,mv,fa,fd) (Wx l)[i]→Yes (kk (s'.1,s'.2.1,s'.2.2.1,s'.2.2.2,w64 ((i:Int) + 1))) (fun r=>r=rf (c :: cs) l):=fun s' hs'=>by
    rw [Tl (by omega) (by omega)]
    refine hk _ ⟨i + 1,by simp,hlt,?_⟩ ?_
    ·rw [Kl hlt,List.foldl_append,← hs,List.foldl_cons,List.foldl_nil]; exact hs'
    ·show (Wx l).length + 1 - ((i:Int) + 1).toNat < (Wx l).length + 1 - ((i:Int)).toNat; omega
   have hb:=rf_bd hl (c:=c) hF ((Wx l).take i) ([],0,0,false) (fun p hp=>List.mem_of_mem_take hp) ⟨by simp,by simp; omega,by simp⟩
   have hI:RfI l c cs ((Wx l).take i) (((Wx l).take i).foldl (rfS l c (cs.length:Int) (fun n=>rf cs n)) ([],0,0,false)):=Mm hl (by omega) hF ((Wx l).take i) [] _ (fun p hp=>List.mem_of_mem_take hp) ⟨fun _=>rfl,fun h=>(by cases h),by simp,by show (0:Int) ≤ _; omega,fun k=>⟨fun h=>by have h:(k:Int) + 1 ≤ 0:=h; omega,fun ⟨q,hq,_⟩=>by cases hq⟩⟩
   have hfa:=hI.far
   rw [← hs] at hb hfa
   simp only at hb hfa
   refine Yes.jn (Qr (by simp; omega) (Yes.jn (Yes.bind (Gj _ (Wu hlt) (Gj _ (s61 hl hpi) (Yes.jn (Yes.bind ?_)))))))
   have hu : rfS l c (cs.length : Int) (fun n => rf cs n) (pk, mv, fa, fd) (Wx l)[i] = match Ka l (Wx l)[i] with
    | some x => if Qy l x.2.1 = c then
      (if (rf cs x.1).2.2=(cs.length:Int)∧(fd=false ∨ x.2.2 + (rf cs x.1).2.1 < mv) then ((Wx l)[i] :: (rf cs x.1).1,x.2.2 + (rf cs x.1).2.1,max fa (1 + (rf cs x.1).2.2),true) else (pk,mv,max fa (1 + (rf cs x.1).2.2),fd))
     else (pk,mv,fa,fd)
    | none=>(pk,mv,fa,fd):=rfl
   cases ho:Ka l (Wx l)[i] with
   | none=>
    rw [ho] at hu
    exact Qr rfl (Yes.some (Qr rfl (Yes.some (next (pk,mv,fa,fd) hu.symm))))
   | some x=>
    obtain ⟨nl,j,m⟩:=x
    rw [ho] at hu
    obtain ⟨h1,_,_,hj,h5,h6⟩:=Ja hl hpi ho
    have hcol:=Bd hj
    refine Tw rfl (Gj _ (Wu hj) (Gj c (by show idx (c :: cs) ((0:Nat):Int)=_; rw [Wu (by simp)]; rfl) (Yes.some (Yes.cond (fun hc=>?_) (fun hc=>?_)))))
    ·have hc : l.Shuttles[j].Colour ≠ c := by simpa using hc
     simp only [if_neg (show ¬ Qy l j=c by rw [hcol]; exact hc)] at hu
     exact Yes.some (next (pk,mv,fa,fd) hu.symm)
    ·have hc : l.Shuttles[j].Colour = c := by simpa using hc
     simp only [if_pos (show Qy l j=c by rw [hcol]; exact hc)] at hu
     have hr:=hF nl h1
     have hrf:=hr.far
     have hrb:=hr.bd
     refine Gj _ (cut_tail c cs) (Gj _ (s22 cs n (by omega) (by omega) h1) (Yes.bind ?_))
     have w1:w64 (((c :: cs).length:Int) - 1)=(cs.length:Int):=by rw [Tl (by simp only [List.length_cons]; omega) (by simp only [List.length_cons]; omega)]; simp only [List.length_cons]; omega
     have w2:w64 (m + (rf cs nl).2.1)=m + (rf cs nl).2.1:=Tl (by omega) (by omega)
     have w3:Wk fa (w64 (1 + (rf cs nl).2.2))=max fa (1 + (rf cs nl).2.2):=by rw [Fy,Tl (by omega) (by omega)]
     refine Yes.mono (Q':=fun b=>b=decide ((rf cs nl).2.2=(cs.length:Int)∧(fd=false ∨ m + (rf cs nl).2.1 < mv))) ?_ fun b hb'=>?_
     ·rw [w1]
      refine Yes.cond (fun hc2=>?_) (fun hc2=>Yes.some ?_)
      ·have hc2 := beq_iff_eq.1 hc2
       refine Yes.cond (fun hc3=>Yes.some ?_) (fun hc3=>Yes.some ?_)
       ·exact (decide_eq_true ⟨hc2,.inl (by simpa using hc3)⟩).symm
       ·have hfd : fd = true := by simpa using hc3
        show decide (w64 (m + (rf cs nl).2.1) < mv)=_
        rw [w2,decide_eq_decide]
        exact ⟨fun h=>⟨hc2,.inr h⟩,fun h=>h.2.resolve_left (by rw [hfd]; simp)⟩
      ·exact (decide_eq_false fun h=>beq_eq_false_iff_ne.1 hc2 h.1).symm
     ·subst hb'
      refine Yes.cond (fun hc2=>?_) (fun hc2=>?_)
      ·rw [if_pos (of_decide_eq_true hc2)] at hu
       refine Gj _ (Wu hlt) (Yes.bind (Yes.apnd (by simp; omega) (by simp; omega) (Yes.some ?_)))
       refine next ((Wx l)[i] :: (rf cs nl).1,w64 (m + (rf cs nl).2.1),Wk fa (w64 (1 + (rf cs nl).2.2)),true) ?_
       rw [w2,w3]; exact hu.symm
      ·rw [if_neg (of_decide_eq_false hc2)] at hu
       refine Yes.some (next (pk,mv,Wk fa (w64 (1 + (rf cs nl).2.2)),fd) ?_)
       rw [w3]; exact hu.symm
  ·have hie : i = (Wx l).length := by omega
   subst hie
   rw [List.take_length] at hs
   refine Yes.jn (Tw (by simp) (Yes.some ?_))
   rw [rf,← hs]
/-! ### Groups of one colour -/
def sgl (cs:List Int):List (List Int):=cs.map fun c=>[c]
theorem Jd {cs:List Int}:(sgl cs).length=cs.length:=by simp [sgl]
theorem Iv {cs:List Int} {i:Nat} (h:i < cs.length):idx (sgl cs) (i:Int)=some [cs[i]]:=by rw [Wu (by rw [Jd]; exact h)]; simp [sgl]
theorem s53 (cs:List Int) (h:cs.length ≤ 1000):f53 cs=some (sgl cs):=by
 refine Yes.eq ?_
 unfold f53
 refine Yes.bind (Yes.mono (Q':=fun r=>r=sgl cs) ?_ fun r hr=>Yes.some hr)
 refine Yes.upto cs.length (by omega) (fun i s=>s=(sgl cs).take i) (by simp) (fun i s k hi hI hk=>?_) (fun s k hI=>Tw (by simp) (Yes.some ?_))
 ·have hs : s.length ≤ 1000 := by rw [hI]; simp [sgl]; omega
  refine Qr (by simp; omega) (Yes.bind (Gj _ (Wu hi) (Yes.bind (Yes.apnd (by simp; omega) (by simp; omega) (Yes.some (hk _ ?_))))))
  rw [Kl (by rw [Jd]; exact hi),hI]
  simp [sgl]
 ·rw [hI,← Jd,List.take_length]
def Vs (cs:List Int) (pt:Gd) (k:Nat):Prop:=∃ g:Nat,pt.group=(g:Int)∧pt.done=0∧g + k=cs.length
theorem s65s {cs:List Int} {g:Nat} (hg:g < cs.length) (hl:cs.length ≤ 1000) (r:Gu):f65 ⟨(g:Int),1,r⟩ (sgl cs)=some ⟨((g + 1:Nat):Int),0,r⟩:=by
 refine Yes.eq ?_
 unfold f65
 refine Yes.bind (Yes.mono (Q':=fun p=>p=⟨((g + 1:Nat):Int),0,r⟩) ?_ fun p hp=>Yes.some hp)
 have sh:Cg (1:Int) (([cs[g]]:List Int).length:Int)=some 2:=rfl
 refine Yes.lp (fun s=>s=⟨(g:Int),1,r⟩ ∨ s=⟨((g + 1:Nat):Int),0,r⟩) (fun s=>s.done.toNat) (.inl rfl) (by simp) ?_
 rintro s kk (rfl | rfl) hk
 ·refine Yes.jn (Yes.bind (Qr (decide_eq_true (by show (g : Int) < ((sgl cs).length : Int); rw [Jd]; omega)) (Gj _ (Iv hg) (Gj 2 rfl (Yes.some (Qr rfl (hk _ (.inr ?_) ?_)))))))
  ·show (⟨w64 ((g : Int) + 1), 0, r⟩ : Gd) = _
   rw [Tl (by omega) (by omega)]; simp
  ·show (0:Nat) < 1; omega
 ·refine Yes.jn (Yes.bind (Yes.cond (fun hc => ?_) (fun hc => Yes.some (Tw rfl (Yes.some rfl)))))
  have hlt:((g + 1:Nat):Int) < ((sgl cs).length:Int):=of_decide_eq_true hc
  rw [Jd] at hlt
  exact Gj _ (Iv (i:=g + 1) (by omega)) (Gj 2 rfl (Yes.some (Tw rfl (Yes.some rfl))))
theorem s88s {cs:List Int} {g:Nat} (hg:g < cs.length) (hl:cs.length ≤ 1000) (r:Gu) (s:Tc):f88 ⟨(g:Int),0,r⟩ (sgl cs) s=some (bif cs[g] == s.colour then (⟨((g + 1:Nat):Int),0,s.next⟩,true) else (⟨(g:Int),0,r⟩,false)):=by
 refine Yes.eq ?_
 unfold f88
 have hb1:Xt .or (0:Int) 1=1:=by decide
 refine Yes.jn (Gj _ (Iv hg) ?_)
 refine Yes.lp (fun t=>t.1=⟨(g:Int),0,r⟩∧(t.2.2=0 ∨ (t.2.2=1∧(cs[g] == s.colour)=false))) (fun t=>1 - t.2.2.toNat) ⟨rfl,.inl rfl⟩ (by simp) ?_
 rintro ⟨p,q,u⟩ kk ⟨rfl,hu⟩ hk
 simp only at hu
 rcases hu with rfl | ⟨rfl,hc⟩
 ·refine Qr rfl (Yes.jn (Gj (cs[g]) rfl (Yes.bind (Yes.cond (fun hc => Gj (0 : Int) rfl (Yes.some ?_)) (fun hc => Yes.some (Tw rfl (hk _ ⟨rfl, .inr ⟨rfl, hc⟩⟩ ?_)))))))
  ·refine Qr rfl (Gj (1 : Int) rfl ?_)
   dsimp only
   rw [hb1]
   refine Gj _ (s65s hg hl s.next) (Yes.some ?_)
   rw [hc]; rfl
  ·show 1 - (1:Int).toNat < 1 - (0:Int).toNat; omega
 ·refine Tw rfl (Yes.some ?_)
  rw [hc]; rfl
theorem Cp {cs : List Int} (hl : cs.length ≤ 1000) : Pts (sgl cs) (Vs cs) where
 zero:=by
  rintro pt k ⟨g,h1,h2,h3⟩
  rw [h1,Jd]
  constructor
  ·intro h; omega
  ·intro h; omega
 one:=by
  rintro pt k k' ⟨g,h1,h2,h3⟩ ⟨g',h1',h2',h3'⟩
  omega
 step:=by
  rintro pt k s ⟨g,h1,h2,h3⟩
  obtain ⟨pg,pd,pr⟩:=pt
  simp only at h1 h2
  subst h1 h2
  refine ⟨_,_,s88s (by omega) hl pr s,?_⟩
  cases hc:cs[g] == s.colour with
  | false=>intro h; cases h
  | true=>intro _; exact ⟨rfl,g + 1,rfl,rfl,by omega⟩
theorem Rz {α β : Type} {f g : β → α → β} : ∀ (xs : List α) (b : β), (∀ x ∈ xs, ∀ b, f b x = g b x) → xs.foldl f b = xs.foldl g b
 | [],_,_=>rfl
 | x :: xs,b,h=>by rw [List.foldl_cons,List.foldl_cons,h x (by simp),Rz xs _ fun y hy=>h y (by simp [hy])]
theorem Fq {l : BoxLoom} {cs : List Int} (hlen : cs.length ≤ 1000) : ∀ (k : Nat) {l' : BoxLoom} {pt : Gd}, LOk l' → l'.Boxes = l.Boxes → pt.race = rc l' → Vs cs pt k → cst (nbx l 0) (nbx l 1) (fun p s => f88 p (sgl cs) s) k pt = cL (cs.drop (cs.length - k)) l'
 | 0,l',pt,_,_,_,_=>by rw [cst,Nat.sub_zero,List.drop_length,cL]
 | k + 1,l',pt,hl',hB,hr,hv=>by
  obtain ⟨g,h1,h2,h3⟩:=hv
  have hg:g < cs.length:=by omega
  have hd:cs.drop (cs.length - (k + 1))=cs[g] :: cs.drop (cs.length - k):=by
   rw [show cs.length - (k + 1)=g by omega,show cs.length - k=g + 1 by omega]; exact List.drop_eq_getElem_cons hg
  rw [cst,hd,cL,hr,← Kt hB,← Kt hB,Ro hl']
  unfold stL
  rw [List.foldl_filterMap]
  refine Rz _ _ fun p hp b=>?_
  obtain ⟨pg,pd,pr⟩:=pt
  simp only at h1 h2 hr
  subst h1 h2
  unfold stp Um
  cases ho:Ka l' p with
  | none=>rfl
  | some x=>
   obtain ⟨h4,h5,_⟩:=Ja hl' ((Ys hl').1 hp) (show Ka l' p=some (x.1,x.2.1,x.2.2) from ho)
   simp only [Option.map_some]
   unfold Pn
   simp only [s88s hg hlen]
   by_cases hc:Qy l' x.2.1=cs[g]
   ·rw [if_pos hc, show (cs[g] == Qy l' x.2.1) = true from beq_iff_eq.2 hc.symm]
    simp only [cond_true]
    rw [Kt hB,Kt hB,Fq hlen k h4 (h5.trans hB) rfl ⟨g + 1,rfl,rfl,by omega⟩]
   ·rw [if_neg hc, show (cs[g] == Qy l' x.2.1) = false from beq_eq_false_iff_ne.2 fun h => hc h.symm]
    rfl
theorem Fm {σ α : Type} {cons : Di σ α} {Q : σ → Prop} {I : σ → Prop} : ∀ (xs : List α) (x : α) (ys : List α) (s : σ), I s → (∀ y ∈ xs, ∀ s, I s → Yes (cons s y) (fun r => r.1 = true ∧ I r.2)) → (∀ s, I s → Yes (cons s x) (fun r => r.1 = false ∧ Q r.2)) → Yes (Bh cons (xs ++ x :: ys) s) Q
 | [],x,ys,s,hs,_,hx=>by
  obtain ⟨r,hr,h1,h2⟩:=hx s hs
  rw [List.nil_append,Bh,hr,Option.bind_some,h1]
  exact Yes.some h2
 | y :: xs,x,ys,s,hs,hy,hx=>by
  obtain ⟨r,hr,h1,h2⟩:=hy y (by simp) s hs
  rw [List.cons_append,Bh,hr,Option.bind_some,h1]
  exact Fm xs x ys r.2 h2 (fun z hz=>hy z (by simp [hz])) hx
theorem Np {SV α:Type} (body:SV→α→Option (Bool × (Nat × SV))) (s:SV) (x:α):Mw body (0,s) x=body s x:=rfl
theorem s58 {l : BoxLoom} (hl : LOk l) {cs : List Int} (hlen : cs.length ≤ 1000) {k : Nat} (hk : k < 1000) {l' : BoxLoom} {pt : Gd} {m : List (Gd × Int)} (hl' : LOk l') (hB : l'.Boxes = l.Boxes) (hr : pt.race = rc l') (hv : Vs cs pt (k + 1)) (hm : KOk (nbx l 0) (nbx l 1) (sgl cs) (Vs cs) m)
  (hlt:cL (cs.drop (cs.length - (k + 1))) l' < Ti) :
  Yes (f58 ⟨(nbx l 0:Int),(nbx l 1:Int),⟨⟩⟩ m (sgl cs) pt) (fun r=>∃ n,LOk n∧n.Boxes=l.Boxes∧r.2.1.race=rc n∧Vs cs r.2.1 k∧KOk (nbx l 0) (nbx l 1) (sgl cs) (Vs cs) r.2.2∧(rf (cs.drop (cs.length - (k + 1))) l').1=r.1 :: (rf (cs.drop (cs.length - k)) n).1∧cL (cs.drop (cs.length - k)) n < Ti):=by
 have hV:=Cp (cs:=cs) hlen
 obtain ⟨g,h1,h2,h3⟩:=hv
 have hg:g < cs.length:=by omega
 have hd:cs.drop (cs.length - (k + 1))=cs[g] :: cs.drop (cs.length - k):=by
  rw [show cs.length - (k + 1)=g by omega,show cs.length - k=g + 1 by omega]; exact List.drop_eq_getElem_cons hg
 have hdl:(cs.drop (cs.length - k)).length ≤ 1000:=by simp; omega
 rw [hd] at hlt ⊢
 obtain ⟨x1,p,x2,x,z1,z2,z3,z4,z5⟩:=rf_first hdl hl' hlt
 have hpa:p ∈ Wx l':=by rw [z1]; simp
 obtain ⟨w1,w2,w3,w4⟩:=Ai hl' hpa z2
 have hst:stL l'=x1.filterMap (stp l') ++ (p,⟨rc x.1,Qy l' x.2.1,x.2.2⟩) :: x2.filterMap (stp l'):=by
  unfold stL
  rw [z1,List.filterMap_append,List.filterMap_cons]
  have:stp l' p=some (p,⟨rc x.1,Qy l' x.2.1,x.2.2⟩):=by unfold stp; rw [z2.1]; rfl
  rw [this]
 obtain ⟨pg,pd,pr⟩:=pt
 simp only at h1 h2 hr
 subst h1 h2 hr
 have hvp:Vs cs ⟨(g:Int),0,rc l'⟩ (k + 1):=⟨g,rfl,rfl,h3⟩
 have tot:cst (nbx l 0) (nbx l 1) (fun p s=>f88 p (sgl cs) s) (k + 1) ⟨(g:Int),0,rc l'⟩=cL (cs[g] :: cs.drop (cs.length - k)) l':=by rw [Fq hlen (k + 1) hl' hB rfl hvp,hd]
 unfold f58
 refine Yes.jn (Yes.bind ?_)
 refine (Yes.mono (Q':=fun r=>r.1=1∧∃ n,LOk n∧n.Boxes=l.Boxes∧r.2.2.1.race=rc n∧Vs cs r.2.2.1 k∧KOk (nbx l 0) (nbx l 1) (sgl cs) (Vs cs) r.2.2.2∧(rf (cs[g] :: cs.drop (cs.length - k)) l').1=r.2.1 :: (rf (cs.drop (cs.length - k)) n).1∧cL (cs.drop (cs.length - k)) n < Ti) ?_ fun r hr=>?_)
 ·show Yes (f98 _ _ _ _ _) _
  rw [← Kt hB,← Kt hB]
  refine s98 hl' ?_
  rw [hst]
  rw [Kt hB,Kt hB]
  -- a round for a pick that weaves the colour
  have rnd : ∀ (y : Gf × Tc) (n : BoxLoom), LOk n → n.Boxes = l'.Boxes → y.2.next = rc n → 0 ≤ y.2.moves ∧ y.2.moves ≤ 6 → y.2.colour = cs[g] → ∀ (s : Gf × Gd × List (Gd × Int)) (R : Bool × (Nat × Gf × Gd × List (Gd × Int)) → Prop), KOk (nbx l 0) (nbx l 1) (sgl cs) (Vs cs) s.2.2 →
    (∀ mm,KOk (nbx l 0) (nbx l 1) (sgl cs) (Vs cs) mm→(y.2.moves + cL (cs.drop (cs.length - k)) n=cL (cs[g] :: cs.drop (cs.length - k)) l'→R (false,1,y.1,⟨((g + 1:Nat):Int),0,y.2.next⟩,mm))∧(y.2.moves + cL (cs.drop (cs.length - k)) n ≠ cL (cs[g] :: cs.drop (cs.length - k)) l'→R (true,0,s.1,s.2.1,mm))) →
    Yes ((f88 ⟨(g:Int),0,rc l'⟩ (sgl cs) y.2).bind fun j7=>Option.bind (α:=Bool × (List (Gd × Int))) (bif j7.2 then (f57 big ⟨(nbx l 0:Int),(nbx l 1:Int),⟨⟩⟩ s.2.2 (sgl cs) (j7.1)).bind fun jA=>(f57 big ⟨(nbx l 0:Int),(nbx l 1:Int),⟨⟩⟩ (jA.2) (sgl cs) ⟨(g:Int),0,rc l'⟩).bind fun qA=>some (((w64 ((y.2).moves + jA.1)) == qA.1),qA.2) else some (false,s.2.2)) fun (q8,v7)=>bif q8 then some (false,((1:Nat),(y.1,j7.1,v7))) else some (true,((0:Nat),(s.1,s.2.1,v7)))) R:=fun y n hn hnB hnx hmv hcol s R hks hR=>by
   have hv1:Vs cs ⟨((g + 1:Nat):Int),0,y.2.next⟩ k:=⟨g + 1,rfl,rfl,by omega⟩
   have e1:f88 ⟨(g:Int),0,rc l'⟩ (sgl cs) y.2=some (⟨((g + 1:Nat):Int),0,y.2.next⟩,true):=by rw [s88s hg hlen,hcol]; simp
   rw [e1,Option.bind_some]
   have cr:=Lk (cs.drop (cs.length - k)) hn hdl
   refine Yes.bind (Qr rfl (Yes.bind ((s57 hl hV k big (Nat.lt_trans hk (by unfold big; omega)) hn (hnB.trans hB) hnx hv1 hks).mono fun a ha=>Yes.bind ((s57 hl hV (k + 1) big (Nat.lt_of_le_of_lt (by omega:k + 1 ≤ 1000) (by unfold big; omega)) hl' hB rfl hvp ha.2).mono fun b hb=>Yes.some ?_))))
   obtain ⟨a1,_⟩:=ha
   obtain ⟨b1,b2⟩:=hb
   rw [Fq hlen k hn (hnB.trans hB) hnx hv1] at a1
   rw [tot] at b1
   rw [a1,b1,Tl (by unfold Ti at *; omega) (by unfold Ti at *; omega)]
   by_cases hq:y.2.moves + cL (cs.drop (cs.length - k)) n=cL (cs[g] :: cs.drop (cs.length - k)) l'
   ·exact Qr (beq_iff_eq.2 hq) (Yes.some ((hR _ b2).1 hq))
   ·exact Tw (beq_eq_false_iff_ne.2 hq) (Yes.some ((hR _ b2).2 hq))
  refine Fm (I:=fun s=>s.1=0∧KOk (nbx l 0) (nbx l 1) (sgl cs) (Vs cs) s.2.2.2) _ _ _ _ ⟨rfl,hm⟩ (fun y hy s hs=>?_) (fun s hs=>?_)
  ·obtain ⟨q, hq, hqe⟩ := List.mem_filterMap.1 hy
   obtain ⟨t,s⟩:=s
   obtain ⟨ht,hs⟩:=hs
   simp only at ht hs
   subst ht
   rw [Np]
   have hqa:q ∈ Wx l':=by rw [z1]; simp [hq]
   unfold stp at hqe
   cases ho:Ka l' q with
   | none=>rw [ho] at hqe; cases hqe
   | some v=>
    rw [ho] at hqe
    cases hqe
    obtain ⟨o1,o2,_,_,o5,o6⟩:=Ja hl' ((Ys hl').1 hqa) (show Ka l' q=some (v.1,v.2.1,v.2.2) from ho)
    by_cases hc:Qy l' v.2.1=cs[g]
    ·refine rnd (q, ⟨rc v.1, Qy l' v.2.1, v.2.2⟩) v.1 o1 o2 rfl ⟨o5, o6⟩ hc s _ hs fun mm hmm => ⟨fun he => ?_, fun _ => ⟨rfl, rfl, hmm⟩⟩
     have:=z5 q hq v ⟨ho,hc⟩
     have he:v.2.2 + cL (cs.drop (cs.length - k)) v.1=cL (cs[g] :: cs.drop (cs.length - k)) l':=he
     omega
    ·have e1:f88 ⟨(g:Int),0,rc l'⟩ (sgl cs) ⟨rc v.1,Qy l' v.2.1,v.2.2⟩=some (⟨(g:Int),0,rc l'⟩,false):=by
      rw [s88s hg hlen,show (cs[g] == Qy l' v.2.1)=false from beq_eq_false_iff_ne.2 fun h=>hc h.symm]; rfl
     show Yes ((f88 ⟨(g:Int),0,rc l'⟩ (sgl cs) ⟨rc v.1,Qy l' v.2.1,v.2.2⟩).bind _) _
     rw [e1,Option.bind_some]
     exact Yes.bind (Tw rfl (Yes.some (Tw rfl (Yes.some ⟨rfl,rfl,hs⟩))))
  ·obtain ⟨t, s⟩ := s
   obtain ⟨ht,hs⟩:=hs
   simp only at ht hs
   subst ht
   rw [Np]
   refine rnd (p,⟨rc x.1,Qy l' x.2.1,x.2.2⟩) x.1 w1 w2 rfl ⟨w3,w4⟩ z2.2 s _ hs fun mm hmm=>⟨fun _=>⟨rfl,rfl,x.1,w1,w2.trans hB,rfl,⟨g + 1,rfl,rfl,by omega⟩,hmm,z4,by omega⟩,fun hne=>absurd z3 hne⟩
 ·obtain ⟨t, r1, r2, r3⟩ := r
  obtain ⟨ht,n,hn⟩:=hr
  simp only at ht
  subst ht
  exact Tw rfl (Yes.some ⟨n,hn⟩)
end Go.Proofs.Ytmpjooneiaiffaa
