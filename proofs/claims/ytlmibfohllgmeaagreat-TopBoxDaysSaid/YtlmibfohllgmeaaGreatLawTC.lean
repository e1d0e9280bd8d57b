/- TopBoxDays: what f3 answers. -/
import Derived.Test.YtlmibfohllgmeaaGreatLawTA
import Derived.Test.YtlmibfohllgmeaaGreatLawTQ
set_option maxRecDepth 8000
namespace Go.Proofs.YtlmibfohllgmeaaGreat
open Go.RowKit
open Classical

theorem Lz {l:List Gf} {i j:Nat} {v:Gf} (hi:i < l.length):od (l.set i v) (j:Int)=if j=i then v else od l (j:Int):=by
 unfold od
 rw [show ((j:Int)).toNat=j by omega]
 by_cases h:j=i
 ·subst h; simp [hi]
 ·simp [h,Ne.symm h]
structure Quick (l s q : List Gf) : Prop where
 sl:s.length=l.length
 ql:q.length=l.length
 o : ∀ j : Nat, j < l.length → (od s (j : Int)).Width = (od l (j : Int)).Width ∧ (od s (j : Int)).Chain = (od l (j : Int)).Chain ∧ (od s (j : Int)).Early = (od l (j : Int)).Early ∧ (od s (j : Int)).Late = (od l (j : Int)).Late ∧
  (od q (j:Int)).Width=(od l (j:Int)).Width∧(od q (j:Int)).Chain=(od l (j:Int)).Chain∧(od q (j:Int)).Early=(od l (j:Int)).Early∧(od q (j:Int)).Late=(od l (j:Int)).Late ∧
  1 ≤ (od q (j:Int)).Woven∧(od q (j:Int)).Woven ≤ (od s (j:Int)).Woven∧(od s (j:Int)).Woven ≤ 52
theorem tog_quick {m:LoomMill} {l s q:List Gf} (E:Quick l s q) {t:Nat} (h:Ud m s ng (allL m) t):Ud m q ng (allL m) t:=by
 obtain ⟨K,F,h⟩:=h
 refine ⟨K,F,fun i hi=>?_,fun i j hi hj hne hk hle=>?_⟩
 ·have h1 := h.one i hi
  have hil:=h1.il
  rw [E.sl] at hil
  obtain ⟨o1,o2,o3,o4,o5,o6,o7,o8,o9,o10,o11⟩:=E.o i hil
  have a1:=h1.w
  have a2:=h1.e
  have a3:=h1.t
  exact ⟨by rw [E.ql]; exact hil,h1.kw,h1.a,by omega,by omega,by omega⟩
 ·have h1 := h.sep i j hi hj hne hk hle
  have hil:=(h.one i hi).il
  have hjl:=(h.one j hj).il
  rw [E.sl] at hil hjl
  obtain ⟨o1,o2,o3,o4,o5,o6,o7,o8,o9,o10,o11⟩:=E.o i hil
  obtain ⟨p1,p2,p3,p4,p5,p6,p7,p8,p9,p10,p11⟩:=E.o j hjl
  unfold gap at h1 ⊢
  rw [o2,p2] at h1
  rw [o6,p6]
  omega
theorem left_quick {m : LoomMill} {l s q : List Gf} (g' : Xu m q) (E : Quick l s q) {t : Nat} (ht : Ve (LfP m s) (2 ^ s.length) = some t) :
  ∃ t',Ve (LfP m q) (2 ^ q.length)=some t'∧(Kq t').length ≤ (Kq t).length:=by
 obtain ⟨h1,h2⟩:=best_lt ht
 refine left_le g' (by rw [E.ql,← E.sl]; exact h1) ?_ (Nat.le_refl _)
 unfold LfP at h2 ⊢
 rw [E.ql,← E.sl]
 exact tog_quick E h2
theorem quick_good {c:Int} {w:Nat} {m:LoomMill} {l s q:List Gf} (h:Shed c w m l) (E:Quick l s q):Xu m s∧Xu m q:=by
 have g:=good_of (shed_ok h)
 have hall:∀ x:List Gf,x.length=l.length→(∀ j:Nat,j < l.length→(od x (j:Int)).Width=(od l (j:Int)).Width∧(od x (j:Int)).Chain=(od l (j:Int)).Chain∧(od x (j:Int)).Early=(od l (j:Int)).Early∧(od x (j:Int)).Late=(od l (j:Int)).Late∧1 ≤ (od x (j:Int)).Woven∧(od x (j:Int)).Woven ≤ 52)→Xu m x:=fun x hx ho=>by
  refine ⟨g.w1,g.w3,by have:=g.l7; omega,g.w,g.c,fun y hy=>?_⟩
  obtain ⟨i,hi,he⟩:=List.getElem_of_mem hy
  have hy2:od x (i:Int)=y:=by unfold od; simp [he,hi]
  obtain ⟨o1,o2,o3,o4,o5,o6⟩:=ho i (by omega)
  obtain ⟨g1,g2,g3,g4,g5⟩:=g.o _ (od_mem (l:=l) (x:=(i:Int)) (by omega) (by omega))
  rw [hy2] at o1 o2 o3 o4 o5 o6
  rw [o1,o2,o3,o4]
  exact ⟨g1,g2,⟨o5,by omega⟩,g4,g5⟩
 refine ⟨hall s E.sl fun j hj=>?_,hall q E.ql fun j hj=>?_⟩
 ·obtain ⟨o1, o2, o3, o4, o5, o6, o7, o8, o9, o10, o11⟩ := E.o j hj
  exact ⟨o1,o2,o3,o4,by omega,by omega⟩
 ·obtain ⟨o1, o2, o3, o4, o5, o6, o7, o8, o9, o10, o11⟩ := E.o j hj
  exact ⟨o5,o6,o7,o8,by omega,by omega⟩
theorem os_flat : ∀ gs : List (List Int), Yj gs gs.flatten
 | []=>rfl
 | g :: gs=>⟨g,gs.flatten,rfl,List.Perm.refl _,os_flat gs⟩
theorem both {l : BoxLoom} (hl : Kd l) {a b : List Int} (ha : a.length = 3) (hb : b.length = 3) (hc : (a ++ b).all (Vt 0 9) = true) :
  Yes (f9 l (a ++ b)) fun r=>Yes (f11 l [a,b]) fun s=>r.2.2.2=9 ∨ r.2.2.2=0∧s.2.2=0∧s.2.1 ≤ r.2.1∧0 ≤ s.2.1∧r.2.1 ≤ 40:=by
 have hn:(a ++ b).length=6:=by rw [List.length_append]; omega
 have hR:=Ox (a ++ b) (by omega) hl
 refine Yes.of (s17X hl (by omega) hc) ?_
 rw [List.all_append,Bool.and_eq_true] at hc
 refine (grpX (gs:=[a,b]) hl (by simp) (fun g hg=>by simp at hg; rcases hg with rfl | rfl <;> omega) (fun g hg=>by
  simp at hg
  rcases hg with rfl | rfl
  ·exact hc.1
  ·exact hc.2) (by simp; omega)).mono fun s hs=>?_
 by_cases hall:(rfX (a ++ b) l).2.2=(a ++ b).length
 ·rw [if_pos hall]
  have hlt:=hR.all.2 hall
  have hr:=Si (a ++ b) hl (by omega)
  have hos:Yj [a,b] (a ++ b):=by have:=os_flat [a,b]; simpa using this
  rcases hs with ⟨h1,_⟩ | ⟨o,M,rfl,hB⟩
  ·have:=h1 _ hos; omega
  ·have h1 := hB.le _ hos
   have h2:=Si o hl (by have:=hB.os.len; simp at this; omega)
   have h3:=hB.mvX
   have h4:=hR.mvX hlt
   refine .inr ⟨rfl,rfl,?_,?_,?_⟩ <;> simp only <;> omega
 ·rw [if_neg hall]; exact .inl rfl
theorem fin {c:Int} {w:Nat} {m:LoomMill} {l s q:List Gf} (hS:Shed c w m l) (hI:Quick l s q):Yes (
  (f13 m).bind fun y707=>
  (f12 y707 s).bind fun y710=>
  (f13 m).bind fun y713=>
  (f12 y713 q).bind fun y716=>
  Option.bind (α:=Bool) (
   bif (y710.2 == (0 : Int)) then
    bif (y716.2 == (0 : Int)) then
     bif (decide (((y716.1).length : Int) ≤ ((y710.1).length : Int))) then
      (f14).bind fun y729=>
      bif y729 then
       (f15).bind fun y732=>
       some (y732)
      else
       some (false)
     else
      some (false)
    else
     some (false)
   else
    some (false)
   ) fun s6_733=>
  some (s6_733)) (fun r=>r=true):=by
 have hw:=hS.hw
 have hm:=hS.hm
 have hlen:m.Widths.length ≤ 1000:=by rw [hm]; simp; omega
 obtain ⟨gs,gq⟩:=quick_good hS hI
 obtain ⟨t,ht⟩:=lf_some gs
 obtain ⟨t',ht',hle⟩:=left_quick gq hI ht
 exact Wm _ (c13 m hlen) (Wm _ (s24g gs ht) (Wm _ (c13 m hlen) (Wm _ (s24g gq ht') (Yes.bind (Cg rfl (Cg rfl (Cg (decide_eq_true (by simp only; omega)) (Wm _ pubBox_ok (Cg rfl (Wm _ pub_shop_ok (Yes.some (Yes.some rfl))))))))))))
theorem s3 (x0:Ya) (x1:List (Vector UInt8 6)) (x2:List (Vector UInt8 3)):f3 x0 x1 x2=some true:=by
 refine Yes.eq ?_
 unfold f3
 refine Yes.bind ((shed_is 1 1 x2).mono fun r hr=>?_)
 obtain ⟨c,w,hS⟩:=hr
 obtain ⟨m,l⟩:=r
 simp only at hS ⊢
 have hn:=hS.hn
 have hw:=hS.hw
 have hm:=hS.hm
 have hlen:m.Widths.length ≤ 1000:=by rw [hm]; simp; omega
 obtain ⟨bl,hbl,hL,_,_⟩:=w5 x0
 refine Wm _ (c7 l (by omega)) (Wm _ (c7 l (by omega)) (Yes.jn ?_))
 refine Yes.upto2 (σ:=List Gf) (τ:=List Gf) l.length (by omega) (fun i s q=>Quick l s q∧∀ j:Nat,i ≤ j→j < l.length→od s (j:Int)=od l (j:Int)∧od q (j:Int)=od l (j:Int)) ⟨⟨rfl,rfl,fun j hj=>?_⟩,fun j _ _=>⟨rfl,rfl⟩⟩ (fun i s q k hi hI hk=>?_) (fun s q k hI=>?_)
 ·have := (hS.ho j hj).2.2.1
  exact ⟨rfl,rfl,rfl,rfl,rfl,rfl,rfl,rfl,this.1,Int.le_refl _,by omega⟩
 ·refine Yes.jn ?_
  obtain ⟨hI,hT⟩:=hI
  have hsl:=hI.sl
  have hql:=hI.ql
  by_cases hx:i < x1.length
  ·refine Wm true (by rw [decide_eq_true (show (i : Int) < (l.length : Int) by omega), decide_eq_true (Int.ofNat_lt.2 hx)]; rfl) (Cg rfl ?_)
   refine Yes.jn (Yes.bind (Yes.mono (Q':=fun o:List Int=>o.length=6∧∀ x ∈ o,0 ≤ x∧x ≤ 2) ?_ fun o ho=>?_))
   ·refine Yes.upto (σ := List Int) 6 (by omega) (fun b o => o.length = b ∧ ∀ x ∈ o, 0 ≤ x ∧ x ≤ 2) ⟨rfl, fun x hx => by cases hx⟩ (fun b o k2 hb hI2 hk2 => ?_) (fun o k2 hI2 => ?_)
    ·obtain ⟨r, hr, hr0, hr1⟩ := zrem (a := (((x1[i]).toList[b]'(by simp; omega)).toNat : Int)) (b := 3) (by omega) (by omega)
     refine Yes.jn (Cg (decide_eq_true (by omega)) (Yes.bind (Wm _ (zidx hx) (Wm _ (zidx (by simp; omega)) (Wm _ hr (Wm _ (zapnd8 (by have:=hI2.1; simp only; omega)) (Yes.some (hk2 _ ⟨by simp [hI2.1],fun x hx=>?_⟩))))))))
     rcases List.mem_append.1 hx with hx | hx
     ·exact hI2.2 x hx
     ·rw [List.mem_singleton.1 hx]; omega
    ·exact Yes.jn (Fx (decide_eq_false (by omega)) (Yes.some hI2))
   ·obtain ⟨ho6, ho2⟩ := ho
    have h1:cut o 0 (3:Int)=some (o.take 3):=cut_takeX (xs:=o) (i:=3) (by omega)
    have h2:cut o (3:Int) (o.length:Int)=some (o.drop 3):=cut_dropX (xs:=o) (i:=3) (by omega)
    have l1:(o.take 3).length=3:=by rw [List.length_take]; omega
    have l2:(o.drop 3).length=3:=by rw [List.length_drop]; omega
    have hb:=both hL (a:=o.take 3) (b:=o.drop 3) l1 l2 (by
     rw [List.take_append_drop]
     exact List.all_eq_true.2 fun x hx=>Ka.2 (by have:=ho2 x hx; omega))
    rw [List.take_append_drop] at hb
    obtain ⟨r,hr,u,hu,hru⟩:=hb
    refine Wm _ h1 (Wm _ (c8 _ (by omega)) (Wm _ h2 (Wm _ (c8 _ (by omega)) (Yes.bind (Yes.apnd (by simp) (by simp) ?_)))))
    refine Wm _ hbl (Wm _ (c8 o (by omega)) (Wm r hr (Wm _ hbl (Wm u hu (Yes.jn ?_)))))
    rcases hru with h9 | ⟨e0,e1,e2,e3,e4⟩
    ·exact Cg (by rw [h9]; rfl) (hk s q ⟨hI,fun j hj=>hT j (by omega)⟩)
    ·refine Fx (by rw [e0]; rfl) (Yes.jn (Wm false ?_ (Fx rfl ?_)))
     ·rw [e0,e1,decide_eq_false (show ¬ u.2.1 > r.2.1 by omega),decide_eq_false (show ¬ u.2.1 < 0 by omega),decide_eq_false (show ¬ r.2.1 > 40 by omega)]; rfl
     have his:i < s.length:=by omega
     have hiq:i < q.length:=by omega
     have js:idx s (i:Int)=some (od s (i:Int)):=Fs (by omega) (by omega)
     have jq:idx q (i:Int)=some (od q (i:Int)):=Fs (by omega) (by omega)
     refine Wm _ js (Wm _ jq (Wm _ js (Wm _ jq (hk _ _ ⟨⟨by rw [List.length_set]; exact hsl,by rw [List.length_set]; exact hql,fun j hj=>?_⟩,fun j hj hjl=>?_⟩))))
     ·rw [Int.toNat_natCast, Lz his, Lz hiq]
      by_cases hji:j=i
      ·subst hji
       rw [if_pos rfl,if_pos rfl]
       obtain ⟨t1,t2⟩:=hT j (Nat.le_refl _) hi
       have hwv:=(hS.ho j hi).2.2.1
       rw [t1,t2,zw64 (by omega) (by omega),zw64 (by omega) (by omega)]
       refine ⟨rfl,rfl,rfl,rfl,rfl,rfl,rfl,rfl,?_,?_,?_⟩ <;> simp only <;> omega
      ·rw [if_neg hji,if_neg hji]; exact hI.o j hj
     ·rw [Int.toNat_natCast, Lz his, Lz hiq, if_neg (show ¬ j = i by omega), if_neg (show ¬ j = i by omega)]
      exact hT j (by omega) hjl
  ·refine Wm false (by rw [decide_eq_true (show (i:Int) < (l.length:Int) by omega),decide_eq_false (show ¬ (i:Int) < (x1.length:Int) by omega)]; rfl) (Fx rfl (fin hS hI))
 ·refine Yes.jn (Wm false (by rw [decide_eq_false (Int.lt_irrefl _)]; rfl) (Fx rfl ?_))
  exact fin hS hI.1
end Go.Proofs.YtlmibfohllgmeaaGreat
