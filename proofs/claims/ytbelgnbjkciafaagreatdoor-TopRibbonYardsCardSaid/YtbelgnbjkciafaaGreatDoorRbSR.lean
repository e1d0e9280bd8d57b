/- Insertion sort by a key. -/
import Derived.Test.YtbelgnbjkciafaaGreatDoorRbC
set_option maxRecDepth 8000
namespace Go.Proofs.YtbelgnbjkciafaaGreatDoor
open Go.RowKit
abbrev El:=BookCloth

/-! ### Lists by a key -/
section
variable {α:Type} (key:α→Int)
def Stab (xs ys:List α):Prop:=∀ v:Int,xs.filter (fun x=>key x == v)=ys.filter (fun x=>key x == v)
def Srt (xs:List α):Prop:=xs.Pairwise fun a b=>key a ≤ key b
variable {key}
theorem Stab.refl (xs:List α):Stab key xs xs:=fun _=>rfl
theorem Stab.trans {xs ys zs:List α} (h:Stab key xs ys) (k:Stab key ys zs):Stab key xs zs:=fun v=>(h v).trans (k v)
theorem Stab.app {a a' b b':List α} (h:Stab key a a') (k:Stab key b b'):Stab key (a ++ b) (a' ++ b'):=fun v=>by rw [List.filter_append,List.filter_append,h v,k v]
theorem Stab.mem {xs ys:List α} (h:Stab key xs ys) {x:α} (hx:x ∈ ys):x ∈ xs:=by
 have h1:x ∈ ys.filter (fun y=>key y == key x):=List.mem_filter.2 ⟨hx,by simp⟩
 rw [← h (key x)] at h1
 exact (List.mem_filter.1 h1).1
theorem Stab.swap {a b:List α} (h:∀ x ∈ a,∀ y ∈ b,key y < key x):Stab key (a ++ b) (b ++ a):=fun v=>by
 rw [List.filter_append,List.filter_append]
 by_cases hb:b.filter (fun x=>key x == v)=[]
 ·rw [hb]; simp
 ·have ha:a.filter (fun x=>key x == v)=[]:=List.filter_eq_nil_iff.2 fun x hx hk=>by
   obtain ⟨y,hy⟩:=List.exists_mem_of_ne_nil _ hb
   obtain ⟨hy1,hy2⟩:=List.mem_filter.1 hy
   have:=h x hx y hy1
   simp at hk hy2
   omega
  rw [ha]; simp
theorem srt_app {a b:List α}:Srt key (a ++ b) ↔ Srt key a∧Srt key b∧∀ x ∈ a,∀ y ∈ b,key x ≤ key y:=List.pairwise_append
end
/-! ### Places in a list of parts -/
section
variable {α:Type}
theorem get_at {p s:List α} {x:α} {i:Nat} (hi:i=p.length) (h:i < (p ++ x :: s).length):(p ++ x :: s)[i]=x:=by subst hi; simp
theorem set_at {p s:List α} {x y:α} {i:Nat} (hi:i=p.length):(p ++ x :: s).set i y=p ++ y :: s:=by subst hi; simp
end
section
variable {β:Type} {Q:β→Prop} {K:List El→Option β} {m A B C:List El} {u v:El} {a b:Int}
theorem get_lo {i:Nat} (hi:i=A.length) (h:i < (A ++ u :: (B ++ v :: C)).length):(A ++ u :: (B ++ v :: C))[i]=u:=get_at hi h
theorem get_hi {i:Nat} (hi:i=A.length + 1 + B.length) (h:i < (A ++ u :: (B ++ v :: C)).length):(A ++ u :: (B ++ v :: C))[i]=v:=by
 have e:A ++ u :: (B ++ v :: C)=(A ++ u :: B) ++ v :: C:=by simp
 simp only [e]
 exact get_at (by simp; omega) _
theorem set_lo {i:Nat} (hi:i=A.length) (y:El):(A ++ u :: (B ++ v :: C)).set i y=A ++ y :: (B ++ v :: C):=set_at hi
theorem set_hi {i:Nat} (hi:i=A.length + 1 + B.length) (y:El):(A ++ u :: (B ++ v :: C)).set i y=A ++ u :: (B ++ y :: C):=by
 have e:∀ z,A ++ u :: (B ++ z :: C)=(A ++ u :: B) ++ z :: C:=fun z=>by simp
 rw [e,e]
 exact set_at (by simp; omega)
theorem swapHi (hm : m = A ++ u :: (B ++ v :: C)) (ha : a = ((A.length + 1 + B.length : Nat) : Int)) (hb : b = (A.length : Int)) (hk : Yes (K (A ++ v :: (B ++ u :: C))) Q) :
  Yes ((idx m b).bind fun y1=>(idx m a).bind fun y2=>(idx m a).bind fun _=>(idx (List.set m (Int.toNat a) y1) b).bind fun _=>K (List.set (List.set m (Int.toNat a) y1) (Int.toNat b) y2)) Q:=by
 subst hm
 refine Yes.bind (Yes.idx hb (by simp) (Yes.bind (Yes.idx ha (by simp; omega) (Yes.bind (Yes.idx ha (by simp; omega) (Yes.bind (Yes.idx hb (by simp) ?_)))))))
 subst ha; subst hb
 rw [get_hi rfl,get_lo rfl,Int.toNat_natCast,Int.toNat_natCast,set_hi rfl,set_lo rfl]
 exact hk
end
theorem s106 {φ:El→El→Option Int} {key:El→Int} {xs P X S:List El} (hφ:∀ x y,x ∈ xs→y ∈ xs→∃ c,φ x y=some c∧(c < 0 ↔ key x < key y)) {a b:Int} (hm:xs=P ++ X ++ S) (ha:a=P.length) (hb:b=((P.length + X.length:Nat):Int)) (hs:xs.length < 1000000):Yes (f109 xs a b φ) fun r=>∃ Y,r=P ++ Y ++ S∧Stab key X Y∧Srt key Y:=by
 have hlen:P.length + X.length + S.length < 1000000:=by rw [hm] at hs; simp at hs; omega
 unfold f109
 subst ha; subst hb
 rw [w64_id (by omega) (by omega)]
 by_cases h0:X=[]
 ·subst h0
  refine Yes.lp (fun s=>s.1=xs∧s.2=(P.length:Int) + 1) (fun _=>0) ⟨rfl,rfl⟩ (by decide) ?_
  rintro ⟨r,j⟩ k ⟨h1,h2⟩ hk
  simp only at h1 h2
  subst h1; subst h2
  exact Yes.jn (Yes.cond (fun h=>absurd h (by simp; omega)) (fun _=>Yes.some ⟨[],by rw [hm],Stab.refl _,List.Pairwise.nil⟩))
 obtain ⟨x0,X0,rfl⟩:=List.exists_cons_of_ne_nil h0
 have hXl:(x0 :: X0).length=X0.length + 1:=rfl
 refine Yes.lp (fun s => ∃ X1 Z Y : List El, X0 = X1 ++ Z ∧ s.1 = P ++ Y ++ Z ++ S ∧ Y.length = X1.length + 1 ∧ s.2 = ((P.length + Y.length : Nat) : Int) ∧ Stab key (x0 :: X1) Y ∧ Srt key Y) (fun s => (P.length + X0.length + 2) - s.2.toNat)
  ⟨[],X0,[x0],rfl,by rw [hm]; simp,rfl,by simp,Stab.refl _,List.pairwise_singleton _ _⟩ (by simp only; omega) ?_
 rintro ⟨r,j⟩ k ⟨X1,Z,Y,hX,h1,hY,h2,hst,hsr⟩ hk
 simp only at h1 h2 hk
 subst h2
 have hXl2:X0.length=X1.length + Z.length:=by rw [hX]; simp
 refine Yes.jn (Yes.cond (fun hlt=>Yes.bind ?_) (fun hge=>Yes.some ?_))
 rotate_left
 ·have hz : Z = [] := List.length_eq_zero_iff.1 (by simp at hge; omega)
  subst hz
  exact ⟨Y,by rw [h1]; simp,by rw [hX]; simpa using hst,hsr⟩
 have hzl:0 < Z.length:=by simp at hlt; omega
 obtain ⟨z,Z',rfl⟩:=List.exists_cons_of_ne_nil (List.length_pos_iff.1 hzl)
 simp only [List.length_cons] at hXl2
 refine Yes.lp (fun s => ∃ Y1 Y2 : List El, Y = Y1 ++ Y2 ∧ s.1 = P ++ Y1 ++ z :: Y2 ++ Z' ++ S ∧ s.2 = ((P.length + Y1.length : Nat) : Int) ∧ ∀ y ∈ Y2, key z < key y) (fun s => s.2.toNat)
  ⟨Y,[],by simp,by rw [h1]; simp,rfl,fun y hy=>by cases hy⟩ (by simp only; omega) ?_
 rintro ⟨r2,j⟩ k2 ⟨Y1,Y2,hYe,h3,h4,hY2⟩ hk2
 simp only at h3 h4 hk2
 subst h4
 have hYl:Y.length=Y1.length + Y2.length:=by rw [hYe]; simp
 have hr2:r2.length < 1000000:=by rw [h3]; simp; omega
 have fin:(Y1=[] ∨ ∃ y Y1',Y1=Y1' ++ [y]∧key y ≤ key z)→Yes (some r2) (fun r=>Yes (k (r,w64 (((P.length + Y.length:Nat):Int) + 1))) fun r=>∃ Y,r=P ++ Y ++ S∧Stab key (x0 :: X0) Y∧Srt key Y):=fun hfin=>by
  rw [w64_id (by omega) (by omega)]
  refine Yes.some (hk _ ⟨X1 ++ [z],Z',Y1 ++ z :: Y2,by rw [hX]; simp,by rw [h3]; simp,by simp; omega,by simp; omega,?_,?_⟩ (by simp only; omega))
  ·have e1 : Stab key (x0 :: (X1 ++ [z])) (Y ++ [z]) := hst.app (Stab.refl [z])
   have e2:Stab key (Y2 ++ [z]) ([z] ++ Y2):=Stab.swap fun x hx y hy=>by rw [List.mem_singleton.1 hy]; exact hY2 x hx
   have e3:Stab key (Y1 ++ (Y2 ++ [z])) (Y1 ++ ([z] ++ Y2)):=(Stab.refl Y1).app e2
   refine e1.trans ?_
   rw [hYe,List.append_assoc]
   exact e3
  ·rw [hYe] at hsr
   obtain ⟨s1,s2,s3⟩:=srt_app.1 hsr
   refine srt_app.2 ⟨s1,List.pairwise_cons.2 ⟨fun y hy=>by have:=hY2 y hy; omega,s2⟩,fun x hx y hy=>?_⟩
   rcases List.mem_cons.1 hy with rfl | hy
   ·rcases hfin with rfl | ⟨q, Q, rfl, hq⟩
    ·cases hx
    ·obtain ⟨_, _, s5⟩ := srt_app.1 s1
     rcases List.mem_append.1 hx with h | h
     ·have:=s5 x h q (by simp); omega
     ·rw [List.mem_singleton.1 h]; exact hq
   ·exact s3 x hx y hy
 refine Yes.jn (Yes.bind (Yes.cond (fun hgt=>?_) (fun hng=>Yes.some (Yes.cond (fun h=>nomatch h) (fun _=>fin (.inl ?_))))))
 rotate_left
 ·exact List.length_eq_zero_iff.1 (by simp at hng; omega)
 have hY1:0 < Y1.length:=by simp at hgt; omega
 obtain ⟨y,Y1',hY1e⟩:∃ y Y1',Y1=Y1' ++ [y]:=by
  have hne:Y1 ≠ []:=List.length_pos_iff.1 hY1
  exact ⟨Y1.getLast hne,Y1.dropLast,(List.dropLast_concat_getLast hne).symm⟩
 have hY1l:Y1.length=Y1'.length + 1:=by rw [hY1e]; simp
 have e:r2=(P ++ Y1') ++ y :: ([] ++ z :: (Y2 ++ Z' ++ S)):=by rw [h3,hY1e]; simp
 have hA:(P ++ Y1').length=P.length + Y1'.length:=by simp
 rw [w64_id (n:=((P.length + Y1.length:Nat):Int) - 1) (by omega) (by omega)]
 have hi1:P.length + Y1.length < r2.length:=by rw [h3]; simp
 have hi0:P.length + Y1'.length < r2.length:=by omega
 refine Yes.bind (Yes.idx (n:=P.length + Y1.length) rfl hi1 (Yes.bind (Yes.idx (n:=P.length + Y1'.length) (by omega) hi0 ?_)))
 have g1:r2[P.length + Y1.length]=z:=by simp only [e]; exact get_hi (by rw [hA]; simp; omega) _
 have g0:r2[P.length + Y1'.length]=y:=by simp only [e]; exact get_lo (by rw [hA]) _
 rw [g1,g0]
 obtain ⟨c,hφc,hcl⟩:=hφ z y (by rw [hm,hX]; simp) (by rw [hm]; have:=hst.mem (x:=y) (by rw [hYe,hY1e]; simp); rw [hX]; simp at this ⊢; grind)
 refine Yes.bind (Yes.of hφc (Yes.some (Yes.cond (fun hc=>?_) (fun hc=>fin (.inr ⟨y,Y1',hY1e,?_⟩)))))
 rotate_left
 ·simp at hc; omega
 have hc:key z < key y:=by simp at hc; omega
 refine Yes.jn (Yes.bind (swapHi e (by rw [hA]; simp; omega) (by rw [hA]; omega) (Yes.some ?_)))
 refine hk2 _ ⟨Y1',y :: Y2,by rw [hYe,hY1e]; simp,by simp,by omega,fun q hq=>?_⟩ (by simp only; omega)
 rcases List.mem_cons.1 hq with rfl | hq
 ·exact hc
 ·exact hY2 q hq
end Go.Proofs.YtbelgnbjkciafaaGreatDoor
