/- TopRibbonYards: the logs joined. -/
import Derived.Test.YtbelgnbjkciafaaGreatDoorRbSS
set_option maxRecDepth 8000
namespace Go.Proofs.YtbelgnbjkciafaaGreatDoor
open Go.RowKit
open Classical
theorem s47v {l:List BookCloth} (h:LgOk l):f47 (l.map recL).flatten=some (l,0,0):=by
 have h12:=h.1
 have hfl:=flat_len l
 refine Yes.eq ?_
 unfold f47
 refine Yes.jn (qskip (decide_eq_false (by omega)) (qbind _ (rem_nn (by omega) (by omega)) (qskip ?_ (Yes.jn ?_))))
 ·have : ((l.map recL).flatten.length : Int) % 8 = 0 := by omega
  rw [this]; rfl
 have h83:f83 (l.map recL).flatten=some (fun σ cons s=>f107 (l.map recL).flatten σ cons s):=rfl
 rw [h83]
 simp only [Option.bind_some]
 refine Yes.bind (Yes.mono (s107v (L:=l.map recL) (fun r hr=>?_) (by simp; omega) (fun i st=>st.1=0∧st.2=(l.take i,0,0)) ⟨rfl,by simp⟩ fun i st hi v hv hI=>?_) fun r hr=>?_)
 ·obtain ⟨c, _, rfl⟩ := List.mem_map.1 hr
  exact recL_len c
 ·obtain ⟨n, st⟩ := st
  obtain ⟨hn,hI⟩:=hI
  simp only at hn hI
  subst hn hI
  have hi':i < l.length:=by simpa using hi
  have hc:=h.2.2 l[i] (List.getElem_mem hi')
  have hv':v=recV l[i]:=by
   apply Vector.toList_inj.1
   rw [hv,List.getElem_map]; rfl
  subst hv'
  show Yes ((f68 (recV l[i])).bind _) _
  refine qbind _ (s68v hc) (Yes.bind (Yes.mono (Q':=fun e=>e=0) ?_ fun e he=>?_))
  ·refine Yes.bind (Yes.mono (Q' := fun b => b = false) ?_ fun b hb => ?_)
   ·refine qtake rfl (Yes.cond (fun h0 => ?_) (fun _ => Yes.some rfl))
    have h0:=of_decide_eq_true h0
    have hti:(l.take i).length=i:=by rw [List.length_take]; omega
    rw [hti] at h0 ⊢
    rw [w64_id (by omega) (by omega),show ((i:Int) - 1)=((i - 1:Nat):Int) by omega]
    refine qbind _ (qidx (show i - 1 < (l.take i).length by omega)) ?_
    rw [List.getElem_take]
    exact qbind _ (s34_lt (h.lt (by omega) hi')) (Yes.some rfl)
   ·subst hb
    exact qskip rfl (Yes.some rfl)
  ·subst he
   refine Yes.jn (qskip rfl (Yes.bind (Yes.apnd (by rw [List.length_take]; simp; omega) (by rw [List.length_take]; simp; omega) (Yes.some ⟨rfl,rfl,?_⟩))))
   rw [List.take_succ_eq_append_getElem hi']
 ·obtain ⟨n, st⟩ := r
  obtain ⟨hn,hst⟩:=hr
  simp only at hn hst
  subst hn hst
  rw [List.length_map,List.take_length]
  exact qtake rfl (Yes.some rfl)
theorem mget_set_ne {κ ν:Type} [DecidableEq κ] {m:List (κ × ν)} {k k':κ} {v:ν} (h:k ≠ k'):mget (mset m k v) k'=mget m k':=by
 induction m with
 | nil=>simp [mset,mget,h]
 | cons p m ih=>
  unfold mset
  by_cases hp:p.1=k
  ·rw [if_pos hp]
   have:p.1 ≠ k':=fun h2=>h (hp ▸ h2)
   simp [mget,h,this]
  ·rw [if_neg hp]
   by_cases hq:p.1=k'
   ·simp [mget,hq]
   ·simp only [mget, List.find?_cons, hq, decide_false] at ih ⊢
    exact ih
theorem sorted_ext : ∀ {xs ys : List BookCloth}, xs.Pairwise (fun c d => c.Day < d.Day) → ys.Pairwise (fun c d => c.Day < d.Day) → (∀ c, c ∈ xs ↔ c ∈ ys) → xs = ys
 | [],[],_,_,_=>rfl
 | [],y :: ys,_,_,h=>absurd ((h y).2 (by simp)) (by simp)
 | x :: xs,[],_,_,h=>absurd ((h x).1 (by simp)) (by simp)
 | x :: xs,y :: ys,h1,h2,h=>by
  obtain ⟨p1,p2⟩:=List.pairwise_cons.1 h1
  obtain ⟨q1,q2⟩:=List.pairwise_cons.1 h2
  have hxy:x=y:=by
   rcases List.mem_cons.1 ((h x).1 (by simp)) with e | e
   ·exact e
   ·rcases List.mem_cons.1 ((h y).2 (by simp)) with e2 | e2
    ·exact e2.symm
    ·have:=q1 x e; have:=p1 y e2; omega
  subst hxy
  rw [sorted_ext p2 q2 fun c=>⟨fun hc=>?_,fun hc=>?_⟩]
  ·rcases List.mem_cons.1 ((h c).1 (by simp [hc])) with e | e
   ·subst e; have:=p1 c hc; omega
   ·exact e
  ·rcases List.mem_cons.1 ((h c).2 (by simp [hc])) with e | e
   ·subst e; have:=q1 c hc; omega
   ·exact e
theorem cmp_ok {xs:List BookCloth} (hd:xs.Pairwise fun c d=>c.Day ≠ d.Day) {p q:BookCloth} (hp:p ∈ xs) (hq:q ∈ xs):∃ c,f34 p q=some c∧(c < 0 ↔ p.Day < q.Day):=by
 rcases Int.lt_trichotomy p.Day q.Day with h | h | h
 ·exact ⟨_,s34_lt h,by omega⟩
 ·have e:p=q:=by
   obtain ⟨i,hi,rfl⟩:=List.getElem_of_mem hp
   obtain ⟨j,hj,rfl⟩:=List.getElem_of_mem hq
   rcases Nat.lt_trichotomy i j with hij | hij | hij
   ·exact absurd h (List.pairwise_iff_getElem.1 hd i j hi hj hij)
   ·subst hij; rfl
   ·exact absurd h.symm (List.pairwise_iff_getElem.1 hd j i hj hi hij)
  subst e
  refine ⟨0,?_,by omega⟩
  refine Yes.eq ?_
  unfold f34
  exact qbind _ (s71_eq _) (qbind _ (s71_eq _) (qbind _ (show f70 [0,0]=some 0 by kernel_rfl) (Yes.some rfl)))
 ·exact ⟨_,s34_gt h,by omega⟩
theorem s19v {a b y : List BookCloth} (ha : LgOk a) (hb : LgOk b) (hy : LgOk y) (hd : (b ++ a).Pairwise fun c d => c.Day ≠ d.Day) (hm : ∀ c, c ∈ y ↔ c ∈ b ++ a) (hl : (b ++ a).length = y.length) :
  f19 [(b.map recL).flatten,(a.map recL).flatten]=some (y,0,0):=by
 have hy12:=hy.1
 refine Yes.eq ?_
 unfold f19
 refine Yes.jn (qskip rfl (Yes.jn ?_))
 refine Yes.upto 2 (by omega) (fun i zs=>zs=[b,a].take i) rfl (fun i zs k hi hI hk=>?_) (fun zs k hI=>?_)
 ·subst hI
  refine qtake (decide_eq_true (by simp; omega)) (Yes.jn (qbind _ (qidx (by simpa using hi)) ?_))
  rcases Nat.lt_or_ge i 1 with h0 | h0
  ·obtain rfl : i = 0 := by omega
   exact qbind _ (s47v hb) (Yes.jn (qskip rfl (Yes.bind (Yes.apnd (by simp) (by simp) (hk _ rfl)))))
  ·obtain rfl : i = 1 := by omega
   exact qbind _ (s47v ha) (Yes.jn (qskip rfl (Yes.bind (Yes.apnd (by simp) (by simp) (hk _ rfl)))))
 subst hI
 refine qskip rfl (Yes.jn ?_)
 refine Yes.upto2 2 (by omega) (fun i zs mp=>zs=([b,a].take i).flatten∧∀ d l,(mget mp (⟨d,l⟩:BookSpot)).isSome=true→∃ c ∈ zs,c.Day=d) ⟨rfl,fun d l h=>by cases h⟩ (fun i zs mp k hi hI hk=>?_) (fun zs mp k hI=>?_)
 ·obtain ⟨hz, hmp⟩ := hI
  refine qtake (decide_eq_true (by show (i:Int) < 2; omega)) (Yes.jn ?_)
  have key:∀ (w:List BookCloth) (hw:[b,a][i]?=some w),([b,a].take (i + 1)).flatten=zs ++ w∧(zs ++ w).length ≤ 12∧(zs ++ w).Pairwise fun c d=>c.Day ≠ d.Day:=fun w hw=>by
   rcases Nat.lt_or_ge i 1 with h0 | h0
   ·obtain rfl : i = 0 := by omega
    have hw:b=w:=by simpa using hw
    subst hw hz
    refine ⟨by simp,by simp; have:=hb.1; omega,?_⟩
    exact (List.pairwise_append.1 hd).1
   ·obtain rfl : i = 1 := by omega
    have hw:a=w:=by simpa using hw
    subst hw hz
    refine ⟨by simp,?_,?_⟩
    ·have e : (List.take 1 [b, a]).flatten = b := by simp
     rw [e]; omega
    ·have e : (List.take 1 [b, a]).flatten = b := by simp
     rw [e]; exact hd
  obtain ⟨w,hw⟩:∃ w,[b,a][i]?=some w:=⟨_,List.getElem?_eq_getElem (by simpa using hi)⟩
  obtain ⟨k1,k2,k3⟩:=key w hw
  have hwi:idx ([b,a].take 2) (i:Int)=some w:=by
   unfold idx; rw [if_pos (by omega),Int.toNat_natCast]; exact hw
  refine qbind _ hwi ?_
  rw [List.length_append] at k2
  refine Yes.upto2 w.length (by omega) (fun j zs' mp'=>zs'=zs ++ w.take j∧∀ d l,(mget mp' (⟨d,l⟩:BookSpot)).isSome=true→∃ c ∈ zs',c.Day=d) ⟨by simp,hmp⟩ (fun j zs' mp' k' hj hJ hk'=>?_) (fun zs' mp' k' hJ=>?_)
  ·obtain ⟨rfl, hmp'⟩ := hJ
   have hnew:(mget mp' (⟨(w[j]).Day,(w[j]).Loom⟩:BookSpot)).isSome=false:=by
    rw [Bool.eq_false_iff]
    intro hs
    obtain ⟨c,hc,hcd⟩:=hmp' _ _ hs
    obtain ⟨p1,p2,p3⟩:=List.pairwise_append.1 k3
    rcases List.mem_append.1 hc with hc | hc
    ·exact p3 c hc w[j] (List.getElem_mem hj) hcd
    ·obtain ⟨q, hq, rfl⟩ := List.getElem_of_mem hc
     rw [List.length_take] at hq
     rw [List.getElem_take] at hcd
     exact List.pairwise_iff_getElem.1 p2 q j (by omega) hj (by omega) hcd
   refine qtake (decide_eq_true (by omega)) (Yes.jn (qbind _ (qidx hj) (Yes.jn ?_)))
   refine Yes.bind (qskip hnew (Yes.some (qskip rfl (qtake (by rw [hnew]; rfl) (Yes.bind (Yes.apnd ?_ ?_ (hk' _ _ ⟨?_,fun d l hs=>?_⟩)))))))
   ·rw [List.length_append,List.length_take]; simp; omega
   ·rw [List.length_append,List.length_take]; simp; omega
   ·rw [List.take_succ_eq_append_getElem hj,List.append_assoc]
   ·by_cases he : (⟨(w[j]).Day, (w[j]).Loom⟩ : BookSpot) = ⟨d, l⟩
    ·exact ⟨w[j],List.mem_append.2 (.inr (List.mem_singleton.2 rfl)),congrArg BookSpot.day he⟩
    ·rw [mget_set_ne he] at hs
     obtain ⟨c,hc,hcd⟩:=hmp' d l hs
     exact ⟨c,List.mem_append.2 (.inl hc),hcd⟩
  ·obtain ⟨rfl, hmp'⟩ := hJ
   refine qskip (decide_eq_false (by omega)) (hk _ _ ⟨?_,fun d l hs=>?_⟩)
   ·rw [k1,List.take_length]
   ·exact hmp' d l hs
 ·obtain ⟨hz, hmp⟩ := hI
  have hz:zs=b ++ a:=by rw [hz]; simp
  subst hz
  refine qskip rfl (Yes.jn (qskip (decide_eq_false (by omega)) ?_))
  obtain ⟨ys,h1,h2,h3⟩:=s87 (xs:=b ++ a) (φ:=fun a0 a1=>f34 a0 a1) (key:=BookCloth.Day) (fun p q hp hq=>cmp_ok hd hp hq) (by omega)
  refine qbind _ h1 (Yes.some ?_)
  have hs:=h2.one hd h3
  have:ys=y:=sorted_ext hs hy.2.1 fun c=>by rw [hm]; exact h2.mem_iff.symm
  rw [this]
end Go.Proofs.YtbelgnbjkciafaaGreatDoor
