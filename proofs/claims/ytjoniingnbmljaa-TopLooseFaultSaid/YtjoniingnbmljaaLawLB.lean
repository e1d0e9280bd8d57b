/- Laws of plain functions: slices.Repeat, what is known of warps, and how a loose one is drawn in anew. -/
import Derived.Test.YtjoniingnbmljaaLawLA
set_option maxRecDepth 8000
namespace Go.Proofs.Ytjoniingnbmljaa
open Go.RowKit
open Classical
theorem mgetL {κ ν : Type} [DecidableEq κ] (k : κ) (v : ν) (k' : κ) : ∀ m : List (κ × ν), mget (mset m k v) k' = if k' = k then some v else mget m k'
 | []=>by
  by_cases h:k'=k
  ·subst h; simp [mset,mget]
  ·simp [mset,mget,h,Ne.symm h]
 | p :: m=>by
  have ih:=mgetL k v k' m
  unfold mget at ih ⊢
  simp only [mset]
  by_cases h1:p.1=k
  ·rw [if_pos h1]
   by_cases h2:k'=k
   ·subst h2; simp
   ·have h3 : ¬ k = k' := fun h => h2 h.symm
    have h4:¬ p.1=k':=fun h=>h2 (h.symm.trans h1)
    simp [List.find?_cons,h3,h4,h2]
  ·rw [if_neg h1]
   by_cases h2:p.1=k'
   ·have h3 : ¬ k' = k := fun h => h1 (h2.trans h)
    simp [List.find?_cons,h2,h3]
   ·simp only [List.find?_cons, h2, decide_false]
    exact ih

/-! ### slices.Repeat -/
theorem cutnL {α:Type} {xs:List α} {l h:Nat} (h1:l ≤ h) (h2:h ≤ xs.length):cut xs (l:Int) (h:Int)=some ((xs.take h).drop l):=by
 unfold cut
 rw [if_pos ⟨by omega,by omega,by omega⟩]
 simp
theorem rep_stepL {α:Type} (a z:α) {n s:Nat} (hs:s ≤ n):cpy (List.replicate s a ++ List.replicate (n - s) z) (s:Int) (List.replicate (n - s) z) (List.replicate s a)=List.replicate (s + min s (n - s)) a ++ List.replicate (n - (s + min s (n - s))) z:=by
 unfold cpy
 simp only [List.length_replicate,Int.toNat_natCast]
 rw [List.take_append_of_le_length (by simp),List.take_of_length_le (by simp),List.take_replicate,List.drop_append,List.drop_of_length_le (by simp),List.length_replicate,List.nil_append,List.drop_replicate,← List.append_assoc,List.replicate_append_replicate]
 congr 2
 ·omega
 ·omega
theorem rep_loopL {α : Type} (a z : α) (n : Nat) (h1 : 1 ≤ n) (h2 : n ≤ 1000) {body : (List α × Int → Option (List α)) → List α × Int → Option (List α)}
  (hb:∀ k m (s:Int),body k (m,s)=bif decide (s < (m.length:Int)) then (cut m s (m.length:Int)).bind fun p=>(cut m 0 s).bind fun q=>k (cpy m s p q,w64 (s + ((min q.length p.length:Nat):Int))) else some m) :
  lp body big (a :: List.replicate (n - 1) z,1)=some (List.replicate n a):=by
 refine Yes.eq ?_
 refine Yes.lp (fun st=>∃ s:Nat,st.2=s∧1 ≤ s∧s ≤ n∧st.1=List.replicate s a ++ List.replicate (n - s) z) (fun st=>n - st.2.toNat) ⟨1,rfl,Nat.le_refl _,h1,rfl⟩ (by simp; omega) ?_
 rintro ⟨m,s⟩ k ⟨i,hi,hi1,hin,hm⟩ hk
 simp only at hi hm
 subst hi
 have hl:m.length=n:=by rw [hm]; simp; omega
 rw [hb,hl]
 refine Yes.cond (fun hc=>?_) (fun hc=>?_)
 ·have hlt : i < n := by have := of_decide_eq_true hc; omega
  rw [cutnL (by omega) (by omega)]
  have h0:cut m 0 (i:Int)=some ((m.take i).drop 0):=cutnL (l:=0) (by omega) (by omega)
  rw [h0]
  have e1:(m.take n).drop i=List.replicate (n - i) z:=by
   rw [List.take_of_length_le (by omega),hm,List.drop_append,List.drop_of_length_le (by simp),List.length_replicate,Nat.sub_self,List.drop_zero,List.nil_append]
  have e2:(m.take i).drop 0=List.replicate i a:=by
   rw [List.drop_zero,hm,List.take_append_of_le_length (by simp),List.take_of_length_le (by simp)]
  rw [e1,e2]
  simp only [Option.bind_some,List.length_replicate]
  rw [w64_id (by omega) (by omega),hm,rep_stepL a z (by omega)]
  refine hk _ ⟨i + min i (n - i),by simp,by omega,by omega,rfl⟩ ?_
  simp only [Int.toNat_natCast]
  omega
 ·have hge : ¬ i < n := by have := of_decide_eq_false hc; omega
  obtain rfl:i=n:=by omega
  refine Yes.some ?_
  rw [hm]; simp
theorem mul1L {n:Nat} (h:n ≤ 1000):mulU (wu64 ((1:Nat):Int)) (wu64 (n:Int))=some (0,(n:Int)):=by
 rw [wu64_idF (by omega) (by omega),wu64_idF (by omega) (by omega)]
 unfold mulU
 rw [if_pos ⟨by omega,by omega,by omega,by omega⟩]
 have e1:((1:Nat):Int) * (n:Int)=n:=by omega
 rw [e1]
 congr 2 <;> omega
theorem mksL {α:Type} {b:Nat} (hb:b ≤ 8) (z:α) {n:Nat} (h:n ≤ 1000):mks b z (n:Int)=some (List.replicate n z):=by
 unfold mks
 have:(b:Int) * (n:Int) ≤ 8 * 1000:=by
  have:b * n ≤ 8 * 1000:=Nat.mul_le_mul hb h
  have h2:((b * n:Nat):Int)=(b:Int) * (n:Int):=by simp
  omega
 rw [if_pos ⟨by omega,by omega,by omega⟩]
 simp
theorem cpy1L {α:Type} (a z:α) {n:Nat} (h1:1 ≤ n):cpy (List.replicate n z) 0 (List.replicate n z) [a]=a :: List.replicate (n - 1) z:=by
 unfold cpy
 have:min 1 n=1:=by omega
 simp [this,List.drop_replicate]
theorem s91L (a:Int) (n:Nat) (h1:1 ≤ n) (h2:n ≤ 1000):f91 [a] (n:Int)=some (List.replicate n a):=by
 refine Yes.eq ?_
 unfold f91
 refine Yes.bind (skipF (decide_eq_false (by omega)) (Yes.some (bindvF _ (mul1L h2) (Yes.bind (Yes.bind (skipF rfl (Yes.some (skipF (decide_eq_false (by show ¬ ((n:Int) > _); omega)) (Yes.some ?_)))))))))
 show Yes (Option.bind (mks 8 (0:Int) (w64 (n:Int))) _) _
 rw [tw64F (by omega) (by omega)]
 refine bindvF _ (mksL (by omega) 0 h2) ?_
 rw [cpy1L a 0 h1]
 have hm:((min [a].length (List.replicate n (0:Int)).length:Nat):Int)=1:=by simp; omega
 rw [hm]
 refine bindvF _ (rep_loopL a 0 n h1 h2 fun k m s=>rfl) (Yes.some rfl)
theorem s92L (a:Bool) (n:Nat) (h1:1 ≤ n) (h2:n ≤ 1000):f92 [a] (n:Int)=some (List.replicate n a):=by
 refine Yes.eq ?_
 unfold f92
 refine Yes.bind (skipF (decide_eq_false (by omega)) (Yes.some (bindvF _ (mul1L h2) (Yes.bind (Yes.bind (skipF rfl (Yes.some (skipF (decide_eq_false (by show ¬ ((n:Int) > _); omega)) (Yes.some ?_)))))))))
 show Yes (Option.bind (mks 1 false (w64 (n:Int))) _) _
 rw [tw64F (by omega) (by omega)]
 refine bindvF _ (mksL (by omega) false h2) ?_
 rw [cpy1L a false h1]
 have hm:((min [a].length (List.replicate n false).length:Nat):Int)=1:=by simp; omega
 rw [hm]
 refine bindvF _ (rep_loopL a false n h1 h2 fun k m s=>rfl) (Yes.some rfl)

/-! ### What can be known -/
theorem s87L {l:FaultLoom} (hw:l.Harness.Warps.length ≤ 1000) (s:Zz):f87 s l.Harness=some (!okSF l s):=by
 refine Yes.eq ?_
 unfold f87
 rw [tw64F (by omega) (by omega)]
 refine Yes.bind (bindvF _ (s88F _ _ _ (by simp)) (Yes.cond (fun h=>Yes.some (Yes.some ?_)) (fun h=>bindvF _ (s88F _ _ _ (by simp)) (Yes.some (Yes.some ?_)))))
 ·unfold okSF btwF
  simp only [List.all_cons,List.all_nil,Bool.and_true] at h
  revert h
  cases decide (0 ≤ s.Pick∧s.Pick ≤ 119) <;> simp
 ·unfold okSF btwF
  simp only [List.all_cons,List.all_nil,Bool.and_true] at h ⊢
  revert h
  cases decide (0 ≤ s.Pick∧s.Pick ≤ 119) <;> simp
theorem s33L {l:FaultLoom} (ha:ArmF l) {ss:List Zz} (hs:ss.length ≤ 10) (hok:∀ s ∈ ss,okSF l s=true∧s.Lifted=false):Yes (f33 l.Harness l.Design ss) fun r=>r.2=(List.replicate l.Harness.Warps.length true,0):=by
 have g:=good_ofF ha.ok
 have hw30:=ha.w30
 have hw1:=ha.w1
 have hr1:=ha.r1
 have hr10:=ha.r10
 unfold f33
 refine Yes.jn (bindvF _ (s89F l) (skipF (by rw [ha.ok]; rfl) (skipF (decide_eq_false (by omega)) ?_)))
 refine bindvF _ (s63F ss _ (fun s=>!okSF l s) (by omega) fun s _=>s87L (by omega) s) (skipF ?_ ?_)
 ·rw [List.any_eq_false]; intro s h; rw [(hok s h).1]; simp
 refine Yes.bind (Yes.mono (Q':=fun _=>True) ?_ fun v _=>?_)
 ·refine Yes.upto l.Harness.Warps.length (by omega) (fun _ _ => True) trivial (fun i s k hi _ hk => ?_) (fun s k _ => ?_)
  ·refine takeF (decide_eq_true (by omega)) (Yes.bind (bindvF _ (tidxF hi) ?_))
   obtain ⟨e1,e2⟩:=hk_atF g hi
   have:=g.h24
   rw [e1]
   exact bindvF _ (shl_bitF (by omega)) (Yes.some (hk _ trivial))
  ·exact skipF (decide_eq_false (by omega)) (Yes.some trivial)
 refine bindvF _ (s91L v _ hw1 (by omega)) (bindvF _ (s92L true _ hw1 (by omega)) ?_)
 refine Yes.bind (Yes.mono (Q':=fun r=>r.2=List.replicate l.Harness.Warps.length true) ?_ fun r hr=>Yes.some (by simp only; rw [hr]))
 refine Yes.upto2 ss.length (by omega) (fun _ m t=>m.length=l.Harness.Warps.length∧t=List.replicate l.Harness.Warps.length true) ⟨by simp,rfl⟩ (fun i m t k hi hI hk=>?_) (fun m t k hI=>?_)
 ·obtain ⟨h1, h2⟩ := hok _ (List.getElem_mem hi)
  obtain ⟨p0,p1,w0,w1⟩:=okS_isF h1
  refine takeF (decide_eq_true (by omega)) (Yes.bind (bindvF _ (tidxF hi) ?_))
  have hrem:rem64 (ss[i]).Pick (l.Design.Rows.length:Int)=some ((ss[i]).Pick % (l.Design.Rows.length:Int)):=rem_isF p0 (by omega)
  refine bindvF _ hrem ?_
  have hm0:=Int.emod_nonneg (ss[i]).Pick (show (l.Design.Rows.length:Int) ≠ 0 by omega)
  have hm1:=Int.emod_lt_of_pos (ss[i]).Pick (show (0:Int) < l.Design.Rows.length by omega)
  obtain ⟨q,hq⟩:=Int.eq_ofNat_of_zero_le hm0
  rw [hq]
  obtain ⟨w,hw⟩:=Int.eq_ofNat_of_zero_le w0
  have hwl:w < m.length:=by omega
  refine bindvF _ (tidxF (by omega)) (skipF h2 ?_)
  rw [hw]
  exact bindvF _ (tidxF hwl) (bindvF _ (tidxF hwl) (Yes.some (hk _ _ ⟨by simp; exact hI.1,hI.2⟩)))
 ·exact skipF (decide_eq_false (by omega)) (Yes.some hI.2)

/-! ### Drawn in anew -/
theorem s173L {σ:Type} {cons:Cons σ (Int × Int)} (xs:List Int) (hn:xs.length ≤ 1000) (I:Nat→σ→Prop) {s0:σ} (h0:I xs.length s0) (hs:∀ j (hj:j < xs.length) s,I (j + 1) s→∃ s',cons s ((j:Int),xs[j])=some (true,s')∧I j s'):Yes (f173 xs σ cons s0) (I 0):=by
 unfold f173
 rw [tw64F (by omega) (by omega)]
 refine Yes.lp (fun st=>∃ j:Nat,st.2=(j:Int) - 1∧j ≤ xs.length∧I j st.1) (fun st=>(st.2 + 1).toNat) ⟨xs.length,rfl,Nat.le_refl _,h0⟩ (by simp; omega) ?_
 rintro ⟨s,i⟩ k ⟨j,hi,hj,hI⟩ hk
 simp only at hi hI
 subst hi
 refine Yes.jn ?_
 cases j with
 | zero=>exact skipF (decide_eq_false (by omega)) (Yes.some hI)
 | succ j=>
  have e:((j + 1:Nat):Int) - 1=(j:Int):=by omega
  rw [e]
  refine takeF (decide_eq_true (by omega)) (Yes.jn (bindvF _ (tidxF (by omega)) ?_))
  obtain ⟨s',h1,h2⟩:=hs j (by omega) s hI
  refine bindvF _ h1 (skipF rfl ?_)
  rw [tw64F (by omega) (by omega)]
  refine hk _ ⟨j,rfl,by omega,h2⟩ ?_
  simp only; omega
def looseF (n k:Nat):List Int:=(idsF n).set k (-1)
theorem loose_lenF (n k:Nat):(looseF n k).length=n:=by simp [looseF,ids_lenF]
theorem loose_atF {n k i:Nat} (h:i < (looseF n k).length):(looseF n k)[i]=if k=i then -1 else (i:Int):=by
 simp only [looseF,List.getElem_set]
 split
 ·rfl
 ·exact ids_atF _
theorem loose_okF (n k:Nat):DrF n (looseF n k):=⟨loose_lenF n k,fun e he=>by
 obtain ⟨i,hi,rfl⟩:=List.getElem_of_mem he
 rw [loose_atF hi]
 rw [loose_lenF] at hi
 split <;> omega⟩
theorem ids_okF (n:Nat):DrF n (idsF n):=⟨ids_lenF n,fun e he=>by
 obtain ⟨i,hi,rfl⟩:=List.getElem_of_mem he
 rw [ids_atF hi]
 rw [ids_lenF] at hi
 omega⟩
theorem s99L {h:TieHarness} {n k j:Nat} (hn:h.Warps.length=n) (hj:j < n):f99 ⟨h,looseF n k⟩ (j:Int)=some (decide (k ≠ j)):=by
 refine Yes.eq ?_
 unfold f99
 refine bindvF _ (tidxF (by simp [loose_lenF]; exact hj)) ?_
 show Yes (Option.bind _ _) _
 simp only [loose_atF]
 by_cases hk:k=j
 ·rw [if_pos hk]
  refine Yes.bind (skipF (by simp) (Yes.some (Yes.some (by simp [hk]))))
 ·rw [if_neg hk]
  refine Yes.bind (takeF (by simp) (bindvF _ (tidxF (by omega)) (bindvF _ (tidxF (by omega)) (Yes.some (Yes.some (by simp [hk]))))))
theorem s100L (a:Int):f100 [a]=some [a]:=by
 refine Yes.eq ?_
 unfold f100
 show Yes (lp _ big ([a],(0:Int),w64 (((1:Nat):Int) - 1))) _
 rw [tw64F (by omega) (by omega)]
 refine Yes.lp (fun s=>s=([a],0,0)) (fun _=>0) rfl (by omega) ?_
 rintro s k rfl _
 exact Yes.jn (skipF rfl (Yes.some rfl))
theorem s35L {l:FaultLoom} (ha:ArmF l) {k:Nat} (hk:k < l.Harness.Warps.length):f35 l.Harness (looseF l.Harness.Warps.length k)=some ([(k:Int)],idsF l.Harness.Warps.length,0):=by
 have g:=good_ofF ha.ok
 have hw30:=ha.w30
 obtain ⟨n,hn⟩:∃ n,l.Harness.Warps.length=n:=⟨_,rfl⟩
 have hd:DrF l.Harness.Warps.length (looseF n k):=by rw [hn]; exact loose_okF n k
 rw [hn] at hk hw30 ⊢
 refine Yes.eq ?_
 unfold f35
 refine Yes.jn (bindvF _ (s86F g hd (by omega)) (skipF rfl ?_))
 have h71:f71 (looseF n k)=some (looseF n k):=Yes.eq (Yes.apnd (by simp [loose_lenF]; omega) (by simp [loose_lenF]; omega) rfl)
 refine bindvF _ h71 (Yes.bind (Yes.mono (Q':=fun r=>r.1=[(k:Int)]∧∀ e:Nat,(mget r.2 (e:Int)).getD false=decide (e < n∧e ≠ k)) ?_ ?_))
 ·refine Yes.bind (Yes.mono (s173L (σ := List Int × List (Int × Bool)) (looseF n k) (by rw [loose_lenF]; omega) (fun j r => r.1 = (if j ≤ k then [(k : Int)] else []) ∧ ∀ e : Nat, (mget r.2 (e : Int)).getD false = decide (j ≤ e ∧ e < n ∧ e ≠ k)) ⟨by rw [loose_lenF, if_neg (by omega)], fun e => ?_⟩ fun j hj s hI => ?_) fun r hr => Yes.some ⟨hr.1, fun e => ?_⟩)
  ·rw [loose_lenF,decide_eq_false (by omega)]; rfl
  ·rw [loose_lenF] at hj
   obtain ⟨m,u⟩:=s
   obtain ⟨h1,h2⟩:=hI
   simp only at h1 h2
   rw [loose_atF]
   by_cases hjk:k=j
   ·subst hjk
    rw [if_pos rfl]
    rw [if_neg (by omega)] at h1
    subst h1
    refine ⟨([(k:Int)],u),?_,by simp,fun e=>?_⟩
    ·simp only [s99L hn hj]
     have hap:apnd 8 [] [(k:Int)]=some [(k:Int)]:=rfl
     simp [hap]
    ·show (mget u (e : Int)).getD false = _
     rw [h2]; congr 1; simp only [eq_iff_iff]; omega
   ·rw [if_neg hjk]
    have hu:(mget u (j:Int)).getD false=false:=by rw [h2]; exact decide_eq_false (by omega)
    refine ⟨(m,mset u (j:Int) true),?_,?_,fun e=>?_⟩
    ·simp only [s99L hn hj]
     have hu':=hu
     simp only [Option.bind_some,decide_eq_true (show k ≠ j from hjk),cond_true]
     have:(!((mget u (j:Int)).getD (false:Bool)))=true:=by rw [hu]; rfl
     simp only [this,cond_true]
    ·simp only [h1]
     by_cases hle:j + 1 ≤ k
     ·rw [if_pos hle,if_pos (by omega)]
     ·rw [if_neg hle,if_neg (by omega)]
    ·show (mget (mset u (j : Int) true) (e : Int)).getD false = _
     rw [mgetL]
     by_cases he:e=j
     ·subst he; rw [if_pos rfl]; exact (decide_eq_true ⟨Nat.le_refl _,hj,fun h=>hjk h.symm⟩).symm
     ·rw [if_neg (by omega),h2]; congr 1; simp only [eq_iff_iff]; omega
  ·rw [hr.2]; congr 1; simp only [eq_iff_iff]; omega
 rintro ⟨m,u⟩ ⟨h1,h2⟩
 simp only at h1 h2
 subst h1
 refine bindvF _ (s100L _) (Yes.bind (Yes.mono (Q':=fun r=>r=idsF n) ?_ fun r hr=>Yes.some (by rw [hr])))
 -- one warp is drawn in
 refine Yes.lp (fun s=>s=(looseF n k,u,0) ∨ s.1=idsF n∧s.2.2=1) (fun s=>1 - s.2.2.toNat) (.inl rfl) (by simp) ?_
 rintro ⟨d,v,i⟩ K hI hK
 rcases hI with hI | ⟨hd1,hi1⟩
 ·simp only [Prod.mk.injEq] at hI
  obtain ⟨rfl,rfl,rfl⟩:=hI
  refine takeF rfl (Yes.bind (bindvF (k:Int) rfl ?_))
  refine Yes.mono (Q':=fun r=>r.1=idsF n) ?_ ?_
  ·refine Yes.upto2 n (by omega) (fun i m t => i ≤ k ∧ m = looseF n k ∧ t = v) ⟨Nat.zero_le _, rfl, rfl⟩ (fun i m t K2 hi hI hk2 => ?_) (fun m t K2 hI => absurd hI.1 (by omega))
   obtain ⟨hik,rfl,rfl⟩:=hI
   refine takeF (decide_eq_true (by omega)) (Yes.jn (bindvF _ (tidxF (by omega)) (Yes.bind (bindvF _ (tidxF (by omega)) ?_))))
   by_cases he:i=k
   ·subst he
    refine takeF (by simp) (Yes.some (takeF (by rw [h2]; simp) (bindvF _ (tidxF (by rw [loose_lenF]; omega)) (Yes.some ?_))))
    show List.set (looseF n i) (Int.toNat (i:Int)) (i:Int)=_
    rw [Int.toNat_natCast]
    refine List.ext_getElem (by simp [loose_lenF,ids_lenF]) fun q h3 h4=>?_
    rw [List.getElem_set,ids_atF]
    split
    ·omega
    ·rw [loose_atF,if_neg (by assumption)]
   ·have hnot : (!((mget t (i : Int)).getD (false : Bool))) = false := by rw [h2, decide_eq_true ⟨hi, he⟩]; rfl
    refine Yes.cond (fun hc=>Yes.some (skipF hnot (hk2 _ _ ⟨by omega,rfl,rfl⟩))) (fun hc=>Yes.some (skipF rfl (hk2 _ _ ⟨by omega,rfl,rfl⟩)))
  ·rintro ⟨m, t⟩ hm
   exact hK _ (.inr ⟨hm,rfl⟩) (by show 1 - 1 < 1 - 0; omega)
 ·simp only at hd1 hi1
  subst hi1
  exact skipF rfl (Yes.some hd1)
end Go.Proofs.Ytjoniingnbmljaa
