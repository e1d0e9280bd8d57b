/- TopRibbonYards: the law. -/
import Derived.Test.YtbelgnbjkciafaaGreatDoorRbG
set_option maxRecDepth 8000
namespace Go.Proofs.YtbelgnbjkciafaaGreatDoor
open Go.RowKit
open Classical
def allP : List BookCloth → Int
 | []=>0
 | c :: l=>c.Picks + allP l
theorem allP_snoc {c : BookCloth} : ∀ {l : List BookCloth}, allP (l ++ [c]) = allP l + c.Picks
 | []=>by simp [allP]
 | d :: l=>by simp only [List.cons_append,allP,allP_snoc]; omega
theorem allP_rng : ∀ {l : List BookCloth}, (∀ c ∈ l, OkC c) → 0 ≤ allP l ∧ allP l ≤ 15 * (l.length : Int)
 | [],_=>by simp [allP]
 | d :: l,h=>by
  have ih:=allP_rng (l:=l) fun c hc=>h c (List.mem_cons_of_mem _ hc)
  have:=(h d (by simp)).2.2.2.2
  simp only [allP,List.length_cons]
  omega
theorem allP_looms : ∀ {l : List BookCloth}, (∀ c ∈ l, OkC c) → allP l = picksOf 0 l + picksOf 1 l + picksOf 2 l
 | [],_=>rfl
 | d :: l,h=>by
  have ih:=allP_looms (l:=l) fun c hc=>h c (List.mem_cons_of_mem _ hc)
  have hd:=(h d (by simp)).2.1
  simp only [allP,picksOf]
  rcases (by omega:d.Loom=0 ∨ d.Loom=1 ∨ d.Loom=2) with e | e | e <;> rw [e] <;> simp <;> omega
theorem pubs:Yes ((f14).bind fun b=>bif b then (f15).bind fun c=>some c else some false) fun r=>r=true:=
 qbind _ pb14 (qtake rfl (qbind _ pb15 (Yes.some rfl)))
theorem s3r {A B C:Prop} (rows:List UInt16) (by_:List (Vector UInt8 3)) (v:Vector UInt8 4) (hr:rows.length ≤ 9223372036854775807∧A) (hb:by_.length ≤ 9223372036854775807∧B) (_:C):f3 rows by_ v=some true:=by
 refine Yes.eq ?_
 unfold f3
 refine Yes.bind ((s4m rows hr.1).mono fun l hl=>Yes.bind ((s5y by_ hb.1).mono fun y hY=>Yes.bind ((s19t v).mono fun t ht=>qbind _ (vidx v (i:=0) (by omega)) ?_)))
 have hy:LgOk y:=hY.lg
 have hy12:=hy.1
 refine Yes.bind ((s7v hy _).mono fun lg hlg=>qbind _ (s9m hl) (Yes.bind ((s8r hl hy hlg.2).mono fun rb hrb=>?_)))
 obtain ⟨r1,r2,r3⟩:=hrb
 refine Yes.jn (Yes.bind (qskip (by rw [hlg.1]; rfl) (qskip (by rw [r1]; rfl) (Yes.some (qskip (by rw [r2]; rfl) ?_)))))
 refine Yes.bind ((s20t ht).mono fun nd hnd=>?_)
 obtain ⟨n,d⟩:=nd
 obtain ⟨hn,hd,hp⟩:=hnd
 simp only at hn hd hp
 have pr:∀ k,0 ≤ picksOf k y∧picksOf k y ≤ 180:=fun k=>by have:=picksOf_rng (k:=k) (l:=y) hy.2.2; omega
 have ap:=allP_rng hy.2.2
 have al:=allP_looms hy.2.2
 have figs:∀ m:Int,1 ≤ m∧m ≤ 180→f11 t ⟨0,0⟩ m=some (⟨m * n / d,m * n / d⟩,0):=fun m hm=>s11t ht hn hd hp hm
 refine Yes.jn (Yes.lp (fun st=>∃ i:Nat,i ≤ 3∧st.2.2.2=(i:Int)∧st.1=(if 0 < i then picksOf 0 y else 0) + (if 1 < i then picksOf 1 y else 0) + (if 2 < i then picksOf 2 y else 0)∧0 ≤ st.2.2.1∧st.2.2.1 ≤ (i:Int)∧0 ≤ st.2.1∧st.2.1 ≤ st.1 * n∧d * st.2.1 ≤ st.1 * n∧st.1 * n + st.2.2.1 ≤ d * st.2.1 + d * st.2.2.1∧(st.2.2.1=0→st.1=0)) (fun st=>3 - st.2.2.2.toNat) ⟨0,by omega,rfl,rfl,by simp,by simp,by simp,by simp,by simp,by simp,fun _=>rfl⟩ (by simp) ?_)
 rintro ⟨all,sum,looms,j⟩ k ⟨i,hi,hj,ha,hl0,hl3,hs0,hs1,hs2,hs3,hs4⟩ hk
 simp only at hj ha hl0 hl3 hs0 hs1 hs2 hs3 hs4
 subst hj
 have hall:0 ≤ all∧all ≤ 180:=by
  have:=pr 0; have:=pr 1; have:=pr 2
  have h3:picksOf 0 y + picksOf 1 y + picksOf 2 y ≤ 180:=by omega
  rw [ha]; split <;> split <;> split <;> omega
 have ean:=mul_rng (a:=all) (b:=n) (A:=180) (B:=177500000) hall ⟨by omega,hn.2⟩
 refine Yes.jn ?_
 by_cases hi3:i < 3
 ·refine qtake (decide_eq_true (by omega)) (Yes.jn ?_)
  obtain ⟨w,hw,hwl⟩:=r3 i (by omega)
  have e1:idx rb.1 (i:Int)=some w:=by unfold idx; rw [if_pos (by omega),Int.toNat_natCast]; exact hw
  refine qbind _ e1 (Yes.jn ?_)
  have hpi:=pr i
  have hnew:all + picksOf i y=(if 0 < i + 1 then picksOf 0 y else 0) + (if 1 < i + 1 then picksOf 1 y else 0) + (if 2 < i + 1 then picksOf 2 y else 0):=by
   rcases (by omega:i=0 ∨ i=1 ∨ i=2) with e | e | e <;> subst e <;> simp at ha ⊢ <;> omega
  rw [hwl]
  refine Yes.cond (fun h0=>?_) (fun h0=>?_)
  ·have h0 : picksOf i y = 0 := by simpa using h0
   rw [h0] at hnew
   refine hk _ ⟨i + 1,by omega,?_,by rw [← hnew]; omega,hl0,by show looms ≤ ((i + 1:Nat):Int); omega,hs0,hs1,hs2,hs3,hs4⟩ ?_
   ·show w64 ((i : Int) + 1) = _
    rw [w64_id (by omega) (by omega)]; omega
   ·show 3 - (w64 ((i : Int) + 1)).toNat < 3 - ((i : Int)).toNat
    rw [w64_id (by omega) (by omega)]; omega
  ·have h0 : picksOf i y ≠ 0 := by simpa using h0
   generalize hpe:picksOf i y=p at *
   have hp1:1 ≤ p∧p ≤ 180:=by omega
   have epn:=mul_rng (a:=p) (b:=n) (A:=180) (B:=177500000) hpi ⟨by omega,hn.2⟩
   have q0:0 ≤ p * n / d:=Int.ediv_nonneg epn.1 (by omega)
   have q1:p * n / d ≤ p * n:=Int.ediv_le_self d epn.1
   have q2:=Int.mul_ediv_add_emod (p * n) d
   have q3:=Int.emod_nonneg (p * n) (show d ≠ 0 by omega)
   have q4:=Int.emod_lt_of_pos (p * n) (show 0 < d by omega)
   have hquo1:quo64 (w64 ((w64 ((w64 (p * n)) + d)) - (1:Int))) d=some ((p * n + d - 1) / d):=by
    rw [w64_id (n:=p * n) (by omega) (by omega),w64_id (n:=p * n + d) (by omega) (by omega),w64_id (n:=p * n + d - 1) (by omega) (by omega)]
    exact quo_nn (by omega) (by omega) (by omega)
   have hquo2:quo64 (w64 (p * n)) d=some (p * n / d):=by
    rw [w64_id (n:=p * n) (by omega) (by omega)]
    exact quo_nn (by omega) (by omega) (by omega)
   refine Yes.jn (qbind _ (s25t ht) (qbind _ (figs p hp1) (qbind _ (s25t ht) (qbind _ hquo1 (qbind _ (s24t ht hn hd hp (m:=p) hpi) (Yes.jn (Yes.bind ?_)))))))
   refine qskip (decide_eq_false (by omega)) (qskip rfl (qskip rfl (qskip (by simp) (qbind _ hquo2 (qskip (by simp) (Yes.some (qskip (by simp) ?_)))))))
   have hlo:0 ≤ looms∧looms ≤ 3:=⟨hl0,by omega⟩
   have m1:(all + p) * n=all * n + p * n:=Int.add_mul _ _ _
   have m2:d * (sum + p * n / d)=d * sum + d * (p * n / d):=Int.mul_add _ _ _
   have m3:d * (looms + 1)=d * looms + d:=by rw [Int.mul_add,Int.mul_one]
   rw [w64_id (n:=all + p) (by omega) (by omega)]
   refine hk _ ⟨i + 1,by omega,?_,hnew,?_,?_,?_,?_,?_,?_,fun h0=>?_⟩ ?_
   ·show w64 ((i : Int) + 1) = _
    rw [w64_id (by omega) (by omega)]; omega
   ·show 0 ≤ w64 (looms + 1)
    rw [w64_id (by omega) (by omega)]; omega
   ·show w64 (looms + 1) ≤ _
    rw [w64_id (by omega) (by omega)]; omega
   ·show 0 ≤ w64 (sum + p * n / d)
    rw [w64_id (by omega) (by omega)]; omega
   ·show w64 (sum + p * n / d) ≤ (all + p) * n
    rw [w64_id (by omega) (by omega),m1]; omega
   ·show d * w64 (sum + p * n / d) ≤ (all + p) * n
    rw [w64_id (by omega) (by omega),m1,m2]; omega
   ·show (all + p) * n + w64 (looms + 1) ≤ d * w64 (sum + p * n / d) + d * w64 (looms + 1)
    rw [w64_id (n:=sum + p * n / d) (by omega) (by omega),w64_id (n:=looms + 1) (by omega) (by omega),m1,m2,m3]; omega
   ·exfalso
    have h0:w64 (looms + 1)=0:=h0
    rw [w64_id (by omega) (by omega)] at h0
    omega
   ·show 3 - (w64 ((i : Int) + 1)).toNat < 3 - ((i : Int)).toNat
    rw [w64_id (by omega) (by omega)]; omega
 obtain rfl:i=3:=by omega
 have ha:all=allP y:=by rw [al,ha]; simp
 refine qskip (decide_eq_false (by omega)) ?_
 refine Yes.bind (Yes.mono (Q':=fun s=>s=allP y) ?_ fun s hs=>?_)
 ·refine Yes.upto y.length (by omega) (fun i s => s = allP (y.take i)) rfl (fun i s k hi hI hk => ?_) (fun s k hI => ?_)
  ·subst hI
   have hc:=(hy.2.2 y[i] (List.getElem_mem hi)).2.2.2.2
   have hr:=allP_rng (l:=y.take i) fun c hc=>hy.2.2 c (List.mem_of_mem_take hc)
   rw [List.length_take] at hr
   refine Yes.jn (qtake (decide_eq_true (by omega)) (Yes.bind (qbind _ (qidx hi) (Yes.some (hk _ ?_)))))
   rw [w64_id (by omega) (by omega),List.take_succ_eq_append_getElem hi,allP_snoc]
  ·subst hI
   rw [List.take_length]
   exact Yes.jn (qskip (decide_eq_false (by omega)) (Yes.some rfl))
 subst hs
 refine Yes.jn (qskip (by rw [ha]; simp) (Yes.jn (Yes.cond (fun _=>?_) (fun h0=>?_))))
 ·exact Yes.bind (pubs.mono fun r hr=>Yes.some hr)
 have h0:all ≠ 0:=by simpa using h0
 have L:=figs all (by omega)
 refine qbind _ (s25t ht) (qbind _ L ?_)
 have g1:sum ≤ all * n / d:=Int.le_ediv_of_mul_le (by omega) (by rw [Int.mul_comm]; exact hs2)
 have e1n:=mul_lo (a:=all) (b:=n) (A:=1) (B:=1000000) (by omega) hn.1 (by omega) (by omega)
 have hlm:1 ≤ looms:=by
  rcases (by omega:looms=0 ∨ 1 ≤ looms) with e | e
  ·exact absurd (hs4 e) h0
  ·exact e
 have g2:all * n / d < sum + looms:=by
  refine Int.ediv_lt_of_lt_mul (by omega) ?_
  rw [Int.add_mul,Int.mul_comm sum,Int.mul_comm looms]; omega
 have q0:0 ≤ all * n / d:=Int.ediv_nonneg ean.1 (by omega)
 have q1:all * n / d ≤ all * n:=Int.ediv_le_self d ean.1
 refine Yes.bind (qtake rfl (qtake (decide_eq_true g1) (qtake (decide_eq_true ?_) ?_)))
 ·show sum > w64 (all * n / d - looms)
  rw [w64_id (by omega) (by omega)]; omega
 ·exact pubs.mono fun r hr=>Yes.some hr
end Go.Proofs.YtbelgnbjkciafaaGreatDoor
