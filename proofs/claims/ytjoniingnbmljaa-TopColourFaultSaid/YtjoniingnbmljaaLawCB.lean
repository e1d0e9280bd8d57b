/- TopColourFault. -/
import Derived.Test.YtjoniingnbmljaaLawCA
import Derived.Test.YtjoniingnbmljaaArm
set_option maxRecDepth 8000
namespace Go.Proofs.Ytjoniingnbmljaa
open Go.RowKit
open Classical

abbrev L0:BoxLoom:=⟨([(3:Int),(3:Int)]:List Int),([(0:Int),(0:Int)]:List Int),([(⟨(0:Int),0,0,(⟨(99:Int),(99:Int)⟩:Span)⟩:Zw),(⟨(1:Int),0,(1:Int),(⟨(99:Int),(99:Int)⟩:Span)⟩:Zw),(⟨(2:Int),(1:Int),(2:Int),(⟨(99:Int),(99:Int)⟩:Span)⟩:Zw)]:List Zw)⟩
theorem three0 : Three L0 where
 ok := {
  len:=⟨rfl,rfl⟩
  sd:=fun i hi=>by rcases (by omega:i=0 ∨ i=1) with rfl | rfl <;> rfl
  few:=by decide
  some:=by decide
  sh:=fun s hs=>by
   simp only [List.mem_cons,List.not_mem_nil,or_false] at hs
   rcases hs with rfl | rfl | rfl <;> rfl
  dst:=fun i j hi hj hji=>by
   have hi:i < 3:=hi
   rcases (by omega:(i=1∧j=0) ∨ (i=2∧j=0) ∨ (i=2∧j=1)) with ⟨rfl,rfl⟩ | ⟨rfl,rfl⟩ | ⟨rfl,rfl⟩ <;> simp }
 bx:=rfl
 n3:=rfl
 col:=fun i h=>by
  have h:i < 3:=h
  rcases (by omega:i=0 ∨ i=1 ∨ i=2) with rfl | rfl | rfl <;> rfl
theorem plan3 {cs : List Int} (hc : ∀ c ∈ cs, ∃ k : Nat, c = k ∧ k < 3) (hlen : cs.length ≤ 20) : ∃ ps n, f10 L0 cs = some (ps, cL cs L0, 0, 0) ∧ ps.length = cs.length ∧ f12 L0 ps = some (cs, n, cL cs L0, 0, 0) ∧ n.Shuttles.length = 3 ∧
  ∀ i (h:i < n.Shuttles.length),n.Shuttles[i].Side=((if i=2 then 1 else 0) + (cs.count (i:Int):Nat)) % 2:=by
 have hlt:=three_all cs hc (by omega) three0
 obtain ⟨⟨n,hn⟩,h2,h3,h4⟩:=rf_plan cs (l:=L0) (by omega) three0.ok hlt
 have hl:=thl_length hn
 have hps:(rf cs L0).1.length=cs.length:=by have:=congrArg List.length h3; rw [List.length_map] at this; omega
 have hall:cs.all (btw 0 9)=true:=List.all_eq_true.2 fun c h=>by obtain ⟨k,rfl,hk⟩:=hc c h; exact btw_iff.2 (by omega)
 obtain ⟨k1,k2,k3⟩:=thr_ok three0.ok h2 hn
 have k3:n.Shuttles.length=3:=k3
 refine ⟨(rf cs L0).1,n,s17p three0.ok (by omega) hall hlt,hps,?_,k3,fun i h=>?_⟩
 ·rw [s40 three0.ok h2 (by omega),hn,h3,h4]
 ·have hi : i < 3 := by omega
  have:=side_par _ three0.ok h2 hn (i:=i) (show i < 3 from hi) h
  rw [this,count_col three0 _ (fun j hj=>thl_lt three0.ok h2 j hj) h3 hi]
  rcases (by omega:i=0 ∨ i=1 ∨ i=2) with rfl | rfl | rfl <;> rfl
theorem s13c (xs:List Int) (h:xs.length ≤ 1000):f13 xs xs=some true:=by
 refine Yes.eq ?_
 unfold f13
 refine Yes.jn (qskip (by simp) (Yes.jn (Yes.upto0 xs.length (by omega) (fun _=>True) trivial (fun i k hi _ hk=>?_) (fun k _=>?_))))
 ·exact Yes.jn (qtake (decide_eq_true (by omega)) (Yes.jn (qbind _ (qidx hi) (qbind _ (qidx hi) (qskip (by simp) (hk trivial))))))
 ·exact Yes.jn (qskip (decide_eq_false (by omega)) (Yes.some rfl))
theorem s11c (xs:List Int) (h:xs.length ≤ 1000):f11 xs=some xs:=by
 refine Yes.eq ?_
 unfold f11
 exact Yes.bind (Yes.apnd (by simp; omega) (by simp; omega) (Yes.some rfl))
theorem s3 (x0:Loom) (x1:UInt8):f3 x0 x1=some true:=by
 refine Yes.eq ?_
 unfold f3
 refine Yes.bind ((arm_isF x0).mono fun l ha=>?_)
 have hg:=good_ofF ha.ok
 have hn10:=ha.r10
 have hn1:=ha.r1
 have hw30:=ha.w30
 obtain ⟨n,hn⟩:∃ n,l.Design.Rows.length=n:=⟨_,rfl⟩
 rw [hn] at hn10 hn1 ⊢
 refine qbind _ (rem_natF (by omega)) ?_
 obtain ⟨p,hp,hpn⟩:∃ p,x1.toNat % n=p∧p < n:=⟨_,rfl,Nat.mod_lt _ (by omega)⟩
 rw [hp]
 refine Yes.bind (Yes.mono (Q':=fun cs=>cs=l.Design.Rows.map (· % 3)) ?_ fun cs hcs=>?_)
 ·refine Yes.upto n (by omega) (fun i zs => zs = (l.Design.Rows.take i).map (· % 3)) rfl (fun i zs k hi hI hk => ?_) (fun zs k hI => ?_)
  ·have hil : i < l.Design.Rows.length := by omega
   have hr:=hg.row _ (List.getElem_mem hil)
   refine Yes.jn (qtake (decide_eq_true (by omega)) (Yes.bind (qbind _ (qidx hil) (qbind _ (rem_nn hr.1 (by omega)) (Yes.bind (Yes.apnd (by rw [hI]; simp; omega) (by rw [hI]; simp; omega) (Yes.some (hk _ ?_))))))))
   rw [hI,List.take_succ_eq_append_getElem hil,List.map_append]; rfl
  ·refine Yes.jn (qskip (decide_eq_false (by omega)) (Yes.some ?_))
   rw [hI,List.take_of_length_le (by omega)]
 have hlen:cs.length=n:=by rw [hcs,List.length_map,hn]
 have hcol:∀ c ∈ cs,∃ k:Nat,c=k∧k < 3:=fun c hc=>by
  rw [hcs] at hc
  obtain ⟨r,_,rfl⟩:=List.mem_map.1 hc
  have h1:=Int.emod_nonneg r (show (3:Int) ≠ 0 by omega)
  have h2:=Int.emod_lt_of_pos r (show (0:Int) < 3 by omega)
  exact ⟨(r % 3).toNat,by omega,by omega⟩
 clear hcs
 obtain ⟨ps,nl,e1,e2,e3,e4,e5⟩:=plan3 hcol (by omega)
 refine qbind _ (s11c cs (by omega)) (qbind _ e1 (Yes.jn (Yes.bind (qskip rfl (Yes.some (qskip ?_ (qbind _ e3 (Yes.jn (Yes.bind (qskip rfl (qskip (by simp) (qbind true (s13c cs (by omega)) (qskip rfl (Yes.some (qskip ?_ ?_)))))))))))))))
 ·show ((ps.length : Int) != (n : Int)) = false
  rw [e2,hlen]; simp
 ·show ((nl.Shuttles.length : Int) != 3) = false
  rw [e4]; rfl
 -- how often each was thrown
 refine Yes.bind (Yes.mono (Q':=fun v:Vector Int 3=>∀ (j:Nat) (h:j < 3),v[j]=((cs.count (j:Int):Nat):Int)) ?_ fun v hv=>?_)
 ·refine Yes.upto n (by omega) (fun i (v : Vector Int 3) => ∀ (j : Nat) (h : j < 3), v[j] = (((cs.take i).count (j : Int) : Nat) : Int)) (fun j h => ?_) (fun i v k hi hI hk => ?_) (fun v k hI => ?_)
  ·rcases (by omega:j=0 ∨ j=1 ∨ j=2) with rfl | rfl | rfl <;> rfl
  ·have hil : i < cs.length := by omega
   obtain ⟨c,hc,hc3⟩:=hcol _ (List.getElem_mem hil)
   have hcnt:(cs.take i).count (c:Int) ≤ 10:=Nat.le_trans List.count_le_length (by simp; omega)
   refine Yes.jn (qtake (decide_eq_true (by omega)) (Yes.bind (qbind _ (qidx hil) ?_)))
   rw [hc]
   refine qbind _ (vidx v hc3) (qbind _ (vidx v hc3) (Yes.some (hk _ fun j h=>?_)))
   rw [vset_at h,List.take_succ_eq_append_getElem hil,List.count_append,hc,hI c hc3]
   by_cases hcj:c=j
   ·subst hcj; rw [if_pos rfl,w64_id (by omega) (by omega)]; simp
   ·rw [if_neg hcj,hI j h,List.count_singleton,if_neg (by rw [beq_iff_eq]; omega)]; rfl
  ·refine Yes.jn (qskip (decide_eq_false (by omega)) (Yes.some ?_))
   rw [List.take_of_length_le (by omega)] at hI; exact hI
 refine Yes.jn (Yes.upto0 3 (by omega) (fun _=>True) trivial (fun i k hi _ hk=>?_) (fun k _=>?_))
 ·refine Yes.jn (qtake (decide_eq_true (by omega)) (Yes.jn ?_))
  have hin:i < nl.Shuttles.length:=by omega
  have hcnt:cs.count (i:Int) ≤ 10:=Nat.le_trans List.count_le_length (by omega)
  have fin:∀ s:Int,s=(if i=2 then 1 else 0)→Yes ((idx nl.Shuttles (i:Int)).bind fun vI=>(idx v.toList (i:Int)).bind fun yI=>(rem64 (w64 (s + yI)) (2:Int)).bind fun zI=>bif vI.Side != zI then some false else k (w64 ((i:Int) + 1))) fun r=>r=true:=fun s hs=>by
   refine qbind _ (qidx hin) (qbind _ (vidx v hi) ?_)
   rw [hv i hi,w64_id (by subst hs; split <;> omega) (by subst hs; split <;> omega)]
   refine qbind _ (rem_nn (by subst hs; split <;> omega) (by omega)) (qskip ?_ (hk trivial))
   rw [e5 i hin,hs]; simp
  rcases (by omega:i=0 ∨ i=1 ∨ i=2) with rfl | rfl | rfl
  ·exact qbind _ rfl (fin 0 rfl)
  ·exact qbind _ rfl (fin 0 rfl)
  ·exact qbind _ rfl (fin 1 rfl)
 -- two cards exchanged
 refine Yes.jn (qskip rfl ?_)
 obtain ⟨q,hq,hqn⟩:∃ q,(p + 1) % n=q∧q < n:=⟨_,rfl,Nat.mod_lt _ (by omega)⟩
 have hrem:rem64 (w64 ((p:Int) + 1)) (n:Int)=some (q:Int):=by
  rw [w64_id (by omega) (by omega),show (p:Int) + 1=((p + 1:Nat):Int) by simp,rem_natF (by omega),hq]
 have hd:dmgF l ⟨4,(p:Int),0,0,false⟩=true:=by
  unfold dmgF; simp [btwF,hn]; omega
 have ho1:openEF l [⟨4,(p:Int),0,0,false⟩] (n:Int)=0:=open_okF (chk_okF ha.ok (by simp) (fun d h=>by rw [List.mem_singleton.1 h]; exact hd)) (by omega) (by omega)
 have ho0:openEF l [] (n:Int)=0:=open_okF (chk_okF ha.ok (by simp) (fun d h=>by cases h)) (by omega) (by omega)
 have hcp:f15 l=some l:=copy_isF l (by omega) (by omega)
 have w1:=s19F (s78_oneF ⟨4,(p:Int),0,0,false⟩) (by simp) (fun d h=>by rw [List.mem_singleton.1 h]; exact hd) ho1
 have w0:=s19F s78_nilF (by simp) (fun d h=>by cases h) ho0
 rw [Int.toNat_natCast] at w1 w0
 refine qbind _ hcp (qbind _ w1 (qbind _ hcp (qbind _ w0 (Yes.jn (Yes.bind ?_)))))
 have c1:=cthN_lenF l [⟨4,(p:Int),0,0,false⟩] n
 have c0:=cthN_lenF l [] n
 have at1:∀ i (h:i < (cthNF l [⟨4,(p:Int),0,0,false⟩] n).length),(cthNF l [⟨4,(p:Int),0,0,false⟩] n)[i]=lineF l.Harness.Warps.length fun w=>act4F p q (tabF l) i (hkF l w):=fun i h=>by
  rw [cthN_atF h (by omega)]
  refine line_sameF fun w _=>?_
  rw [rc_oneF]
  simp [actTF,actBF,hn,hq]
 have at0:∀ i (h:i < (cthNF l [] n).length),(cthNF l [] n)[i]=lineF l.Harness.Warps.length fun w=>tabF l i (hkF l w):=fun i h=>by
  rw [cthN_atF h (by omega)]
  exact line_sameF fun w _=>rc_nilF l i w
 refine qskip rfl (qskip rfl (qskip ?_ (qskip ?_ ?_)))
 ·show (((cthNF l [⟨4, (p : Int), 0, 0, false⟩] n).length : Int) != (n : Int)) = false
  rw [c1]; simp
 ·show (((cthNF l [] n).length : Int) != (n : Int)) = false
  rw [c0]; simp
 refine qbind _ (qidx (by rw [c1]; exact hpn)) (qbind _ hrem (qbind _ (qidx (by rw [c0]; exact hqn)) (qskip ?_ (qbind _ hrem (qbind _ (qidx (by rw [c1]; exact hqn)) (qbind _ (qidx (by rw [c0]; exact hpn)) (Yes.some (qskip ?_ ?_))))))))
 ·rw [at1, at0]
  have:(fun w=>act4F p q (tabF l) p (hkF l w))=fun w=>tabF l q (hkF l w):=funext fun w=>by
   unfold act4F
   by_cases h:p=q
   ·subst h; simp
   ·rw [if_neg h,if_pos rfl]
  rw [this]; simp
 ·rw [at1, at0]
  have:(fun w=>act4F p q (tabF l) q (hkF l w))=fun w=>tabF l p (hkF l w):=funext fun w=>by unfold act4F; rw [if_pos rfl]
  rw [this]; simp
 -- the exchanged order
 have hpl:p < cs.length:=by omega
 have hql:q < cs.length:=by omega
 refine qbind _ (qidx hpl) (qbind _ hrem (qbind _ (qidx hql) (qbind _ (qidx hpl) (qbind _ hrem ?_))))
 rw [Int.toNat_natCast,Int.toNat_natCast]
 refine qbind _ (qidx (by simpa using hql)) ?_
 have hcol2:∀ c ∈ (cs.set p cs[q]).set q cs[p],∃ k:Nat,c=k∧k < 3:=fun c hc=>by
  rcases List.mem_or_eq_of_mem_set hc with hc | rfl
  ·rcases List.mem_or_eq_of_mem_set hc with hc | rfl
   ·exact hcol c hc
   ·exact hcol _ (List.getElem_mem hql)
  ·exact hcol _ (List.getElem_mem hpl)
 have hl2:((cs.set p cs[q]).set q cs[p]).length ≤ 20:=by simp; omega
 obtain ⟨ps2,nl2,a1,a2,a3,a4,a5⟩:=plan3 hcol2 hl2
 refine qbind _ (s11c ((cs.set p cs[q]).set q cs[p]) (by omega)) (qbind _ a1 (qbind _ a3 (Yes.bind (qtake rfl (qtake rfl (qtake (by simp) (qbind true (s13c ((cs.set p cs[q]).set q cs[p]) (by omega)) (qtake rfl ?_))))))))
 exact qbind true arm_box_ok (qtake rfl (qbind true arm_fault_ok ⟨true,rfl,true,rfl,rfl⟩))
end Go.Proofs.Ytjoniingnbmljaa
