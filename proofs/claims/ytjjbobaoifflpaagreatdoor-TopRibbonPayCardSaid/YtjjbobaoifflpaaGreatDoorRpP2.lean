/- TopRibbonPay: the law. -/
import Derived.Test.YtjjbobaoifflpaaGreatDoorRpP1
set_option maxRecDepth 8000
namespace Go.Proofs.YtjjbobaoifflpaaGreatDoor
open Go.RowKit
open Classical
theorem Eh:f15=some true:=by kernel_rfl
theorem N5:f16=some true:=pb15
theorem Em {l:List Z2} (h:Yj l):(D2 l).length ≤ 96:=by
 unfold D2
 rw [Xp]
 have:=h.1
 omega
theorem join3 {y:List Z2} (hy:Yj y) {L:List (List UInt8)} (hj:f19 L=some (y,0,0)):f8 L=some (D2 y,0,0):=by
 refine Yes.eq ?_
 unfold f8
 exact G3 _ hj (Yes.jn (T8 rfl (G3 _ (s17v hy) (Yes.some rfl))))
theorem pays:Yes ((f15).bind fun b=>bif b then (f16).bind fun c=>some c else some false) fun r=>r=true:=
 G3 _ Eh (Kj rfl (G3 _ N5 (Yes.some rfl)))
set_option maxHeartbeats 1000000 in
theorem s3p {A B C:Prop} (rows:List UInt16) (by_:List (Vector UInt8 3)) (v:Vector UInt8 4) (hr:rows.length ≤ 9223372036854775807∧A) (hb:by_.length ≤ 9223372036854775807∧B) (_:C):f3 rows by_ v=some true:=by
 refine Yes.eq ?_
 unfold f3
 refine Yes.bind ((s4m 3 rows hr.1).mono fun l hl=>Yes.bind ((s5y by_ hb.1).mono fun y hY=>Yes.bind ((Nh v).mono fun P hPP=>G3 _ (Ik v (i:=0) (by omega)) (G3 _ (Ik v (i:=1) (by omega)) ?_))))
 obtain ⟨hP,hxt⟩:=hPP
 have hH:1 ≤ hx 3∧hx 3 ≤ 12:=by have:=P3 3; omega
 have hy:Yj y:=hY.lg
 have hy12:=hy.1
 have hr6:=hP.r6
 have h13:f13 P=some P:=c19 P (by omega) (by rw [hxt]; simp)
 refine Yes.bind ((s7w hy _).mono fun lg hlg=>?_)
 obtain ⟨hok,a,b,hl2,ha,hb2,hab⟩:=hlg
 obtain ⟨lgs,ok⟩:=lg
 simp only at hok hl2
 subst hok; subst hl2
 have hj:=jn3 hy ha hb2 hab
 have hbl:=Em hb2
 refine Yes.jn (T8 rfl ?_)
 refine G3 (D2 b) rfl (G3 (D2 b) (apn (by simp; omega) (by omega)) (G3 [D2 b,D2 a,D2 b] (apn (by simp) (by omega)) ?_))
 refine G3 _ (join3 hy hj) (G3 _ (s47k hy.lgk) (G3 _ (s9m hl) (Yes.bind ((s8r hH hl hy hj).mono fun rb hrb=>?_))))
 obtain ⟨r1,r2,r3⟩:=hrb
 refine Yes.jn (Yes.bind (T8 rfl (T8 rfl (T8 (by rw [r1]; rfl) (T8 (by simp) (Yes.some (T8 (by rw [r2]; rfl) (Yes.jn ?_))))))))
 refine Yes.upto2 y.length (by omega) (fun i ps vv=>ps=pcs (y.take i)∧vv.toList=tri fun w=>pkI w (y.take i)) ⟨rfl,rfl⟩ (fun i ps vv k hi hI hk=>?_) (fun ps vv k hI=>?_)
 ·obtain ⟨h1, h2⟩ := hI
  subst h1
  have hc:=hy.2.2 y[i] (List.getElem_mem hi)
  have hpp:=hc.2.2.2.2
  have hpk:=C2 (w:=y[i].Loom) (l:=y.take i) fun c hc=>hy.2.2 c (List.mem_of_mem_take hc)
  rw [List.length_take] at hpk
  refine Yes.jn (Kj (decide_eq_true (by show (i:Int) < (y.length:Int); omega)) (Yes.jn (G3 _ (Yl hi) (Yes.jn (G3 _ (Yl hi) (T8 (by simp) ?_))))))
  refine G3 _ (apn (by rw [Mp,List.length_take]; simp; omega) (by omega)) (G3 _ (by rw [h2]; exact Fq hc.2.1) (G3 _ (by rw [h2]; exact Fq hc.2.1) (hk _ _ ⟨?_,?_⟩)))
  ·rw [List.take_succ_eq_append_getElem hi,I1,Qa (by omega) (by omega)]; rfl
  ·rw [Nb, h2, Qa (by omega) (by omega), tri_set hc.2.1]
   congr 1
   funext j
   rw [List.take_succ_eq_append_getElem hi,Mj]
 obtain ⟨h1,h2⟩:=hI
 rw [List.take_length] at h1 h2
 subst h1
 refine T8 (decide_eq_false (by show ¬ (y.length:Int) < (y.length:Int); omega)) ?_
 refine G3 _ h13 (G3 _ (Np hP hxt hy) (Yes.jn (Yes.bind (T8 rfl (Yes.some (T8 (by simp) (Yes.jn ?_)))))))
 have hin:∀ x ∈ Qn (pcs y),0 ≤ x∧x ≤ 2:=fun x hx=>by
  rw [Rq hy.2.2,List.mem_filter] at hx
  have:=hx.1
  simp at this; omega
 have hWl:(Qn (pcs y)).length ≤ 3:=by rw [Rq hy.2.2]; exact List.length_filter_le _ _
 refine Yes.upto (Qn (pcs y)).length (by omega) (fun i s=>s=Yc y ((Qn (pcs y)).take i)) rfl (fun i s k hi hI hk=>?_) (fun s k hI=>?_)
 ·subst hI
  have hv:=hin _ (List.getElem_mem hi)
  have i1:=Yl hi
  have i2:idx ((Qn (pcs y)).map (Kx P (pcs y))) (i:Int)=some (Kx P (pcs y) (Qn (pcs y))[i]):=by
   rw [Yl (by simpa using hi)]; simp
  have hnew:Yc y ((Qn (pcs y)).take (i + 1))=Yc y ((Qn (pcs y)).take i) + pkI (Qn (pcs y))[i] y:=by
   rw [List.take_succ_eq_append_getElem hi,M9]
  have hpr:=L0 hy.2.2 (l:=(Qn (pcs y)).take i)
  have hprm:15 * (y.length:Int) * (((Qn (pcs y)).take i).length:Int) ≤ 180 * 3:=(Vl (a:=15 * (y.length:Int)) (b:=(((Qn (pcs y)).take i).length:Int)) (A:=180) (B:=3) (by omega) (by omega) (by omega) (by rw [List.length_take]; omega)).2
  generalize (Qn (pcs y))[i]=w at hv i1 i2 hnew
  obtain ⟨n,rfl⟩:=Int.eq_ofNat_of_zero_le hv.1
  obtain ⟨rw_,hw1,hw2⟩:=r3 n (by omega)
  have e1:idx rb.1 (n:Int)=some rw_:=by unfold idx; rw [if_pos (by omega),Int.toNat_natCast]; exact hw1
  have e2:idx vv.toList (n:Int)=some (pkI (n:Int) y):=by rw [h2]; exact Fq hv
  have hpn:=C2 (w:=(n:Int)) hy.2.2
  rw [Io] at hw2
  have hok:=pc_ok (P:=P) (w:=0) (n:=pkI (n:Int) y) (by omega) (by omega)
  have hwg:=s16P hP hok (by show (0:Nat) ≤ 1000; omega)
  refine Yes.jn (Kj (decide_eq_true (by show (i:Int) < ((Qn (pcs y)).length:Int); omega)) (Yes.jn (Yes.bind ?_)))
  refine G3 _ i1 (T8 (decide_eq_false (by omega)) (G3 _ i1 (T8 (decide_eq_false (by omega)) (G3 _ i1 (G3 _ e1 (G3 _ i1 (G3 _ e2 (Yes.some (T8 (by rw [hw2]; simp) ?_)))))))))
  refine G3 _ h13 (G3 _ i1 (G3 _ e2 ?_))
  rw [Qa (n:=1000 * pkI (n:Int) y) (by omega) (by omega)]
  refine G3 _ hwg (Yes.jn (Yes.bind (T8 rfl (G3 _ i2 (Yes.some (T8 ?_ ?_))))))
  ·show (Hu P (pcW 0 (pkI (n : Int) y)) 0 != Kx P (pcs y) (n : Int)) = false
   rw [Ap hP (by omega),M0 hP hy.2.2]
   simp
  refine G3 _ i1 (G3 _ e1 (hk _ ?_))
  rw [hnew,hw2,Qa (by omega) (by omega)]
 subst hI
 rw [List.take_length,Eg hy.2.2]
 refine Yes.jn (T8 (decide_eq_false (by show ¬ ((Qn (pcs y)).length:Int) < ((Qn (pcs y)).length:Int); omega)) ?_)
 have hall:=S2 hy.2.2
 refine Yes.bind (Yes.mono (Q':=fun s=>s=De y) ?_ fun s hs=>?_)
 ·refine Yes.upto y.length (by omega) (fun i s => s = De (y.take i)) rfl (fun i s k hi hI hk => ?_) (fun s k hI => ?_)
  ·subst hI
   have hc:=(hy.2.2 y[i] (List.getElem_mem hi)).2.2.2.2
   have hr:=S2 (l:=y.take i) fun c hc=>hy.2.2 c (List.mem_of_mem_take hc)
   rw [List.length_take] at hr
   refine Yes.jn (Kj (decide_eq_true (by omega)) (Yes.bind (G3 _ (Yl hi) (Yes.some (hk _ ?_)))))
   rw [Qa (by omega) (by omega),List.take_succ_eq_append_getElem hi,R1]
  ·subst hI
   rw [List.take_length]
   exact Yes.jn (T8 (decide_eq_false (by omega)) (Yes.some rfl))
 subst hs
 exact Yes.bind (Kj (by simp) (pays.mono fun r hr=>Yes.some hr))
end Go.Proofs.YtjjbobaoifflpaaGreatDoor
