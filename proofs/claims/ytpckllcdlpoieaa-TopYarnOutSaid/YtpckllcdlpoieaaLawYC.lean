/- Plain laws: the loom of bytes is all right; as far as the yarn goes. -/
import Derived.Test.YtpckllcdlpoieaaLawYA
set_option maxRecDepth 8000
namespace Go.Proofs.Ytpckllcdlpoieaa
open Go.RowKit
open Classical

def pk (b0:Int) (s:BoxShuttle):Nat:=if s.Side=0 then s.Box.toNat else b0.toNat + s.Box.toNat
theorem dst_snoc {xs:List BoxShuttle} (h:Dst xs) {s:BoxShuttle} (hn:∀ x ∈ xs,¬ (x.Side=s.Side∧x.Box=s.Box)):Dst (xs ++ [s]):=by
 have el:∀ k (hk:k < (xs ++ [s]).length),(∃ h':k < xs.length,(xs ++ [s])[k]=xs[k]) ∨ (k=xs.length∧(xs ++ [s])[k]=s):=fun k hk=>by
  by_cases hk':k < xs.length
  ·exact .inl ⟨hk',List.getElem_append_left hk'⟩
  ·have hk2 : k = xs.length := by simp at hk; omega
   subst hk2
   exact .inr ⟨rfl,by simp⟩
 intro i j hi hj hji
 rcases el i hi with ⟨hi',ei⟩ | ⟨hi',ei⟩ <;> rcases el j hj with ⟨hj',ej⟩ | ⟨hj',ej⟩ <;> rw [ei,ej]
 ·exact h i j hi' hj' hji
 ·omega
 ·exact fun he=>hn _ (List.getElem_mem hj') ⟨he.1.symm,he.2.symm⟩
 ·omega
theorem no_three {L:List Nat} (h:L.length ≤ 2) {a b c:Nat} (ha:a ∈ L) (hb:b ∈ L) (hc:c ∈ L) (h1:a ≠ b) (h2:a ≠ c) (h3:b ≠ c):False:=by
 match L,h with
 | [],_=>cases ha
 | [x],_=>simp at ha hb; omega
 | [x,y],_=>simp at ha hb hc; omega
theorem s18b (x:Race):Yes (f18 x) (fun l=>LOk l):=by
  unfold f18
  obtain ⟨B,Sh⟩:=x
  have byte:∀ u:UInt8,(0:Int) ≤ (u.toNat:Int)∧(u.toNat:Int) ≤ 255:=fun u=>by have:=u.toNat_lt; omega
  have g0:=byte B[0]; have g1:=byte B[1]
  refine qbind _ (vidx B (i:=0) (by omega)) (qbind _ (rem_nn (byte _).1 (by omega)) (qbind _ (vidx B (i:=1) (by omega)) (qbind _ (rem_nn (byte _).1 (by omega)) (qbind _ (vidx B (i:=0) (by omega)) (qbind _ (quo_nn (byte _).1 (by omega) (by omega)) (qbind _ (rem_nn (Int.ediv_nonneg (byte _).1 (by omega)) (by omega)) (qbind _ (vidx B (i:=1) (by omega)) (qbind _ (quo_nn (byte _).1 (by omega) (by omega)) (qbind _ (rem_nn (Int.ediv_nonneg (byte _).1 (by omega)) (by omega)) (Yes.bind ?_))))))))))
  obtain ⟨b0,hb0,h0⟩:∃ b0:Int,w64 ((2:Int) + (B[0].toNat:Int) % (2:Int))=b0∧2 ≤ b0∧b0 ≤ 3:=⟨_,rfl,by rw [w64_id (by omega) (by omega)]; omega⟩
  obtain ⟨b1,hb1,h1⟩:∃ b1:Int,w64 ((2:Int) + (B[1].toNat:Int) % (2:Int))=b1∧2 ≤ b1∧b1 ≤ 3:=⟨_,rfl,by rw [w64_id (by omega) (by omega)]; omega⟩
  obtain ⟨a0,ha0,i0⟩:∃ a0:Int,(B[0].toNat:Int) / 2 % 2=a0∧0 ≤ a0∧a0 < b0:=⟨_,rfl,by omega,by omega⟩
  obtain ⟨a1,ha1,i1⟩:∃ a1:Int,(B[1].toNat:Int) / 2 % 2=a1∧0 ≤ a1∧a1 < b1:=⟨_,rfl,by omega,by omega⟩
  rw [hb0,hb1,ha0,ha1]
  refine Yes.lp (fun s => ∃ k : Nat, s.2.2 = (k : Int) ∧ k ≤ 3 ∧ s.1.Boxes = [b0, b1] ∧ s.1.At = [a0, a1] ∧ s.1.Shuttles.length = k ∧ (∀ y ∈ s.1.Shuttles, okS [b0, b1] y = true ∧ ∃ h : pk b0 y < 6, s.2.1[pk b0 y] = true) ∧ (∀ j (h : j < 6), s.2.1[j] = true → j ∈ s.1.Shuttles.map (pk b0)) ∧ Dst s.1.Shuttles)
    (fun s=>4 - s.2.2.toNat) ⟨0,rfl,by omega,rfl,rfl,rfl,by simp,fun j h ht=>?_,fun i j hi=>absurd hi (Nat.not_lt_zero _)⟩ (by simp) ?_
  · rcases (by omega:j=0 ∨ j=1 ∨ j=2 ∨ j=3 ∨ j=4 ∨ j=5) with rfl | rfl | rfl | rfl | rfl | rfl <;> cases ht
  rintro ⟨l,us,o⟩ kk ⟨k,rfl,k3,c1,c2,c3,c6,c4,c7⟩ hk
  simp only at c1 c2 c3 c4 c6 c7
  refine Yes.jn (Yes.cond (fun hc=>?_) (fun hc=>Yes.some (Yes.some ?_)))
  · have hkl : k < 3 := by have : (k : Int) < 3 := of_decide_eq_true hc; omega
    refine Yes.jn (Yes.bind (qbind _ (vidx Sh hkl) (qbind _ (vidx Sh[k] (i:=0) (by omega)) ?_)))
    rw [c1]
    refine qbind b0 rfl (qbind b1 rfl ?_)
    rw [w64_id (n:=b0 + b1) (by omega) (by omega)]
    refine qbind _ (rem_nn (byte _).1 (by omega)) ?_
    obtain ⟨u,hu,hu2⟩:∃ u:Nat,(Sh[k][0].toNat:Int) % (b0 + b1)=u∧(u:Int) < b0 + b1:=by
      have e1:=Int.emod_nonneg (Sh[k][0].toNat:Int) (show b0 + b1 ≠ 0 by omega)
      have e2:=Int.emod_lt_of_pos (Sh[k][0].toNat:Int) (show 0 < b0 + b1 by omega)
      exact ⟨((Sh[k][0].toNat:Int) % (b0 + b1)).toNat,by omega,by omega⟩
    rw [hu]
    obtain ⟨N,hN,hN4⟩:∃ N:Nat,b0 + b1=(N:Int)∧4 ≤ N∧N ≤ 6:=⟨(b0 + b1).toNat,by omega,by omega,by omega⟩
    have huN:u < N:=by omega
    have free:Yes (lp (σ:=Int) (fun nK x8=>
       jn (σ:=Unit) (fun _=>
        (idx [b0,b1] (0:Int)).bind fun aD=>
        (idx [b0,b1] (1:Int)).bind fun bD=>
        (rem64 (w64 (x8 + (1:Int))) (w64 (aD + bD))).bind fun iB=>
        nK (iB)
        ) fun oK=>
       (idx us.toList x8).bind fun pK=>
       bif pK then
        oK ()
       else
        some (x8)
       ) big (u:Int)) (fun r=>∃ j:Nat,r=j∧j < N∧∃ h:j < 6,us[j]=false):=by
      refine Yes.lp (fun x=>∃ m j:Nat,x=j∧j < N∧m ≤ 2∧j=(u + m) % N∧∀ i,i < m→(u + i) % N ∈ l.Shuttles.map (pk b0)) (fun x=>3 - (x.toNat + N - u) % N) ⟨0,u,rfl,huN,by omega,by rw [Nat.add_zero,Nat.mod_eq_of_lt huN],fun i hi=>absurd hi (Nat.not_lt_zero _)⟩ (by omega) ?_
      rintro _ nk ⟨m,j,rfl,hj,hm,hjm,hall⟩ hnk
      have hj6:j < 6:=by omega
      refine Yes.jn (qbind _ (vidx us hj6) (Yes.cond (fun ht=>?_) (fun hf=>Yes.some ⟨j,rfl,hj,hj6,hf⟩)))
      have hin:=c4 j hj6 ht
      have hlen:(l.Shuttles.map (pk b0)).length ≤ 2:=by rw [List.length_map]; omega
      have hm1:m ≤ 1:=by
        rcases (by omega:m ≤ 1 ∨ m=2) with h | rfl
        · exact h
        · refine (no_three hlen (hall 0 (by omega)) (hall 1 (by omega)) (hjm ▸ hin) ?_ ?_ ?_).elim <;>
          · rcases (by omega:N=4 ∨ N=5 ∨ N=6) with rfl | rfl | rfl <;> omega
      refine qbind b0 rfl (qbind b1 rfl ?_)
      rw [w64_id (n:=b0 + b1) (by omega) (by omega),hN,w64_id (by omega) (by omega)]
      have hmod:((j:Int) + 1) % (N:Int)=(((j + 1) % N:Nat):Int):=by rw [Int.natCast_emod,Int.natCast_add]; rfl
      refine qbind _ (rem_nn (by omega) (by omega)) (hnk _ ⟨m + 1,(j + 1) % N,hmod,Nat.mod_lt _ (by omega),by omega,by rw [hjm,Nat.mod_add_mod,Nat.add_assoc],fun i hi=>?_⟩ ?_)
      · rcases (by omega : i < m ∨ i = m) with h | rfl
        · exact hall i h
        · exact hjm ▸ hin
      · rw [hmod, Int.toNat_natCast, Int.toNat_natCast, hjm]
        rcases (by omega:m=0 ∨ m=1) with rfl | rfl <;> rcases (by omega:N=4 ∨ N=5 ∨ N=6) with rfl | rfl | rfl <;> omega
    refine Yes.bind (free.mono ?_)
    rintro _ ⟨j,rfl,hj,hj6,hfree⟩
    have z1:=byte Sh[k][1]
    refine qbind _ (vidx us hj6) (qbind _ (vidx Sh hkl) (qbind _ (vidx Sh[k] (i:=1) (by omega)) (qbind _ (rem_nn (byte _).1 (by omega)) (qbind _ (vidx Sh hkl) (qbind _ (vidx Sh[k] (i:=1) (by omega)) (qbind _ (quo_nn (byte _).1 (by omega) (by omega)) (qbind _ (rem_nn (Int.ediv_nonneg (byte _).1 (by omega)) (by omega)) (qbind _ rfl (Yes.bind (Yes.mono (Q':=fun s=>okS [b0,b1] s=true∧pk b0 s=j) ?_ fun s hs=>?_))))))))))
    · refine qbind b0 rfl (Yes.cond (fun hc3 => qbind b0 rfl (Yes.some ?_)) (fun hc3 => Yes.some ?_))
      · have hge := of_decide_eq_true hc3
        rw [w64_id (n:=(j:Int) - b0) (by omega) (by omega),w64_id (n:=_ + _) (by omega) (by omega)]
        refine ⟨?_,?_⟩
        · unfold okS
          simp only [Bool.and_eq_true,btw_iff,decide_eq_true_eq]
          refine ⟨⟨⟨by omega,by omega⟩,?_⟩,by omega⟩
          show 0 ≤ (j:Int) - b0∧(j:Int) - b0 ≤ b1 - 1
          omega
        · unfold pk; rw [if_neg (by simp)]; show b0.toNat + ((j:Int) - b0).toNat=j; omega
      · have hlt := of_decide_eq_false hc3
        rw [w64_id (n:=_ + _) (by omega) (by omega)]
        refine ⟨?_,?_⟩
        · unfold okS
          simp only [Bool.and_eq_true,btw_iff,decide_eq_true_eq]
          refine ⟨⟨⟨by omega,by omega⟩,?_⟩,by omega⟩
          show 0 ≤ (j:Int)∧(j:Int) ≤ b0 - 1
          omega
        · unfold pk; rw [if_pos rfl]; show ((j:Int)).toNat=j; omega
    · obtain ⟨s1, s2⟩ := hs
      refine Yes.bind (Yes.apnd (by simp; omega) (by simp; omega) (Yes.some (hk _ ⟨k + 1,?_,by omega,rfl,c2,by simp [c3],?_,?_,?_⟩ ?_)))
      · show w64 ((k:Int) + 1)=_; rw [w64_id (by omega) (by omega)]; simp
      · intro y hy
        have hup:∀ i (h:i < 6),us[i]=true→(vset us (j:Int) true)[i]=true:=fun i h ht=>by
          rw [vset_at h]
          split
          · rfl
          · exact ht
        rcases List.mem_append.1 hy with hy | hy
        · obtain ⟨d1, d2, d3⟩ := c6 y hy
          exact ⟨d1,d2,hup _ d2 d3⟩
        · rw [List.mem_singleton.1 hy]
          exact ⟨s1,by rw [s2]; exact hj6,by simp only [s2]; rw [vset_at hj6,if_pos rfl]⟩
      · intro i hi ht
        show i ∈ (l.Shuttles ++ [s]).map (pk b0)
        rw [List.map_append,List.mem_append]
        have ht:(vset us (j:Int) true)[i]=true:=ht
        rw [vset_at hi] at ht
        by_cases hij:j=i
        · subst hij; exact .inr (by simp [s2])
        · rw [if_neg hij] at ht; exact .inl (c4 i hi ht)
      · refine dst_snoc c7 fun y hy he => ?_
        obtain ⟨_,d2,d3⟩:=c6 y hy
        have:pk b0 y=j:=by rw [← s2]; unfold pk; rw [he.1,he.2]
        simp only [this] at d3
        rw [d3] at hfree; cases hfree
      · show 4 - (w64 ((k : Int) + 1)).toNat < 4 - ((k : Int)).toNat
        rw [w64_id (by omega) (by omega)]; omega
  · have hc := of_decide_eq_false hc
    have hk3:k=3:=by omega
    refine ⟨⟨by rw [c1]; rfl,by rw [c2]; rfl⟩,fun i hi=>?_,by omega,by omega,fun y hy=>by rw [c1]; exact (c6 y hy).1,c7⟩
    unfold sideOk
    rw [c1,c2,Bool.and_eq_true,btw_iff,btw_iff]
    rcases (by omega:i=0 ∨ i=1) with rfl | rfl
    · show (1 ≤ b0∧b0 ≤ 4)∧0 ≤ a0∧a0 ≤ b0 - 1; omega
    · show (1 ≤ b1∧b1 ≤ 4)∧0 ≤ a1∧a1 ≤ b1 - 1; omega
end Go.Proofs.Ytpckllcdlpoieaa
/- TopYarnOut. -/
set_option maxRecDepth 8000
namespace Go.Proofs.Ytpckllcdlpoieaa
open Go.RowKit
open Classical

theorem s22c (xs:List Int) (h:xs.length ≤ 1000):f22 xs=some xs:=by
 refine Yes.eq ?_
 unfold f22
 exact Yes.bind (Yes.apnd (by simp; omega) (by simp; omega) (Yes.some rfl))
theorem s21c {l:BoxLoom} (h:Sml l):f21 l=some l:=by
 obtain ⟨h1,h2,h3⟩:=h
 refine Yes.eq ?_
 unfold f21
 rw [s22c _ (by omega),s22c _ (by omega)]
 exact qbind _ rfl (qbind _ rfl (Yes.bind (Yes.apnd (by simp; omega) (by simp; omega) (Yes.some rfl))))
def PlanOk (l:BoxLoom) (ps:List BoxPick):Prop:=ps.length ≤ 12∧(∃ n,thr l ps=some n)∧∀ p ∈ ps,okP l.Boxes p=true
theorem plan_of {l:BoxLoom} (hl:LOk l) {cs:List Int} (h:cs.length ≤ 12) (hlt:cL cs l < never):PlanOk l (rf cs l).1:=by
 obtain ⟨h1,h2,_⟩:=rf_plan cs (l:=l) (by omega) hl hlt
 exact ⟨Nat.le_trans (rf_ok cs (by omega) hl).bd.2.2 h,h1,h2⟩
theorem s4 {A D E:Prop} (x:Race) (order:List UInt8) (v:Vector UInt8 4) (_:A) (ho:order.length ≤ 9223372036854775807∧D) (_:E):f4 x order v=some true:=by
 have byte:∀ u:UInt8,(0:Int) ≤ (u.toNat:Int)∧(u.toNat:Int) ≤ 255:=fun u=>by have:=u.toNat_lt; omega
 refine Yes.eq ?_
 unfold f4
 refine Yes.bind ((s18b x).mono fun l hl=>Yes.bind ((s19t v).mono fun t ht=>Yes.bind ((s20t ht).mono fun nd hnd=>?_)))
 obtain ⟨n,d⟩:=nd
 obtain ⟨hn,hd,hp⟩:=hnd
 simp only at hn hd hp
 -- the colours
 refine Yes.bind (Yes.mono (Q':=fun cs=>cs.length ≤ 12∧∀ c ∈ cs,0 ≤ c∧c ≤ 2) ?_ fun cs hcs=>?_)
 ·refine Yes.upto (min order.length 12) (by omega) (fun i zs => zs.length = i ∧ ∀ c ∈ zs, 0 ≤ c ∧ c ≤ 2) ⟨rfl, by simp⟩ (fun i zs k hi hI hk => ?_) (fun zs k hI => ?_)
  ·refine Yes.jn (Yes.bind (Yes.cond (fun _ => Yes.some (qtake (decide_eq_true (by omega)) ?_)) (fun hc => absurd (of_decide_eq_false hc) (by omega))))
   refine Yes.bind (qbind _ (qidx (by omega)) (qbind _ (rem_nn (byte _).1 (by omega)) (Yes.bind (Yes.apnd (by simp; omega) (by simp; omega) (Yes.some (hk _ ⟨by simp [hI.1],fun c hc=>?_⟩))))))
   rcases List.mem_append.1 hc with hc | hc
   ·exact hI.2 c hc
   ·rw [List.mem_singleton.1 hc]; omega
  ·refine Yes.jn (Yes.bind (Yes.cond (fun hc => Yes.some (qskip (decide_eq_false ?_) (Yes.some ⟨by omega, hI.2⟩))) (fun _ => Yes.some (qskip rfl (Yes.some ⟨by omega, hI.2⟩)))))
   have:=of_decide_eq_true hc
   omega
 obtain ⟨hc12,hcol⟩:=hcs
 have hall:∀ {cs':List Int},(∀ c ∈ cs',c ∈ cs)→cs'.all (btw 0 9)=true:=fun h=>List.all_eq_true.2 fun c hc=>btw_iff.2 (by have:=hcol c (h c hc); omega)
 have hrf:=rf_ok cs (by omega) hl
 refine qbind _ (s21c hl.sml) (qbind _ (s22c cs (by omega)) (qbind _ (s17 hl (by omega) (hall fun _ h=>h)) (Yes.bind (Yes.mono (Q':=fun r=>PlanOk l r.1∧r.2=0) ?_ fun r hr=>?_))))
 ·by_cases hfar : (rf cs l).2.2 = cs.length
  ·rw [if_pos hfar]
   exact Yes.bind (qskip rfl (Yes.some (qskip rfl (Yes.some ⟨plan_of hl hc12 (hrf.all.2 hfar),rfl⟩))))
  ·rw [if_neg hfar]
   obtain ⟨k,hk,hkl⟩:∃ k:Nat,(rf cs l).2.2=(k:Int)∧k < cs.length:=⟨(rf cs l).2.2.toNat,by have:=hrf.far; omega,by have:=hrf.far; omega⟩
   simp only [hk]
   refine Yes.bind (qtake rfl (qtake (decide_eq_true (by omega)) (Yes.some (qtake (decide_eq_true (by omega)) ?_))))
   have hcut:cut cs 0 (k:Int)=some (cs.take k):=by unfold cut; rw [if_pos ⟨by omega,by omega,by omega⟩]; simp
   have hlt:=(hrf.pre k (by omega)).2 (by omega)
   refine qbind _ (s21c hl.sml) (qbind _ hcut (qbind _ (s22c _ (by simp; omega)) (qbind _ (s17p hl (by simp; omega) (hall fun _ h=>List.mem_of_mem_take h) hlt) (Yes.some ⟨plan_of hl (by simp; omega) hlt,rfl⟩))))
 obtain ⟨ps,e⟩:=r
 obtain ⟨⟨hps,⟨nl,hth⟩,hok⟩,he⟩:=hr
 simp only at hps hth hok he
 subst he
 refine Yes.jn (Yes.bind (qskip rfl (Yes.some (qskip (decide_eq_false (by omega)) ?_))))
 refine qbind _ (s21c hl.sml) (Yes.bind (Yes.apnd (by simp; omega) (by simp; omega) (Yes.bind ((s30 hl hok (by omega)).mono fun o hout=>?_))))
 rw [hth] at hout
 obtain ⟨p,q,e⟩:=o
 obtain ⟨o1,o2,o3⟩:=hout
 simp only at o1 o2 o3
 subst o3
 have r1:=o1.rng
 have r2:=o2.rng
 have hlen:=thl_length hth
 have htl:=thl_lt hl hok
 have hlh:∀ i ∈ thl l ps,bnd l false i ≤ bnd l true i:=fun i hi=>by
  have:=yarn_rng hl (htl i hi)
  rw [bnd_at (htl i hi),bnd_at (htl i hi)]; exact this.2.1
 have hle:0 ≤ q→0 ≤ p∧p ≤ q:=fun h=>o1.le o2 hlh h
 refine Yes.jn (Yes.bind (qskip rfl (qskip (decide_eq_false (by show ¬ p < -1; omega)) (qskip (decide_eq_false (by show ¬ q < -1; omega)) (qskip (decide_eq_false (by show ¬ p ≥ (ps.length:Int); omega)) (Yes.some (qskip (decide_eq_false (by show ¬ q ≥ (ps.length:Int); omega)) ?_)))))))
 have opt:∀ r:Int,-1 ≤ r→(r < 0 ∨ r < (ps.length:Int))→Yes (bif decide (r < (0:Int)) then some (ps.length:Int) else some r) fun m=>(m=if r < 0 then (ps.length:Int) else r):=fun r _ _=>Yes.cond (fun hc=>Yes.some (if_pos (of_decide_eq_true hc)).symm) (fun hc=>Yes.some (if_neg (of_decide_eq_false hc)).symm)
 refine Yes.jn (Yes.bind ((opt p r1.1 (by omega)).mono fun m1 hm1=>Yes.bind ((opt q r2.1 (by omega)).mono fun m2 hm2=>?_)))
 have b1:0 ≤ m1∧m1 ≤ 12:=by rw [hm1]; split <;> omega
 have b2:0 ≤ m2∧m2 ≤ 12:=by rw [hm2]; split <;> omega
 have b3:m1 ≤ m2:=by rw [hm1,hm2]; split <;> split <;> omega
 clear hm1 hm2
 have mono:(m1 * n + d - 1) / d ≤ (m2 * n + d - 1) / d:=Int.ediv_le_ediv (by omega) (by have:=Int.mul_le_mul_of_nonneg_right b3 (show 0 ≤ n by omega); omega)
 have pos:0 ≤ (m1 * n + d - 1) / d:=Int.ediv_nonneg (by have:=Int.mul_nonneg b1.1 (show 0 ≤ n by omega); omega) (by omega)
 refine Yes.jn (Yes.upto 2 (by omega) (fun i aB=>aB=if i=0 then 0 else if i=1 then (m1 * n + d - 1) / d else (m2 * n + d - 1) / d) rfl (fun i aB k hi hI hk=>?_) (fun aB k _=>?_))
 ·refine qtake (decide_eq_true (by omega)) (Yes.jn ?_)
  have step:∀ m:Int,0 ≤ m∧m ≤ 12→aB ≤ (m * n + d - 1) / d→(Yes (k ((m * n + d - 1) / d,w64 ((i:Int) + 1))) fun r=>r=true)→Yes ((quo64 (w64 ((w64 ((w64 (m * n)) + d)) - (1:Int))) d).bind fun r8=>(f25 t).bind fun jM=>(f24 jM r8).bind fun k8=>jn (σ:=Unit) (fun _=>k (r8,w64 ((i:Int) + 1))) fun kM=>
    Option.bind (α:=Bool) (bif (k8.2 != (0:Int)) then some (true) else bif (k8.1 != m) then some (true) else some ((decide (r8 < aB)))) fun dB=>bif dB then some (false) else kM ()) fun r=>r=true:=fun m hm hle2 hgo=>by
   have e1:=mul_rng (a:=m) (b:=n) (A:=12) (B:=177500000) hm ⟨by omega,hn.2⟩
   rw [w64_id (n:=m * n) (by omega) (by omega),w64_id (n:=m * n + d) (by omega) (by omega),w64_id (n:=m * n + d - 1) (by omega) (by omega)]
   exact qbind _ (quo_nn (by omega) (by omega) (by omega)) (qbind _ (s25t ht) (qbind _ (s24t ht hn hd hp hm) (Yes.jn (Yes.bind (qskip rfl (qskip (by simp) (Yes.some (qskip (decide_eq_false (by omega)) hgo))))))))
  rcases (by omega:i=0 ∨ i=1) with rfl | rfl
  ·exact qbind m1 rfl (step m1 b1 (by rw [hI,if_pos rfl]; exact pos) (hk _ (by rw [if_neg (by omega),if_pos rfl])))
  ·exact qbind m2 rfl (step m2 b2 (by rw [hI,if_neg (by omega),if_pos rfl]; exact mono) (hk _ (by rw [if_neg (by omega),if_neg (by omega)])))
 ·exact ⟨true,rfl,rfl⟩
end Go.Proofs.Ytpckllcdlpoieaa
