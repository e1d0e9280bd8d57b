/- TopBoxDays: the loom of bytes; the example of chapter 4. -/
import Derived.Test.YtlmibfohllgmeaaGreatBdB3
set_option maxRecDepth 8000
namespace Go.Proofs.YtlmibfohllgmeaaGreat
open Go.RowKit
open Classical

def pk (b0:Int) (s:Zv):Nat:=if s.Side=0 then s.Box.toNat else b0.toNat + s.Box.toNat
theorem dst_snoc {xs:List Zv} (h:Vh xs) {s:Zv} (hn:∀ x ∈ xs,¬ (x.Side=s.Side∧x.Box=s.Box)):Vh (xs ++ [s]):=by
 have el:∀ k (hk:k < (xs ++ [s]).length),(∃ h':k < xs.length,(xs ++ [s])[k]=xs[k]) ∨ (k=xs.length∧(xs ++ [s])[k]=s):=fun k hk=>by
  by_cases hk':k < xs.length
  ·exact .inl ⟨hk',List.getElem_append_left hk'⟩
  ·have hk2 : k = xs.length := by simp at hk; omega
   subst hk2
   exact .inr ⟨rfl,by simp⟩
 intro i j hi hj hji
 rcases el i hi with ⟨hi',ei⟩ | ⟨hi',ei⟩ <;> rcases el j hj with ⟨hj',ej⟩ | ⟨hj',ej⟩ <;> rw [ei,ej]
 ·exact h i j hi' hj' hji
 ·omega
 ·exact fun he=>hn _ (List.getElem_mem hj') ⟨he.1.symm,he.2.symm⟩
 ·omega
theorem no_three {L:List Nat} (h:L.length ≤ 2) {a b c:Nat} (ha:a ∈ L) (hb:b ∈ L) (hc:c ∈ L) (h1:a ≠ b) (h2:a ≠ c) (h3:b ≠ c):False:=by
 match L,h with
 | [],_=>cases ha
 | [x],_=>simp at ha hb; omega
 | [x,y],_=>simp at ha hb hc; omega
theorem w5 (x:Ya):Yes (f10 x) (fun l=>Kd l∧l.Shuttles.length=3∧∀ i (h:i < l.Shuttles.length),l.Shuttles[i].Colour=(i:Int)):=by
  unfold f10
  obtain ⟨B,Sh⟩:=x
  have byte:∀ u:UInt8,(0:Int) ≤ (u.toNat:Int)∧(u.toNat:Int) ≤ 255:=fun u=>by have:=u.toNat_lt; omega
  have g0:=byte B[0]; have g1:=byte B[1]
  refine Gw _ (Jv B (i:=0) (by omega)) (Gw _ (Xi (byte _).1 (by omega)) (Gw _ (Jv B (i:=1) (by omega)) (Gw _ (Xi (byte _).1 (by omega)) (Gw _ (Jv B (i:=0) (by omega)) (Gw _ (Im (byte _).1 (by omega) (by omega)) (Gw _ (Xi (Int.ediv_nonneg (byte _).1 (by omega)) (by omega)) (Gw _ (Jv B (i:=1) (by omega)) (Gw _ (Im (byte _).1 (by omega) (by omega)) (Gw _ (Xi (Int.ediv_nonneg (byte _).1 (by omega)) (by omega)) (Yes.bind ?_))))))))))
  obtain ⟨b0,hb0,h0⟩:∃ b0:Int,w64 ((2:Int) + (B[0].toNat:Int) % (2:Int))=b0∧2 ≤ b0∧b0 ≤ 3:=⟨_,rfl,by rw [Ql (by omega) (by omega)]; omega⟩
  obtain ⟨b1,hb1,h1⟩:∃ b1:Int,w64 ((2:Int) + (B[1].toNat:Int) % (2:Int))=b1∧2 ≤ b1∧b1 ≤ 3:=⟨_,rfl,by rw [Ql (by omega) (by omega)]; omega⟩
  obtain ⟨a0,ha0,i0⟩:∃ a0:Int,(B[0].toNat:Int) / 2 % 2=a0∧0 ≤ a0∧a0 < b0:=⟨_,rfl,by omega,by omega⟩
  obtain ⟨a1,ha1,i1⟩:∃ a1:Int,(B[1].toNat:Int) / 2 % 2=a1∧0 ≤ a1∧a1 < b1:=⟨_,rfl,by omega,by omega⟩
  rw [hb0,hb1,ha0,ha1]
  refine Yes.lp (fun s => ∃ k : Nat, s.2.2 = (k : Int) ∧ k ≤ 3 ∧ s.1.Boxes = [b0, b1] ∧ s.1.At = [a0, a1] ∧ s.1.Shuttles.length = k ∧ (∀ y ∈ s.1.Shuttles, Vz [b0, b1] y = true ∧ ∃ h : pk b0 y < 6, s.2.1[pk b0 y] = true) ∧ (∀ j (h : j < 6), s.2.1[j] = true → j ∈ s.1.Shuttles.map (pk b0)) ∧ Vh s.1.Shuttles ∧ ∀ i (h : i < s.1.Shuttles.length), s.1.Shuttles[i].Colour = (i : Int))
    (fun s=>4 - s.2.2.toNat) ⟨0,rfl,by omega,rfl,rfl,rfl,by simp,fun j h ht=>?_,fun i j hi=>absurd hi (Nat.not_lt_zero _),fun i hi=>absurd hi (Nat.not_lt_zero _)⟩ (by simp) ?_
  · rcases (by omega:j=0 ∨ j=1 ∨ j=2 ∨ j=3 ∨ j=4 ∨ j=5) with rfl | rfl | rfl | rfl | rfl | rfl <;> cases ht
  rintro ⟨l,us,o⟩ kk ⟨k,rfl,k3,c1,c2,c3,c6,c4,c7,c8⟩ hk
  simp only at c1 c2 c3 c4 c6 c7 c8
  refine Yes.jn (Yes.cond (fun hc=>?_) (fun hc=>Yes.some (Yes.some ?_)))
  · have hkl : k < 3 := by have : (k : Int) < 3 := of_decide_eq_true hc; omega
    refine Yes.jn (Yes.bind (Gw _ (Jv Sh hkl) (Gw _ (Jv Sh[k] (i:=0) (by omega)) ?_)))
    rw [c1]
    refine Gw b0 rfl (Gw b1 rfl ?_)
    rw [Ql (n:=b0 + b1) (by omega) (by omega)]
    refine Gw _ (Xi (byte _).1 (by omega)) ?_
    obtain ⟨u,hu,hu2⟩:∃ u:Nat,(Sh[k][0].toNat:Int) % (b0 + b1)=u∧(u:Int) < b0 + b1:=by
      have e1:=Int.emod_nonneg (Sh[k][0].toNat:Int) (show b0 + b1 ≠ 0 by omega)
      have e2:=Int.emod_lt_of_pos (Sh[k][0].toNat:Int) (show 0 < b0 + b1 by omega)
      exact ⟨((Sh[k][0].toNat:Int) % (b0 + b1)).toNat,by omega,by omega⟩
    rw [hu]
    obtain ⟨N,hN,hN4⟩:∃ N:Nat,b0 + b1=(N:Int)∧4 ≤ N∧N ≤ 6:=⟨(b0 + b1).toNat,by omega,by omega,by omega⟩
    have huN:u < N:=by omega
    have free:Yes (lp (σ:=Int) (fun nK x8=>
       jn (σ:=Unit) (fun _=>
        (idx [b0,b1] (0:Int)).bind fun aD=>
        (idx [b0,b1] (1:Int)).bind fun bD=>
        (Jw (w64 (x8 + (1:Int))) (w64 (aD + bD))).bind fun iB=>
        nK (iB)
        ) fun oK=>
       (idx us.toList x8).bind fun pK=>
       bif pK then
        oK ()
       else
        some (x8)
       ) big (u:Int)) (fun r=>∃ j:Nat,r=j∧j < N∧∃ h:j < 6,us[j]=false):=by
      refine Yes.lp (fun x=>∃ m j:Nat,x=j∧j < N∧m ≤ 2∧j=(u + m) % N∧∀ i,i < m→(u + i) % N ∈ l.Shuttles.map (pk b0)) (fun x=>3 - (x.toNat + N - u) % N) ⟨0,u,rfl,huN,by omega,by rw [Nat.add_zero,Nat.mod_eq_of_lt huN],fun i hi=>absurd hi (Nat.not_lt_zero _)⟩ (by omega) ?_
      rintro _ nk ⟨m,j,rfl,hj,hm,hjm,hall⟩ hnk
      have hj6:j < 6:=by omega
      refine Yes.jn (Gw _ (Jv us hj6) (Yes.cond (fun ht=>?_) (fun hf=>Yes.some ⟨j,rfl,hj,hj6,hf⟩)))
      have hin:=c4 j hj6 ht
      have hlen:(l.Shuttles.map (pk b0)).length ≤ 2:=by rw [List.length_map]; omega
      have hm1:m ≤ 1:=by
        rcases (by omega:m ≤ 1 ∨ m=2) with h | rfl
        · exact h
        · refine (no_three hlen (hall 0 (by omega)) (hall 1 (by omega)) (hjm ▸ hin) ?_ ?_ ?_).elim <;>
          · rcases (by omega:N=4 ∨ N=5 ∨ N=6) with rfl | rfl | rfl <;> omega
      refine Gw b0 rfl (Gw b1 rfl ?_)
      rw [Ql (n:=b0 + b1) (by omega) (by omega),hN,Ql (by omega) (by omega)]
      have hmod:((j:Int) + 1) % (N:Int)=(((j + 1) % N:Nat):Int):=by rw [Int.natCast_emod,Int.natCast_add]; rfl
      refine Gw _ (Xi (by omega) (by omega)) (hnk _ ⟨m + 1,(j + 1) % N,hmod,Nat.mod_lt _ (by omega),by omega,by rw [hjm,Nat.mod_add_mod,Nat.add_assoc],fun i hi=>?_⟩ ?_)
      · rcases (by omega : i < m ∨ i = m) with h | rfl
        · exact hall i h
        · exact hjm ▸ hin
      · rw [hmod, Int.toNat_natCast, Int.toNat_natCast, hjm]
        rcases (by omega:m=0 ∨ m=1) with rfl | rfl <;> rcases (by omega:N=4 ∨ N=5 ∨ N=6) with rfl | rfl | rfl <;> omega
    refine Yes.bind (free.mono ?_)
    rintro _ ⟨j,rfl,hj,hj6,hfree⟩
    have z1:=byte Sh[k][1]
    refine Gw _ (Jv us hj6) (Gw _ (Jv Sh hkl) (Gw _ (Jv Sh[k] (i:=1) (by omega)) (Gw _ (Xi (byte _).1 (by omega)) (Gw _ (Jv Sh hkl) (Gw _ (Jv Sh[k] (i:=1) (by omega)) (Gw _ (Im (byte _).1 (by omega) (by omega)) (Gw _ (Xi (Int.ediv_nonneg (byte _).1 (by omega)) (by omega)) (Gw _ rfl (Yes.bind (Yes.mono (Q':=fun s=>Vz [b0,b1] s=true∧pk b0 s=j∧s.Colour=k) ?_ fun s hs=>?_))))))))))
    · refine Gw b0 rfl (Yes.cond (fun hc3 => Gw b0 rfl (Yes.some ?_)) (fun hc3 => Yes.some ?_))
      · have hge := of_decide_eq_true hc3
        rw [Ql (n:=(j:Int) - b0) (by omega) (by omega),Ql (n:=_ + _) (by omega) (by omega)]
        refine ⟨?_,?_⟩
        · unfold Vz
          simp only [Bool.and_eq_true,Ka,decide_eq_true_eq]
          refine ⟨⟨⟨by omega,by omega⟩,?_⟩,by omega⟩
          show 0 ≤ (j:Int) - b0∧(j:Int) - b0 ≤ b1 - 1
          omega
        · unfold pk; rw [if_neg (by simp)]; exact ⟨by show b0.toNat + ((j:Int) - b0).toNat=j; omega,rfl⟩
      · have hlt := of_decide_eq_false hc3
        rw [Ql (n:=_ + _) (by omega) (by omega)]
        refine ⟨?_,?_⟩
        · unfold Vz
          simp only [Bool.and_eq_true,Ka,decide_eq_true_eq]
          refine ⟨⟨⟨by omega,by omega⟩,?_⟩,by omega⟩
          show 0 ≤ (j:Int)∧(j:Int) ≤ b0 - 1
          omega
        · unfold pk; rw [if_pos rfl]; exact ⟨by show ((j:Int)).toNat=j; omega,rfl⟩
    · obtain ⟨s1, s2, s3⟩ := hs
      refine Yes.bind (Yes.apnd (by simp; omega) (by simp; omega) (Yes.some (hk _ ⟨k + 1,?_,by omega,rfl,c2,by simp [c3],?_,?_,?_,?_⟩ ?_)))
      · show w64 ((k:Int) + 1)=_; rw [Ql (by omega) (by omega)]; simp
      · intro y hy
        have hup:∀ i (h:i < 6),us[i]=true→(Hp us (j:Int) true)[i]=true:=fun i h ht=>by
          rw [Vr h]
          split
          · rfl
          · exact ht
        rcases List.mem_append.1 hy with hy | hy
        · obtain ⟨d1, d2, d3⟩ := c6 y hy
          exact ⟨d1,d2,hup _ d2 d3⟩
        · rw [List.mem_singleton.1 hy]
          exact ⟨s1,by rw [s2]; exact hj6,by simp only [s2]; rw [Vr hj6,if_pos rfl]⟩
      · intro i hi ht
        show i ∈ (l.Shuttles ++ [s]).map (pk b0)
        rw [List.map_append,List.mem_append]
        have ht:(Hp us (j:Int) true)[i]=true:=ht
        rw [Vr hi] at ht
        by_cases hij:j=i
        · subst hij; exact .inr (by simp [s2])
        · rw [if_neg hij] at ht; exact .inl (c4 i hi ht)
      · refine dst_snoc c7 fun y hy he => ?_
        obtain ⟨_,d2,d3⟩:=c6 y hy
        have:pk b0 y=j:=by rw [← s2]; unfold pk; rw [he.1,he.2]
        simp only [this] at d3
        rw [d3] at hfree; cases hfree
      · intro i hi
        show (l.Shuttles ++ [s])[i].Colour=_
        have hi:i < (l.Shuttles ++ [s]).length:=hi
        by_cases h:i < l.Shuttles.length
        · rw [List.getElem_append_left h]; exact c8 i h
        · have : i = l.Shuttles.length := by simp at hi; omega
          subst this
          simp [s3,c3]
      · show 4 - (w64 ((k : Int) + 1)).toNat < 4 - ((k : Int)).toNat
        rw [Ql (by omega) (by omega)]; omega
  · have hc := of_decide_eq_false hc
    have hk3:k=3:=by omega
    refine ⟨⟨⟨by rw [c1]; rfl,by rw [c2]; rfl⟩,fun i hi=>?_,by omega,by omega,fun y hy=>by rw [c1]; exact (c6 y hy).1,c7⟩,by omega,c8⟩
    unfold Ju
    rw [c1,c2,Bool.and_eq_true,Ka,Ka]
    rcases (by omega:i=0 ∨ i=1) with rfl | rfl
    · show (1 ≤ b0∧b0 ≤ 4)∧0 ≤ a0∧a0 ≤ b0 - 1; omega
    · show (1 ≤ b1∧b1 ≤ 4)∧0 ≤ a1∧a1 ≤ b1 - 1; omega
def bxL:BoxLoom:=⟨[2,2],[0,0],[⟨3,0,0,⟨2,3⟩⟩,⟨5,0,1,⟨1,1⟩⟩,⟨7,1,1,⟨9,9⟩⟩]⟩
theorem bx0:f25 bxL=some bxL:=by kernel_rfl
theorem bx1:(f9 bxL [3,7,5]).map (fun r=>(r.1.length,r.2.1,r.2.2.2))=some (3,2,0):=by kernel_rfl
theorem bx2:f52 bxL=(Mu [((3:Int),true),(5,true)]).bind fun y=>some (y,0):=by kernel_rfl
theorem bx3:f53 bxL [⟨0,0⟩,⟨0,0⟩,⟨0,0⟩,⟨0,0⟩]=some (2,3,0):=by kernel_rfl
theorem bxK:Mu [((3:Int),true),(5,true)]=some [3,5]:=by
 unfold Mu
 rw [if_pos (by simp)]
 congr 1
 exact List.mergeSort_of_pairwise (by simp)
theorem pubBox_ok:f14=some true:=by
 refine Yes.eq ?_
 unfold f14
 obtain ⟨r,hr,e⟩:=Option.map_eq_some_iff.1 bx1
 obtain ⟨r1,r2,r3,r4⟩:=r
 simp only [Prod.mk.injEq] at e
 obtain ⟨e1,rfl,rfl⟩:=e
 have h41:f52 bxL=some ([3,5],0):=by rw [bx2,bxK]; rfl
 refine Gw _ rfl (Gw _ rfl (Gw _ rfl (Gw bxL bx0 (Gw _ hr (Gw bxL bx0 (Gw _ h41 (Gw bxL bx0 (Gw _ bx3 (Yes.bind ?_)))))))))
 refine Ww rfl (Ww rfl (Ww rfl (Ww (by simp only [e1]; rfl) (Ww rfl (Gw true (by kernel_rfl) (Ww rfl (Ww rfl (Yes.some (Yes.some rfl)))))))))
end Go.Proofs.YtlmibfohllgmeaaGreat
