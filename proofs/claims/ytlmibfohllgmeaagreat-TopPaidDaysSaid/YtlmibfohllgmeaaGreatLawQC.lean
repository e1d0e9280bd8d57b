/- TopPaidDays: what f4 answers. -/
import Derived.Test.YtlmibfohllgmeaaGreatLawQB
set_option maxRecDepth 8000
namespace Go.Proofs.YtlmibfohllgmeaaGreat
open Go.RowKit
open Classical

def tri (f:Int→Int):List Int:=[f 0,f 1,f 2]
theorem tri_idx {f:Int→Int} {k:Int} (h:0 ≤ k∧k ≤ 2):idx (tri f) k=some (f k):=by
 have:k=0 ∨ k=1 ∨ k=2:=by omega
 rcases this with rfl | rfl | rfl <;> rfl
theorem tri_set {f:Int→Int} {k y:Int} (h:0 ≤ k∧k ≤ 2):(tri f).set k.toNat (f k + y)=tri fun j=>f j + if k=j then y else 0:=by
 have:k=0 ∨ k=1 ∨ k=2:=by omega
 rcases this with rfl | rfl | rfl <;> simp [tri]
theorem vset_list {n:Nat} {v:Vector Int n} {k y:Int}:(vset v k y).toList=v.toList.set k.toNat y:=by
 unfold vset; simp
theorem zapnd56 {xs:List PayPiece} {y:PayPiece} (h:xs.length ≤ 1000):apnd 56 xs [y]=some (xs ++ [y]):=Yes.eq (Yes.apnd (by simp; omega) (by simp; omega) rfl)
def cntQ (f : Int → Int) : Nat → Int
 | 0=>0
 | i + 1=>cntQ f i + if 0 < f (i:Int) then 1 else 0
theorem cnt_rng (f : Int → Int) : ∀ i, 0 ≤ cntQ f i ∧ cntQ f i ≤ i
 | 0=>by simp [cntQ]
 | i + 1=>by have:=cnt_rng f i; rw [cntQ]; split <;> omega
theorem cnt3 (f:Int→Int):cntQ f 3=((([0,1,2]:List Int).filter fun k=>decide (0 < f k)).length:Int):=by
 simp only [cntQ,List.filter_cons,List.filter_nil]
 by_cases h0:0 < f 0 <;> by_cases h1:0 < f 1 <;> by_cases h2:0 < f 2 <;> simp [h0,h1,h2]

set_option maxHeartbeats 1000000 in
theorem s4 (x0:List (Vector UInt8 3)) (x1:UInt8) (x2:Vector UInt8 4):f4 x0 x1 x2=some true:=by
 have iv:∀ (q:Nat) (h:q < 4),idx x2.toList (q:Int)=some (x2.toList[q]'(by simp; omega)):=fun q h=>zidx (by simp; omega)
 obtain ⟨⟨m,l⟩,hsh,c,w,S⟩:=shed_is x1 (x2.toList[0]'(by simp)) x0
 simp only at S
 obtain ⟨P,hP0,hP,hx⟩:=prices_ok x2
 have hm:=S.hm
 have hw:=S.hw
 have hn6:=S.hn
 have hck:=shed_ok S
 have g:=good_of hck
 have hc0:=shed_cpl S
 have hwl:m.Widths.length=w:=by rw [hm]; simp
 obtain ⟨r,hpl,_,hr2⟩:=s17 m l
 obtain ⟨hr0,hgr⟩:=(hr2 hck).1 hc0
 have hql:=grd_len hgr
 have hqs:=grd_seq hgr seq_nil
 obtain ⟨K,F,hF⟩:=(cpl_full hql).1 (grd_cpl hgr hc0)
 obtain ⟨pl,e⟩:=r
 simp only at hr0 hql hqs hF
 subst hr0
 have hrun:∀ j:Nat,j < l.length→(rn pl j).Order=(j:Int)∧0 ≤ (rn pl j).Loom∧(rn pl j).Loom < (w:Int):=fun j hj=>by
  have:=holdF_run g hqs (by omega) hF (i:=j) (by omega)
  exact ⟨this.1,by omega,by omega⟩
 have R:Ran l pl:=⟨hn6,fun j hj=>by have:=hrun j hj; omega,fun j hj=>(S.ho j hj).2.2.1⟩
 have r6:=hP.r6
 have h19:f19 P=some P:=c19 P (by omega) (by rw [hx]; simp)
 have hd:=zu8 (x2.toList[1]'(by simp))
 generalize hdd:(((x2.toList[1]'(by simp)).toNat:Nat):Int)=d at hd
 refine Yes.eq ?_
 unfold f4
 refine zbind _ (iv 0 (by omega)) (zbind _ hsh (zbind _ hP0 (zbind _ (c13 m (by omega)) (zbind _ (c7 l (by omega)) (zbind _ hpl (Yes.jn (zbind false ?_ (zskip rfl (Yes.jn ?_)))))))))
 ·have : ((pl.length : Int) != (l.length : Int)) = false := by rw [hql]; simp
  exact congrArg some this
 refine Yes.rng (fun (s : List PayPiece × Vector Int 3 × List Int × Int) i => (s.1, s.2.1, s.2.2.1, s.2.2.2, (i : Int))) 0 pl.length
  (fun i s=>s.1=psQ l pl d i∧s.2.1.toList=tri (totWP P (psQ l pl d i))∧s.2.2.1=tri (dyQ l pl i)∧s.2.2.2=alQ l i)
  ([],⟨List.toArray [0,0,0],rfl⟩,[0,0,0],0) rfl (by omega) (by omega) ⟨rfl,by simp [psQ,totWP,tri],rfl,rfl⟩ (fun i s k _ hi hI hk=>?_) (fun s k hI=>?_)
 ·obtain ⟨ps, yB, zB, aB⟩ := s
  obtain ⟨h1,h2,h3,h4⟩:=hI
  simp only at h1 h2 h3 h4
  have hi':i < l.length:=by omega
  have hk2:=R.k i hi'
  have hri:=hrun i hi'
  have hwo:=R.w i hi'
  have hdy:=dy_bound R (rn pl i).Loom i (by omega)
  have hal:=al_sum R i (by omega)
  have hb0:=dy_bound R 0 i (by omega)
  have hb1:=dy_bound R 1 i (by omega)
  have hb2:=dy_bound R 2 i (by omega)
  have htr:=tot_rng (P:=P) R hP hd (rn pl i).Loom i (by omega)
  have hpk:=piece_ok (P:=P) R hd hi'
  have hwg:=wage_boundP hP hpk (by show (0:Nat) ≤ 1000; omega) (n:=0) (by omega)
  have h18:=s16P hP hpk (by show (0:Nat) ≤ 1000; omega)
  have hxo:idx l (i:Int)=some (od l (i:Int)):=idx_od (by omega) (by omega)
  have e1:w64 ((1000:Int) * (od l (i:Int)).Woven)=1000 * (od l (i:Int)).Woven:=zw64 (by omega) (by omega)
  subst h1; subst h3; subst h4
  refine Yes.jn (ztake (decide_eq_true (Int.ofNat_lt.2 hi)) (Yes.jn (zbind _ (idx_rn hi) (Yes.jn (zbind false ?_ (zskip rfl ?_))))))
  ·have a1 : ((rn pl i).Order != (i : Int)) = false := by rw [hri.1]; simp
   simp only [idx_rn hi,Option.bind_some]
   rw [a1,decide_eq_false (show ¬ (rn pl i).Loom < 0 by omega),decide_eq_false (show ¬ (rn pl i).Loom ≥ (m.Widths.length:Int) by omega)]; rfl
  refine zbind _ (iv 1 (by omega)) (zbind _ hxo (zbind _ h19 ?_))
  dsimp only
  rw [hdd,e1]
  refine zbind _ h18 (Yes.jn (zskip rfl ?_))
  refine zbind _ (zapnd56 (by rw [psQ_len]; omega)) (zbind _ (by rw [h2]; exact tri_idx hk2) (zbind _ (tri_idx hk2) (zbind _ hxo (zbind _ hxo (zbind _ (by rw [h2]; exact tri_idx hk2) (zbind _ (tri_idx hk2) ?_))))))
  dsimp only
  have e2:w64 (totWP P (psQ l pl d i) (rn pl i).Loom + wageLP P (pieceQ l pl d i) (pieceQ l pl d i).Faults)=totWP P (psQ l pl d i) (rn pl i).Loom + wageLP P (pieceQ l pl d i) 0:=zw64 (by show -1000000000000 ≤ totWP P (psQ l pl d i) (rn pl i).Loom + wageLP P (pieceQ l pl d i) 0; omega) (by show totWP P (psQ l pl d i) (rn pl i).Loom + wageLP P (pieceQ l pl d i) 0 ≤ 1000000000000; omega)
  have e3:w64 (dyQ l pl i (rn pl i).Loom + (od l (i:Int)).Woven)=dyQ l pl i (rn pl i).Loom + (od l (i:Int)).Woven:=zw64 (by omega) (by omega)
  have e4:w64 (alQ l i + (od l (i:Int)).Woven)=alQ l i + (od l (i:Int)).Woven:=zw64 (by omega) (by omega)
  have e6:w64 ((i:Int) + 1)=((i + 1:Nat):Int):=by rw [zw64 (by omega) (by omega)]; omega
  rw [e2,e3,e4,e6]
  refine hk (_,_,_,_) ⟨psQ_succ i |>.symm,?_,tri_set hk2,rfl⟩
  show (vset _ _ _).toList=_
  rw [vset_list,h2,tri_set hk2]
  congr 1
  funext j
  rw [psQ_succ,tot_app]
  rfl
 obtain ⟨ps,yB,zB,aB⟩:=s
 obtain ⟨h1,h2,h3,h4⟩:=hI
 simp only at h1 h2 h3 h4
 subst h1; subst h3; subst h4
 rw [hql] at h2
 rw [hql]
 refine Yes.jn (zskip (decide_eq_false (by simp [hql])) (zbind _ h19 (zbind _ (bill_is R hP hx hd) (Yes.jn (zbind false ?_ (zskip rfl (Yes.jn ?_)))))))
 ·simp
 have hW:=weav_is (d:=d) R
 have hin:∀ x ∈ weavLP (psQ l pl d l.length),(0 ≤ x∧x ≤ 2)∧0 < dyQ l pl l.length x:=fun x hx=>by
  rw [hW,List.mem_filter] at hx
  refine ⟨?_,of_decide_eq_true hx.2⟩
  have:=hx.1
  simp at this; omega
 have hasc:(weavLP (psQ l pl d l.length)).Pairwise (· < ·):=(rngI_ascP 51).filter _
 have hWl:(weavLP (psQ l pl d l.length)).length ≤ 3:=by rw [hW]; exact List.length_filter_le _ _
 refine Yes.upto0 (weavLP (psQ l pl d l.length)).length (by omega) (fun _=>True) trivial (fun i k hi _ hk=>?_) (fun k _=>?_)
 ·refine Yes.jn (ztake (decide_eq_true (Int.ofNat_lt.2 hi)) (Yes.jn (zbind false ?_ (zskip rfl (hk trivial)))))
  dsimp only
  obtain ⟨hv,hv2⟩:=hin _ (List.getElem_mem hi)
  have i1:=zidx hi
  have i2:idx ((weavLP (psQ l pl d l.length)).map (totWP P (psQ l pl d l.length))) (i:Int)=some (totWP P (psQ l pl d l.length) (weavLP (psQ l pl d l.length))[i]):=by
   rw [zidx (by simpa using hi)]; simp
  have hgt:0 < i→idx (weavLP (psQ l pl d l.length)) (w64 ((i:Int) - 1))=some ((weavLP (psQ l pl d l.length))[i - 1])∧(weavLP (psQ l pl d l.length))[i - 1] < (weavLP (psQ l pl d l.length))[i]:=fun h=>by
   refine ⟨?_,List.pairwise_iff_getElem.1 hasc _ _ _ _ (by omega)⟩
   rw [zw64 (by omega) (by omega),show (i:Int) - 1=((i - 1:Nat):Int) by omega]
   exact zidx (by omega)
  generalize (weavLP (psQ l pl d l.length))[i]=v at hv hv2 i1 i2 hgt
  have z1:(dyQ l pl l.length v == (0:Int))=false:=by rw [beq_eq_false_iff_ne]; omega
  have z2:(totWP P (psQ l pl d l.length) v != totWP P (psQ l pl d l.length) v)=false:=by simp
  simp only [i1,i2,h2,tri_idx hv,Option.bind_some]
  rw [decide_eq_false (show ¬ v < 0 by omega),decide_eq_false (show ¬ v > 2 by omega),z1,z2]
  simp only [cond_false]
  by_cases h0:0 < i
  ·obtain ⟨g1, g2⟩ := hgt h0
   rw [decide_eq_true (show (i:Int) > 0 by omega),cond_true,g1,Option.bind_some,decide_eq_false (by omega)]
  ·rw [decide_eq_false (show ¬ (i:Int) > 0 by omega),cond_false]
 refine Yes.jn (zskip (decide_eq_false (by simp)) ?_)
 refine Yes.bind (Yes.mono (Q':=fun b=>b=((weavLP (psQ l pl d l.length)).length:Int)) ?_ fun b hb=>?_)
 ·refine Yes.upto (σ := Int) 3 (by omega) (fun i s => s = cntQ (dyQ l pl l.length) i) rfl (fun i s k hi hI hk => ?_) (fun s k hI => ?_)
  ·subst hI
   have:=cnt_rng (dyQ l pl l.length) i
   refine Yes.jn (ztake (decide_eq_true (by omega)) (zbind (cntQ (dyQ l pl l.length) (i + 1)) ?_ (hk _ rfl)))
   rw [tri_idx (by omega),Option.bind_some,cntQ,zw64 (by omega) (by omega)]
   by_cases h0:0 < dyQ l pl l.length (i:Int)
   ·rw [decide_eq_true h0,if_pos h0]; rfl
   ·rw [decide_eq_false h0,if_neg h0,Int.add_zero]; rfl
  ·subst hI
   exact Yes.jn (zskip (decide_eq_false (by omega)) (Yes.some (by rw [cnt3,hW])))
 subst hb
 refine Yes.jn (zskip (by simp) ?_)
 refine zbind _ (c8 _ (by simp [tri])) ?_
 have hpos:=al_pos R l.length (Nat.le_refl _)
 by_cases h0:alQ l l.length=0
 ·have hl0 : l.length = 0 := by omega
  have hsh':f21 (alQ l l.length) (tri (dyQ l pl l.length))=some ([],2):=by rw [hl0]; exact share_none
  refine zbind _ hsh' (Yes.jn (ztake (by rw [h0]; rfl) (zbind true ?_ (Yes.some rfl))))
  simp [pub_shop_ok,pub_pay_ok]
 ·have hal := al_sum R l.length (Nat.le_refl _)
  have hb0:=dy_bound R 0 l.length (Nat.le_refl _)
  have hb1:=dy_bound R 1 l.length (Nat.le_refl _)
  have hb2:=dy_bound R 2 l.length (Nat.le_refl _)
  have hsh':f21 (alQ l l.length) (tri (dyQ l pl l.length))=some (tri (dyQ l pl l.length),0):=by
   rw [hal]; exact share_is (by omega) (by omega) (by omega) (by omega)
  refine zbind _ hsh' (Yes.jn (zskip (by rw [beq_eq_false_iff_ne]; exact h0) (zbind true ?_ (Yes.some rfl))))
  simp [pub_shop_ok,pub_pay_ok,s23 (tri (dyQ l pl l.length)) (by simp [tri])]
end Go.Proofs.YtlmibfohllgmeaaGreat
