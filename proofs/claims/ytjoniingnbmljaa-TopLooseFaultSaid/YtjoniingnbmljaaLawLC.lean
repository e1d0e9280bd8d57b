/- TopLooseFault's law: a warp that hangs loose weaves as one that is broken. -/
import Derived.Test.YtjoniingnbmljaaLawLB
set_option maxRecDepth 8000
namespace Go.Proofs.Ytjoniingnbmljaa
open Go.RowKit
open Classical
theorem arm_faultL:f17=some true:=by kernel_rfl
def downF (n k:Nat):List Zz:=(List.range n).map fun (p:Nat)=>⟨(p:Int),(k:Int),false⟩
theorem cloth_congrL {n m:Nat} {c c':Nat→Nat→Bool} (h:∀ p w,p < n→w < m→c p w=c' p w):clothOfF n m c=clothOfF n m c':=by
 unfold clothOfF
 refine List.map_congr_left fun p hp=>line_sameF fun w hw=>h p w (List.mem_range.1 hp) hw
theorem s5 (x0:Loom) (x1:UInt8):f5 x0 x1=some true:=by
 refine Yes.eq ?_
 unfold f5
 refine Yes.bind ((arm_isF x0).mono fun l ha=>?_)
 have g:=good_ofF ha.ok
 have hn10:=ha.r10
 have hn1:=ha.r1
 have hw30:=ha.w30
 have hw1:=ha.w1
 obtain ⟨n,hn⟩:∃ n,l.Harness.Warps.length=n:=⟨_,rfl⟩
 obtain ⟨R,hR⟩:∃ R,l.Design.Rows.length=R:=⟨_,rfl⟩
 have e30:f30 l.Harness=some l.Harness:=s30F _ (by omega)
 have e31:f31 l.Design=some l.Design:=s31F _ (by omega)
 have e15:f15 l=some l:=copy_isF l (by omega) (by omega)
 rw [hn,hR]
 rw [hn] at hw30 hw1
 rw [hR] at hn10 hn1
 refine bindvF _ (rem_natF (by omega)) ?_
 obtain ⟨k,hk,hkn⟩:∃ k,x1.toNat % n=k∧k < n:=⟨_,rfl,Nat.mod_lt _ (by omega)⟩
 rw [hk]
 have hkl:k < (idsF n).length:=by rw [ids_lenF]; exact hkn
 refine bindvF _ (s28F n (by omega)) (bindvF _ (tidxF hkl) (bindvF _ e30 ?_))
 rw [Int.toNat_natCast]
 show Yes (Option.bind (f11 (looseF n k)) _) _
 refine bindvF _ (s11F _ (by rw [loose_lenF]; omega)) (bindvF _ e31 ?_)
 have hdr:DrF l.Harness.Warps.length (looseF n k):=by rw [hn]; exact loose_okF n k
 have hid:DrF l.Harness.Warps.length (idsF n):=by rw [hn]; exact ids_okF n
 have w1:=s29F g hdr (by omega) (by omega)
 have w2:=s29F g hid (by omega) (by omega)
 rw [hn,hR] at w1 w2
 have hd:dmgF l ⟨5,0,0,(k:Int),false⟩=true:=dmg5F (by omega) (by omega)
 have ho1:openEF l [⟨5,0,0,(k:Int),false⟩] (R:Int)=0:=open_okF (chk_okF ha.ok (by simp) (fun d h=>by rw [List.mem_singleton.1 h]; exact hd)) (by omega) (by omega)
 have ho0:openEF l [] (R:Int)=0:=open_okF (chk_okF ha.ok (by simp) (fun d h=>by cases h)) (by omega) (by omega)
 have b1:=s19F (s78_oneF ⟨5,0,0,(k:Int),false⟩) (by simp) (fun d h=>by rw [List.mem_singleton.1 h]; exact hd) ho1
 have b0:=s19F s78_nilF (by simp) (fun d h=>by cases h) ho0
 rw [Int.toNat_natCast] at b1 b0
 -- the cloths
 have hdown:∀ p w,rcF l [⟨5,0,0,(k:Int),false⟩] p w=(tabF l p (hkF l w) && !decide (w=k)):=fun p w=>by
  rw [rc_oneF]
  simp [actTF,actBF]
 have c1:cthNF l [⟨5,0,0,(k:Int),false⟩] R=rndF l [⟨5,0,0,(k:Int),false⟩]:=by
  unfold cthNF
  rw [rnd_isF,hR]
  exact cloth_congrL fun p w hp _=>by rw [Nat.mod_eq_of_lt hp]
 have c0:cthNF l [] R=rndF l []:=by
  unfold cthNF
  rw [rnd_isF,hR]
  exact cloth_congrL fun p w hp _=>by rw [Nat.mod_eq_of_lt hp]
 have la:clothOfF R n (eyeCF l (looseF n k))=rndF l [⟨5,0,0,(k:Int),false⟩]:=by
  rw [rnd_isF,hR,hn]
  refine cloth_congrL fun p w hp hw=>?_
  rw [hdown]
  have hwl:w < (looseF n k).length:=by rw [loose_lenF]; exact hw
  unfold eyeCF
  rw [List.getElem?_eq_getElem hwl,loose_atF hwl]
  by_cases hwk:w=k
  ·subst hwk; simp
  ·have h1 : ¬ k = w := fun h => hwk h.symm
   have h2:¬ ((w:Int)=-1):=by omega
   simp [h1,h2,hwk]
 have li:clothOfF R n (eyeCF l (idsF n))=rndF l []:=by
  rw [rnd_isF,hR,hn]
  refine cloth_congrL fun p w hp hw=>?_
  rw [rc_nilF]
  have hwl:w < (idsF n).length:=by rw [ids_lenF]; exact hw
  unfold eyeCF
  rw [List.getElem?_eq_getElem hwl,ids_atF hwl]
  have h2:¬ ((w:Int)=-1):=by omega
  simp [h2]
 rw [la] at w1
 rw [li] at w2
 rw [c1] at b1
 rw [c0] at b0
 have rl:∀ ds,(rndF l ds).length=R:=fun ds=>by rw [rnd_lenF,hR]
 refine bindvF _ w1 (bindvF _ e15 (bindvF _ b1 (bindvF _ e15 (bindvF _ b0 (Yes.jn ?_)))))
 refine Yes.bind (skipF rfl (skipF rfl (skipF rfl (bindvF true ?_ (skipF rfl (Yes.some (skipF ?_ ?_)))))))
 ·show f32 _ _ = _
  rw [s32L _ _ (by rw [rl]; omega),decide_eq_true rfl]
 ·show (((rndF l []).length : Int) != (R : Int)) = false
  rw [rl]; simp
 -- the sights
 refine Yes.jn (Yes.upto R (by omega) (fun i s=>s=downF i k) rfl (fun i s K hi hI hK=>?_) (fun s K hI=>?_))
 ·have hil : i < (rndF l [⟨5, 0, 0, (k : Int), false⟩]).length := by rw [rl]; exact hi
  have hat:(rndF l [⟨5,0,0,(k:Int),false⟩])[i]=lineF n (rcF l [⟨5,0,0,(k:Int),false⟩] i):=by
   have:=cloth_atF (n:=R) (m:=n) (c:=rcF l [⟨5,0,0,(k:Int),false⟩]) (i:=i) (by rw [cloth_lenF]; exact hi)
   simp only [rnd_isF,hR,hn]
   exact this
  refine Yes.jn (takeF (decide_eq_true (by omega)) (Yes.jn (Yes.jn (Yes.jn (bindvF _ (tidxF hil) ?_)))))
  rw [hat]
  have hll:(lineF n (rcF l [⟨5,0,0,(k:Int),false⟩] i)).b.length=n:=by simp [lineF]
  refine skipF (by rw [hll]; simp) (bindvF _ (tidxF hil) ?_)
  rw [hat]
  refine bindvF (markF false) ?_ ?_
  ·rw [tidxF (by rw [hll]; exact hkn)]
   simp [lineF,hdown]
  ·have hsl : s.length ≤ 1000 := by rw [hI]; simp [downF]; omega
   refine Yes.bind (Yes.apnd (by simp; omega) (by simp; omega) (hK _ ?_))
   rw [hI]
   simp [downF,List.range_succ,markF]
 refine Yes.jn (skipF (decide_eq_false (by omega)) ?_)
 subst hI
 have hdl:(downF R k).length=R:=by simp [downF]
 have hok:∀ s ∈ downF R k,okSF l s=true∧s.Lifted=false:=fun s hs=>by
  obtain ⟨p,hp,rfl⟩:=List.mem_map.1 hs
  have hp:=List.mem_range.1 hp
  refine ⟨?_,rfl⟩
  simp [okSF,btwF,hn]
  omega
 refine bindvF _ e30 (bindvF _ e31 (Yes.bind (Yes.apnd (by rw [hdl]; simp; omega) (by rw [hdl]; simp; omega) ?_)))
 rw [List.nil_append]
 refine Yes.bind ((s33L ha (by rw [hdl]; exact hn10) hok).mono fun r hr=>?_)
 obtain ⟨hooks,loose,e⟩:=r
 simp only [Prod.mk.injEq] at hr
 obtain ⟨rfl,rfl⟩:=hr
 rw [hn]
 -- the damages that can be
 have hcan:=s32F l (downF R k)
 have hs0:seenEF l (downF R k)=0:=by
  unfold seenEF
  rw [if_neg (fun h=>h ha.ok),if_neg (by rw [hdl]; omega),if_pos (List.all_eq_true.2 fun s hs=>(hok s hs).1)]
 rw [if_pos hs0] at hcan
 have h35:=s35L ha (k:=k) (by rw [hn]; exact hkn)
 rw [hn] at h35
 refine bindvF _ e15 (bindvF _ hcan (bindvF _ e30 (bindvF _ h35 (Yes.jn (Yes.bind (skipF rfl (skipF rfl (skipF rfl (skipF ?_ (bindvF true ?_ (skipF rfl (bindvF true (s13L [(k:Int)] (by simp)) (Yes.some (skipF rfl ?_))))))))))))))
 ·show (((List.replicate n true).length : Int) != (n : Int)) = false
  simp
 ·rw [tidxF (by simp; exact hkn)]
  simp
 -- is the broken warp among them?
 have hclen:(cansF l (downF R k)).length ≤ 2000:=Nat.le_trans (List.length_filter_le _ _) (shows_lenF g)
 refine Yes.bind (Yes.mono (Q':=fun b=>b=decide ((⟨5,0,0,(k:Int),false⟩:Zv) ∈ cansF l (downF R k))) ?_ fun b hb=>?_)
 ·refine Yes.upto (cansF l (downF R k)).length (by omega) (fun i b => b = decide ((⟨5, 0, 0, (k : Int), false⟩ : Zv) ∈ (cansF l (downF R k)).take i)) (by simp) (fun i b K hi hI hK => ?_) (fun b K hI => ?_)
  ·refine Yes.jn (takeF (decide_eq_true (by show (i : Int) < ((cansF l (downF R k)).length : Int); omega)) ?_)
   have hstep:decide ((⟨5,0,0,(k:Int),false⟩:Zv) ∈ (cansF l (downF R k)).take (i + 1))=(b || decide ((cansF l (downF R k))[i]=⟨5,0,0,(k:Int),false⟩)):=by
    rw [hI,List.take_succ_eq_append_getElem hi,← Bool.decide_or]
    congr 1
    simp only [List.mem_append,List.mem_singleton,eq_iff_iff]
    exact ⟨fun h=>h.imp id Eq.symm,fun h=>h.imp id Eq.symm⟩
   cases b with
   | true=>exact Yes.bind (takeF rfl (Yes.some (hK _ (by rw [hstep]; rfl))))
   | false=>exact Yes.bind (skipF rfl (bindvF _ (tidxF hi) (Yes.some (hK _ (by rw [hstep]; rfl)))))
  ·refine Yes.jn (skipF (decide_eq_false (by show ¬ (((cansF l (downF R k)).length : Int) < ((cansF l (downF R k)).length : Int)); omega)) (Yes.some ?_))
   rw [hI,List.take_length]
 have hsh:b=!decide (rndF l [⟨5,0,0,(k:Int),false⟩]=rndF l []):=by
  rw [hb]
  have hfit:fitBF l.Design.Rows.length (rcF l [⟨5,0,0,(k:Int),false⟩]) (downF R k)=true:=List.all_eq_true.2 fun s hs=>by
   obtain ⟨p,hp,rfl⟩:=List.mem_map.1 hs
   rw [hdown]; simp
  have h1:((⟨5,0,0,(k:Int),false⟩:Zv) ∈ cansF l (downF R k)) ↔ shF l ⟨5,0,0,(k:Int),false⟩=true:=by
   rw [mem_cansF,mem_showsF hd]
   exact ⟨fun h=>h.1,fun h=>⟨h,hfit⟩⟩
  have h2:shF l ⟨5,0,0,(k:Int),false⟩=!decide (rndF l [⟨5,0,0,(k:Int),false⟩]=rndF l []):=rfl
  rw [← h2]
  by_cases h3:shF l ⟨5,0,0,(k:Int),false⟩=true
  ·rw [decide_eq_true (h1.2 h3),h3]
  ·rw [decide_eq_false (fun h => h3 (h1.1 h))]
   simpa using h3
 refine bindvF _ w2 (Yes.bind (takeF rfl (bindvF true ?_ (takeF rfl (bindvF _ (s32L _ _ (by show (rndF l _).length < _; rw [rl]; omega)) (takeF ?_ (bindvF _ arm_faultL (takeF rfl (bindvF true rfl (Yes.some (Yes.some rfl)))))))))))
 ·show f32 (rndF l []) (rndF l []) = _
  rw [s32L _ _ (by rw [rl]; omega),decide_eq_true rfl]
 ·rw [hsh]; simp
end Go.Proofs.Ytjoniingnbmljaa
