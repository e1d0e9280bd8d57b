/- TopWeft. -/
import Derived.Test.YtkfdjkkbnfohjaaGreatLawWB
set_option maxRecDepth 8000
namespace Go.Proofs.YtkfdjkkbnfohjaaGreat
open Go.RowKit
open Classical

def bxL:BoxLoom:=⟨[2,2],[0,0],[⟨3,0,0,⟨2,3⟩⟩,⟨5,0,1,⟨1,1⟩⟩,⟨7,1,1,⟨9,9⟩⟩]⟩
theorem bx0:f11 bxL=some bxL:=by kernel_rfl
theorem bx1:(f10 bxL [3,7,5]).map (fun r=>(r.1.length,r.2.1,r.2.2.2))=some (3,2,0):=by kernel_rfl
theorem bx2:f41 bxL=(keysS [((3:Int),true),(5,true)]).bind fun y=>some (y,0):=by kernel_rfl
theorem bx3:f15 bxL [⟨0,0⟩,⟨0,0⟩,⟨0,0⟩,⟨0,0⟩]=some (2,3,0):=by kernel_rfl
theorem bxK:keysS [((3:Int),true),(5,true)]=some [3,5]:=by
 unfold keysS
 rw [if_pos (by simp)]
 congr 1
 exact List.mergeSort_of_pairwise (by simp)
theorem pubBox_ok:f18=some true:=by
 refine Yes.eq ?_
 unfold f18
 obtain ⟨r,hr,e⟩:=Option.map_eq_some_iff.1 bx1
 obtain ⟨r1,r2,r3,r4⟩:=r
 simp only [Prod.mk.injEq] at e
 obtain ⟨e1,rfl,rfl⟩:=e
 have h41:f41 bxL=some ([3,5],0):=by rw [bx2,bxK]; rfl
 refine qbind _ rfl (qbind _ rfl (qbind _ rfl (qbind bxL bx0 (qbind _ hr (qbind bxL bx0 (qbind _ h41 (qbind bxL bx0 (qbind _ bx3 (Yes.bind ?_)))))))))
 refine qtake rfl (qtake rfl (qtake rfl (qtake (by simp only [e1]; rfl) (qtake rfl (qbind true (by kernel_rfl) (qtake rfl (qtake rfl (Yes.some (Yes.some rfl)))))))))
theorem w11 {l:BoxLoom} (h:Sml l):f11 l=some l:=by
 obtain ⟨h1,h2,h3⟩:=h
 refine Yes.eq ?_
 unfold f11
 rw [w12 _ (by omega),w12 _ (by omega)]
 exact qbind _ rfl (qbind _ rfl (Yes.bind (Yes.apnd (by simp; omega) (by simp; omega) (Yes.some rfl))))
theorem w16 {xs:List Int} (h:xs.length ≤ 1000):f16 xs xs=some true:=by
 refine Yes.eq ?_
 unfold f16
 refine Yes.jn (qskip (by simp) (Yes.jn ?_))
 refine Yes.lp (fun s=>∃ i:Nat,s=i∧i ≤ xs.length) (fun s=>xs.length - s.toNat) ⟨0,rfl,by omega⟩ (by omega) ?_
 rintro _ k ⟨i,rfl,hi⟩ hk
 refine Yes.jn (Yes.cond (fun hc=>?_) (fun _=>Yes.some rfl))
 have hc:(i:Int) < (xs.length:Int):=of_decide_eq_true hc
 refine Yes.jn (qbind _ (qidx (by omega)) (qbind _ (qidx (by omega)) (qskip (by simp) (hk _ ⟨i + 1,?_,by omega⟩ ?_))))
 ·rw [w64_id (by omega) (by omega)]; simp
 ·rw [w64_id (by omega) (by omega)]; omega
def PlanOk (l:BoxLoom) (cs:List Int) (ps:List BoxPick):Prop:=ps.length ≤ 12∧(∃ n,thr l ps=some n)∧(∀ p ∈ ps,okP l.Boxes p=true)∧(thl l ps).map (colr l)=cs
theorem plan_of {l:BoxLoom} (hl:LOk l) {cs:List Int} (h:cs.length ≤ 12) (hlt:cL cs l < never):PlanOk l cs (rf cs l).1:=by
 obtain ⟨h1,h2,h3,_⟩:=rf_plan cs (l:=l) (by omega) hl hlt
 exact ⟨Nat.le_trans (rf_ok cs (by omega) hl).bd.2.2 h,h1,h2,h3⟩
theorem out_at {t : List Nat} {s : Nat} {m : Int} (hm : 0 ≤ m) : ∀ k, k ≤ t.length → (((t.take k).count s : Nat) : Int) > m → ∃ i, ∃ h : i < t.length, t[i] = s ∧ (((t.take (i + 1)).count s : Nat) : Int) > m
 | 0,_,h=>by simp at h; omega
 | k + 1,hk,h=>by
  by_cases hp:(((t.take k).count s:Nat):Int) > m
  ·exact out_at hm k (by omega) hp
  ·refine ⟨k, by omega, ?_, h⟩
   by_cases he:t[k]=s
   ·exact he
   ·rw [take_succ (by omega), List.count_append, List.count_singleton] at h
    simp [he] at h
    omega
def goneS (h : Nat → Int) (c : Nat → Nat) : Nat → Int
 | 0=>0
 | i + 1=>goneS h c i + min (h i) (c i:Nat)
theorem goneS_rng {h : Nat → Int} {c : Nat → Nat} (hh : ∀ i, i < 3 → 0 ≤ h i ∧ h i ≤ 1000) : ∀ i, i ≤ 3 → 0 ≤ goneS h c i ∧ goneS h c i ≤ 1000 * i
 | 0,_=>by simp [goneS]
 | i + 1,hi=>by
  have:=goneS_rng (c:=c) hh i (by omega)
  have:=hh i (by omega)
  unfold goneS
  omega
theorem len3 : ∀ {t : List Nat}, (∀ i ∈ t, i < 3) → t.length = t.count 0 + t.count 1 + t.count 2
 | [],_=>rfl
 | a :: t,h=>by
  have ih:=len3 (t:=t) fun i hi=>h i (List.mem_cons_of_mem _ hi)
  have ha:=h a (by simp)
  rcases (by omega:a=0 ∨ a=1 ∨ a=2) with rfl | rfl | rfl <;> simp [List.count_cons,ih] <;> omega
theorem count_cast {t:List Nat} {s:Nat}:(t.map fun i:Nat=>(i:Int)).count (s:Int)=t.count s:=by
 induction t with
 | nil=>rfl
 | cons a t ih=>
  rw [List.map_cons,List.count_cons,List.count_cons,ih]
  congr 1
  by_cases h:a=s
  ·simp [h]
  ·have h2 : ¬ (a : Int) = (s : Int) := by omega
   simp [h,h2]
theorem s3 {A D E:Prop} (u:UInt8) (rows:List UInt16) (x:Race) (_:A) (hr:rows.length ≤ 9223372036854775807∧D) (_:E):f3 u rows x=some true:=by
 refine Yes.eq ?_
 unfold f3
 refine Yes.bind ((w4 u rows hr.1).mono fun d hd=>Yes.bind ((w5 x).mono fun l hl0=>?_))
 obtain ⟨hl,h3,hcol⟩:=hl0
 obtain ⟨H,e1,e2,e3,e4,e5,e6⟩:=id hd
 have hpow:2 ^ H ≤ 2 ^ 8:=Nat.pow_le_pow_right (by omega) e3
 rw [e1,w64_id (n:=(H:Int) - 1) (by omega) (by omega)]
 refine Yes.bind ((w6 e2 e3).mono fun r hr2=>qbind _ (w8 hd) (Yes.bind ((w7 hr2.2 hd e1).mono fun cl hcl=>Yes.jn ?_)))
 refine Yes.bind (qskip (by rw [hr2.1]; rfl) (qskip (by rw [hcl.1]; rfl) (Yes.some (qskip (by rw [hcl.2]; simp) ?_))))
 refine Yes.bind ((w9 e5 (fun r hr=>by have:=e6 r hr; omega)).mono fun cs hcs=>?_)
 obtain ⟨hclen,hcc⟩:=hcs
 have hall:∀ {cs':List Int},(∀ c ∈ cs',c ∈ cs)→cs'.all (btw 0 9)=true:=fun h=>List.all_eq_true.2 fun c hc=>btw_iff.2 (by have:=hcc c (h c hc); omega)
 have hrf:=rf_ok cs (by omega) hl
 refine qbind _ (w11 hl.sml) (qbind _ (w12 cs (by omega)) (qbind _ (s17 hl (by omega) (hall fun _ h=>h)) (Yes.bind (Yes.mono (Q':=fun r=>PlanOk l r.1 r.2.1∧r.2.2=0∧r.1.length ≤ cs.length) ?_ fun r hr=>?_))))
 ·by_cases hfar : (rf cs l).2.2 = cs.length
  ·rw [if_pos hfar]
   exact Yes.bind (qskip rfl (Yes.some (qskip rfl (Yes.some ⟨plan_of hl (show cs.length ≤ 12 by omega) (hrf.all.2 hfar),rfl,Nat.le_refl _⟩))))
  ·rw [if_neg hfar]
   obtain ⟨k,hk,hkl⟩:∃ k:Nat,(rf cs l).2.2=(k:Int)∧k < cs.length:=⟨(rf cs l).2.2.toNat,by have:=hrf.far; omega,by have:=hrf.far; omega⟩
   simp only [hk]
   refine Yes.bind (qtake rfl (qtake (decide_eq_true (by omega)) (Yes.some (qtake (decide_eq_true (by omega)) ?_))))
   have hcut:cut cs 0 (k:Int)=some (cs.take k):=by unfold cut; rw [if_pos ⟨by omega,by omega,by omega⟩]; simp
   have hlt:=(hrf.pre k (by omega)).2 (by omega)
   refine qbind _ hcut (qbind _ (w11 hl.sml) (qbind _ (w12 _ (by simp; omega)) (qbind _ (s17p hl (by simp; omega) (hall fun _ h=>List.mem_of_mem_take h) hlt) (Yes.some ⟨plan_of hl (by simp; omega) hlt,rfl,by simp; omega⟩))))
 obtain ⟨co,ps,e⟩:=r
 obtain ⟨⟨hps,⟨nl,hth⟩,hok,hmap⟩,he,hco⟩:=hr
 simp only at hps hth hok he hmap hco
 subst he
 have ap:apnd 16 ([]:List BoxPick) ps=some ps:=Yes.eq (Yes.apnd (by simp; omega) (by simp; omega) rfl)
 have t40:f13 l ps=some ((thl l ps).map (colr l),nl,mvt l ps,0,0):=by rw [s40 hl hok (by omega),hth]
 have t29:f14 l ps=some (yl l (thl l ps),0,0):=by rw [s29 hl hok (by omega),hth]
 have htl:∀ i ∈ thl l ps,i < 3:=fun i hi=>by have:=thl_lt hl hok i hi; omega
 have hlen:=thl_length hth
 have hcs':co=(thl l ps).map fun i:Nat=>(i:Int):=by
  rw [← hmap]
  exact List.map_congr_left fun i hi=>by rw [colr_at (by have:=htl i hi; omega)]; exact hcol i _
 have t16:f16 ((thl l ps).map (colr l)) co=some true:=by rw [hmap]; exact w16 (by omega)
 refine qbind _ (w11 hl.sml) (qbind _ ap (qbind _ t40 (qbind _ (w11 hl.sml) (qbind _ ap (qbind _ t29 (qbind _ (w11 hl.sml) (qbind _ ap (Yes.bind ((s30 hl hok (by omega)).mono fun o hout=>?_)))))))))
 rw [hth] at hout
 obtain ⟨p,q,e⟩:=o
 obtain ⟨_,o2,o3⟩:=hout
 simp only at o2 o3
 subst o3
 have hyl:(yl l (thl l ps)).length=3:=by rw [yl_len]; exact h3
 refine Yes.jn (Yes.bind (qskip rfl (qskip rfl (qskip rfl (qskip rfl (qbind _ t16 (qskip rfl (Yes.some (qskip (by simp only [hyl]; rfl) ?_)))))))))
 generalize hT:thl l ps=t at htl hlen hcs' hyl o2
 clear t16 t29 t40 hmap
 have hH:∀ i,i < 3→0 ≤ bnd l true i∧bnd l true i ≤ 1000:=fun i hi=>by
  have:=yarn_rng hl (i:=i) (by omega)
  rw [bnd_at (by omega)]; exact ⟨by simp only [cond_true]; omega,by simp only [cond_true]; omega⟩
 have hcnt:∀ i,t.count i ≤ 12:=fun i=>Nat.le_trans List.count_le_length (by omega)
 have hcolen:co.length=t.length:=by rw [hcs']; simp
 refine Yes.jn (Yes.upto 3 (by omega) (fun i g=>g=goneS (bnd l true) (fun s=>t.count s) i) rfl (fun i g k hi hI hk=>?_) (fun g k hI=>?_))
 ·refine qtake (decide_eq_true (by omega)) (Yes.jn (Yes.bind (Yes.mono (Q' := fun n => n = ((t.count i : Nat) : Int)) ?_ fun n hn => ?_)))
  ·refine Yes.upto co.length (by omega) (fun j n => n = (((co.take j).count (i : Int) : Nat) : Int)) (by simp) (fun j n k2 hj hJ hk2 => ?_) (fun n k2 hJ => ?_)
   ·refine Yes.jn (qtake (decide_eq_true (by omega)) (Yes.bind (qbind _ (qidx hj) (Yes.cond (fun hc => Yes.some (hk2 _ ?_)) (fun hc => Yes.some (hk2 _ ?_))))))
    ·have hc := beq_iff_eq.1 hc
     have hle:(co.take j).count (i:Int) ≤ j:=Nat.le_trans List.count_le_length (by simp; omega)
     rw [hJ,take_succ hj,List.count_append,hc,List.count_singleton_self,w64_id (by omega) (by omega)]; simp
    ·have hc : ¬ co[j] = (i : Int) := by simpa using hc
     rw [hJ,take_succ hj,List.count_append,List.count_singleton]; simp [hc]
   ·refine Yes.jn (qskip (decide_eq_false (by omega)) (Yes.some ?_))
    rw [hJ,List.take_length,hcs',count_cast]
  ·subst hn
   have hil:i < l.Shuttles.length:=by omega
   have hiy:i < (yl l t).length:=by omega
   have hy:=yarn_rng hl hil
   have hb:=hH i hi
   have hc12:=hcnt i
   have hg:=goneS_rng (c:=fun s=>t.count s) hH i (by omega)
   have hval:((yl l t)[i]).High=max 0 (l.Shuttles[i].Yarn.High - ((t.count i:Nat):Int)):=by rw [yl_at hiy hil]; rfl
   rw [bnd_at hil] at hb
   simp only [cond_true] at hb
   refine qbind _ (qidx hil) (Yes.jn (qbind _ (qidx hiy) (qskip ?_ (qbind _ (qidx hiy) (hk _ ?_)))))
   ·rw [hval,max64_eq,w64_id (by omega) (by omega)]; simp
   ·rw [hval, w64_id (n := l.Shuttles[i].Yarn.High - _) (by omega) (by omega), hI, w64_id (by omega) (by omega)]
    rw [show goneS (bnd l true) (fun s=>t.count s) (i + 1)=goneS (bnd l true) (fun s=>t.count s) i + min (bnd l true i) ((t.count i:Nat):Int) from rfl,bnd_at hil]
    simp only [cond_true]
    omega
 ·have hb0 := hH 0 (by omega)
  have hb1:=hH 1 (by omega)
  have hb2:=hH 2 (by omega)
  have h3t:=len3 htl
  have hg:g=min (bnd l true 0) (t.count 0:Nat) + min (bnd l true 1) (t.count 1:Nat) + min (bnd l true 2) (t.count 2:Nat):=by rw [hI]; simp [goneS]
  have fin:Yes (bif (decide (((co).length:Int) ≤ (((cl.1:List Str)).length:Int))) then (f17).bind fun y485=>bif y485 then (f18).bind fun y488=>some (y488) else some (false) else some (false)) (fun r=>r=true):=
   qtake (decide_eq_true (by rw [hcl.2]; omega)) (qbind true pubTie_ok (qtake rfl (qbind true pubBox_ok (Yes.some rfl))))
  refine Yes.jn (qskip (decide_eq_false (by omega)) ?_)
  refine Yes.bind (Yes.mono (Q':=fun r=>r=true) ?_ fun r hr=>Yes.some hr)
  rcases o2 with ⟨rfl,hno⟩ | ⟨n,rfl,⟨hn,hout⟩,_⟩
  ·have no:∀ s,s < 3→((t.count s:Nat):Int) ≤ bnd l true s:=fun s hs=>by
    by_cases hgt:((t.count s:Nat):Int) > bnd l true s
    ·obtain ⟨i, hi, e1, e2⟩ := out_at (hH s hs).1 t.length (Nat.le_refl _) (by rw [List.take_length]; exact hgt)
     exact absurd ⟨hi,by rw [e1]; exact e2⟩ (hno i)
    ·omega
   have n0:=no 0 (by omega)
   have n1:=no 1 (by omega)
   have n2:=no 2 (by omega)
   refine qskip rfl (qtake ?_ (qtake rfl fin))
   rw [hg,hcolen,beq_iff_eq]
   omega
  ·have hs := htl _ (List.getElem_mem hn)
   have hle:(t.take (n + 1)).count t[n] ≤ t.count t[n]:=(List.take_sublist _ _).count_le _
   refine qtake (decide_eq_true (by show (n:Int) ≥ 0; omega)) (qskip (decide_eq_false (by show ¬ (n:Int) < 0; omega)) (qtake (decide_eq_true ?_) fin))
   rw [hg,hcolen]
   generalize t[n]=s at hs hout hle
   rcases (by omega:s=0 ∨ s=1 ∨ s=2) with rfl | rfl | rfl <;> omega
end Go.Proofs.YtkfdjkkbnfohjaaGreat
