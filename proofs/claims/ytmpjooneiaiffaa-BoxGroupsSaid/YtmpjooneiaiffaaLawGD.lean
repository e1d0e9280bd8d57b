/- Plain laws: box.Groups. -/
import Derived.Test.YtmpjooneiaiffaaLawGC
set_option maxRecDepth 8000
namespace Go.Proofs.Ytmpjooneiaiffaa
open Go.RowKit
open Classical

theorem s64 (xs:List (List Int)) (φ:List Int→Option Bool) (p:List Int→Bool) (hl:xs.length < 9223372036854775807) (h:∀ a ∈ xs,φ a=some (p a)):f64 xs φ=some (xs.any p):=
 Yes.eq (Yes.bind (Yes.mono (index_is xs φ p hl h) fun _ hr=>Yes.some (index_any hr)))
theorem flat_take {gs:List (List Int)} {i:Nat} (h:i < gs.length):(gs.take (i + 1)).flatten=(gs.take i).flatten ++ gs[i]:=by
 rw [List.take_succ_eq_append_getElem h,List.flatten_append]; congr 1; simp
theorem flat_le {n : Nat} : ∀ {gs : List (List Int)}, (∀ g ∈ gs, g.length ≤ n) → gs.flatten.length ≤ gs.length * n
 | [],_=>by simp
 | g :: gs,h=>by
  have:=flat_le (gs:=gs) fun x hx=>h x (by simp [hx])
  have:=h g (by simp)
  rw [List.flatten_cons,List.length_append,List.length_cons,Nat.succ_mul]; omega
theorem flat_tk {n:Nat} {gs:List (List Int)} (h:∀ g ∈ gs,g.length ≤ n) (i:Nat):(gs.take i).flatten.length ≤ gs.length * n:=by
 have h1:=flat_le (n:=n) (gs:=gs.take i) fun g hg=>h g (List.mem_of_mem_take hg)
 have h2:(gs.take i).length ≤ gs.length:=by rw [List.length_take]; omega
 exact Nat.le_trans h1 (Nat.mul_le_mul_right _ h2)
theorem s91 {n:Int} (h:0 ≤ n∧n ≤ 1000):f91 n=some []:=by
 unfold f91
 rw [decide_eq_false (show ¬ n < 0 by omega)]
 simp only [cond_false,Option.bind_some]
 have e:w64 (n - w64 (((0:Nat):Int) - (([]:List Int).length:Int)))=n:=by
  rw [show (((0:Nat):Int) - (([]:List Int).length:Int))=0 by simp,Wi (n:=0) (by omega) (by omega),Int.sub_zero,Wi (by omega) (by omega)]
 rw [e]
 by_cases h0:n > 0
 ·rw [decide_eq_true h0, cond_true]
  have:grwz 8 n=some ():=by unfold grwz; rw [if_pos ⟨by omega,by omega,by omega⟩]
  rw [this]; rfl
 ·rw [decide_eq_false h0]; rfl
theorem Yes.callL {α β:Type} {rs:List α} {k:α→Option β} {Q:β→Prop} (hu:∀ a b,Q a→Q b→a=b) (hne:rs ≠ []) (h:∀ a ∈ rs,Yes (k a) Q):Yes (Go.Proofs.Ytmpjooneiaiffaa.callL rs k) Q:=by
 obtain ⟨a,ha⟩:=List.exists_mem_of_ne_nil _ hne
 obtain ⟨b,hb,hq⟩:=h a ha
 refine ⟨b,callL_eq hne fun c hc=>?_,hq⟩
 obtain ⟨d,hd,hq'⟩:=h c hc
 rw [hd,hu d b hq' hq]
theorem s66 {gs:List (List Int)} (h:gs.length ≤ 12) (h3:∀ g ∈ gs,g.length ≤ 12):Yes (f66 gs) (fun r=>r=gs.flatten):=by
 have hb:=flat_tk h3
 unfold f66
 refine Yes.bind (Yes.mono (Q':=fun n=>n=(gs.flatten.length:Int)) ?_ fun n hn=>?_)
 ·refine Yes.upto gs.length (by omega) (fun i s => s = (((gs.take i).flatten.length : Nat) : Int)) (by simp) (fun i s k hi hI hk => ?_) (fun s k hI => ?_)
  ·subst hI
   have h1:=hb i
   have h2:=h3 _ (List.getElem_mem hi)
   have hw:w64 ((((gs.take i).flatten.length:Nat):Int) + (gs[i].length:Int))=(((gs.take (i + 1)).flatten.length:Nat):Int):=by
    rw [Wi (by omega) (by omega),flat_take hi,List.length_append]; omega
   refine Qw (decide_eq_true (by omega)) (Gp (((gs.take (i + 1)).flatten.length:Nat):Int) ?_ (hk _ rfl))
   rw [qidx hi,Option.bind_some,hw,decide_eq_false (by omega)]; rfl
  ·subst hI
   exact Qi (decide_eq_false (by omega)) (Yes.some (by rw [List.take_length]))
 ·subst hn
  have h1:=hb gs.length
  rw [List.take_length] at h1
  refine Gp [] (s91 (by omega)) (Yes.bind ?_)
  refine Yes.upto gs.length (by omega) (fun i s=>s=(gs.take i).flatten) (by simp) (fun i s k hi hI hk=>?_) (fun s k hI=>?_)
  ·subst hI
   have h1:=hb i
   have h2:=h3 _ (List.getElem_mem hi)
   refine Qw (decide_eq_true (by omega)) (Yes.bind (Yes.bind (Yes.idx rfl hi (Yes.bind (Yes.apnd (by omega) (by omega) (Yes.some (hk _ ?_)))))))
   rw [flat_take hi]
  ·subst hI
   exact Qi (decide_eq_false (by omega)) (Yes.some (Yes.some (by rw [List.take_length])))
section
variable {l:BoxLoom} {gs:List (List Int)} {V:Gd→Nat→Prop} {N:Int→Int→Int→Option (Int × Int)} {K:Nat} {first:Gd}
theorem s25 (hl : LOk l) (hg : gs.length ≤ 8) (h3 : ∀ g ∈ gs, g.length ≤ 3) (hc : ∀ g ∈ gs, g.all (btw 0 9) = true) (hN : Nx gs V N) (hf : f65 ⟨0, 0, rc l⟩ gs = some first) (hfr : first.race = rc l) (hV : V first K) (hK : K ≤ 12) (hcat : gs.flatten.length = K) :
  Yes (f25 l gs) fun r=>(Tx ≤ cs l gs K first→r=([],0,9))∧(cs l gs K first < Tx→r.2=(cs l gs K first,0)∧Opt l N K first (cs l gs K first) r.1∧∀ o,Opt l N K first (cs l gs K first) o→Lx r.1 o):=by
 have hr:Rok l first.race:=⟨l,hl,rfl,hfr⟩
 unfold f25
 refine Gp _ (s51 l hl.sml) (Yes.jn (Qi (by rw [chk0.2 hl]; rfl) (Gp false (by rw [decide_eq_false (by omega),cond_false,s64 gs _ (fun g=>decide ((g.length:Int) > 3)) (by omega) (fun g _=>by unfold f62; rfl)]; rw [Option.bind_some]; congr 1; rw [List.any_eq_false]; intro g hgm; have:=h3 g hgm; simp; omega) (Qi rfl (Gp false ?_ (Qi rfl ?_))))))
 ·rw [s64 gs _ (fun g => !g.all (btw 0 9)) (by omega) (fun g hgm => by unfold f63; rw [s52 g (by have := h3 g hgm; omega)]; rfl)]
  congr 1; rw [List.any_eq_false]; intro g hgm; rw [hc g hgm]; simp
 refine Gp _ (s56 hl) (Gp _ (s54r hl) (Gp _ hf (Yes.jn (Yes.bind ((s57 hl hN.pts K big (big_pos _ (by omega)) hl rfl hfr hV kok_nil).mono fun r hr57=>?_)))))
 obtain ⟨r1,r2⟩:=hr57
 have r1:r.1=cs l gs K first:=r1
 have rg:0 ≤ cs l gs K first∧cs l gs K first ≤ Tx:=cst_rng hl hN.pts K hl rfl hfr hV
 refine Yes.cond (fun hge=>?_) (fun hge=>?_)
 ·have : Tx ≤ cs l gs K first := by rw [← r1]; exact of_decide_eq_true hge
  exact Yes.some ⟨fun _=>rfl,fun h=>by omega⟩
 have hlt:cs l gs K first < Tx:=by have:=of_decide_eq_false hge; rw [r1] at this; unfold Tx; omega
 generalize hM:cs l gs K first=M at r1 rg hlt
 rw [r1]
 refine Yes.jn (Yes.bind ((s66 (by omega) (fun g hgm=>by have:=h3 g hgm; omega)).mono fun fl hfl=>?_))
 subst hfl
 refine Yes.mono (Q':=fun r=>r.2=(M,0)∧Opt l N K first M r.1∧∀ o,Opt l N K first M o→Lx r.1 o) ?_ fun r hr=>⟨fun h=>by omega,fun _=>hr⟩
 have huniq:∀ a b:List Int × Int × Int,(a.2=(M,0)∧Opt l N K first M a.1∧∀ o,Opt l N K first M o→Lx a.1 o)→(b.2=(M,0)∧Opt l N K first M b.1∧∀ o,Opt l N K first M o→Lx b.1 o)→a=b:=fun a b ha hb=>by
  have h1:=(ha.2.2 _ hb.2.1).eq (hb.2.2 _ ha.2.1) (by rw [ha.2.1.1.len,hb.2.1.1.len])
  exact Prod.ext h1 (ha.1.trans hb.1.symm)
 refine Yes.lp (fun s=>∃ (k:Nat) (now:List (Gd × Int)),k ≤ K∧s.2.1=some now∧s.2.2.1=((K - k:Nat):Int)∧GI l gs V N K first M k s.1 now∧KOk (nbx l 0) (nbx l 1) gs V s.2.2.2) (fun s=>K - s.2.2.1.toNat) ⟨K,[(first,0)],Nat.le_refl _,rfl,by simp,GI.start hr hV hM,r2⟩ (by simp only; omega) ?_
 rintro ⟨pre,nw,i,mm⟩ kk ⟨k,now,hk,hnw,hi,hG,hm⟩ hkk
 simp only at hnw hi hG hm
 subst hnw; subst hi
 have hlen:=hG.len
 refine Yes.cond (fun hlt2=>?_) (fun hge2=>?_)
 ·have h1 := of_decide_eq_true hlt2
  obtain ⟨k,rfl⟩:∃ k',k=k' + 1:=⟨k - 1,by omega⟩
  have hsz:now.length < 18446744073709551616:=Nat.lt_of_le_of_lt hG.sz (Nat.lt_of_le_of_lt (Nat.pow_le_pow_right (by decide) (show pre.length ≤ 12 by omega)) (by decide))
  obtain ⟨rs,hrs,hne,hall⟩:=s67 hl hN (k:=k) (M:=M) (by omega) hsz (fun e he=>by
   obtain ⟨a1,a2,a3,a4⟩:=hG.v e he
   have hcv:0 ≤ cs l gs (k + 1) e.1:=by
    obtain ⟨le,b1,b2,b3⟩:=a1
    exact (cst_rng hl hN.pts (k + 1) b1 b2 b3 a2).1
   exact ⟨a1,a2,a3,by unfold Tx at hlt; omega⟩) hm
  refine Yes.jn (Gp now rfl (Gp rs hrs (Yes.callL huniq hne fun a ha=>?_)))
  obtain ⟨hJ,hK'⟩:=hall a ha
  obtain ⟨nx,hnx,hG'⟩:=hG.step hl hN hlt hJ
  refine Yes.bind (Yes.apnd (by simp; omega) (by simp; omega) (hkk (pre ++ [a.1],a.2.1,w64 (((K - (k + 1):Nat):Int) + 1),a.2.2) ⟨k,nx,by omega,hnx,?_,hG',hK'⟩ ?_))
  ·show w64 (((K - (k + 1) : Nat) : Int) + 1) = _
   rw [Wi (by omega) (by omega)]; omega
  ·show K - (w64 (((K - (k + 1) : Nat) : Int) + 1)).toNat < K - (((K - (k + 1) : Nat) : Int)).toNat
   rw [Wi (by omega) (by omega)]; omega
 ·have h1 := of_decide_eq_false hge2
  have hk0:k=0:=by omega
  subst hk0
  obtain ⟨f1,f2⟩:=hG.fin
  exact Yes.some ⟨rfl,f1,f2⟩
end
end Go.Proofs.Ytmpjooneiaiffaa
