/- Laws of plain functions, part 2. -/
import Derived.Test.YtjoniingnbmljaaFtT1
set_option maxRecDepth 8000
namespace Go.Proofs.Ytjoniingnbmljaa
open Go.RowKit
open Classical
theorem s55F {l:FaultLoom} (g:GoodF l) {ds ds':List Zv} (hs:f146 ds (fun a0 a1=>f147 a0 a1)=some ds') (hl:ds.length ≤ 100000) (hl':ds'.length ≤ 100000) (hall:∀ d ∈ ds',dmgF l d=true):f74 ⟨l⟩ ds=some (rndF l ds'):=by
 have hr1:=g.r1
 have hw1:=g.w1
 refine Yes.eq ?_
 unfold f74 f71 f145
 refine Yes.bind (Yes.apnd (by simp; omega) (by simp; omega) (Yes.bind (Yes.apnd (by simp; omega) (by simp; omega) ?_)))
 rw [List.nil_append,List.nil_append]
 refine Yes.bind (Yes.of hs (Yes.bind ?_))
 refine Yes.upto2 ds'.length (by omega) (fun i rows br => TbF l.Design.Hooks.toNat l.Design.Rows.length rows (afterF l (ds'.take i)).1 ∧ BrF l.Harness.Warps.length br (afterF l (ds'.take i)).2 ∧ br.length ≤ i)
  ⟨tab_goodF g,⟨fun q hq=>by (cases hq),fun w hw=>by (cases hw)⟩,Nat.le_refl _⟩ (fun i rows br k hi hI hk'=>?_) (fun rows br k hI=>?_)
 ·obtain ⟨ht, hb, hlen⟩ := hI
  refine Yes.cond (fun _=>Yes.bind (Yes.bind (Yes.idx rfl hi (Yes.bind ((sfchgF g (hall _ (List.getElem_mem hi)) ht hb).mono fun r hr=>Yes.some (hk' _ _ ?_)))))) (fun h=>absurd h (by simp; omega))
  rw [after_takeF hi]
  exact ⟨hr.1,hr.2.1,by have:=hr.2.2; omega⟩
 ·obtain ⟨ht, hb, hlen⟩ := hI
  rw [List.take_length] at ht hb
  refine Yes.cond (fun h=>absurd h (by simp)) (fun _=>Yes.some (Yes.bind (Yes.of (s82F g ht) (Yes.bind ?_))))
  simp only
  rw [show (clothOfF l.Design.Rows.length l.Harness.Warps.length fun p w=>(afterF l ds').1 p (hkF l w)).length=l.Design.Rows.length by simp [clothOfF]]
  refine Yes.upto l.Design.Rows.length (by omega) (fun i r=>r=(List.range l.Design.Rows.length).map fun p=>lineF l.Harness.Warps.length fun w=>(afterF l ds').1 p (hkF l w) && !(decide (p < i) && (afterF l ds').2 w)) ?_ (fun i r k hi hI hk'=>?_) (fun r k hI=>?_)
  ·simp [clothOfF]
  ·subst hI
   refine Yes.cond (fun _=>Yes.bind (Yes.bind (Yes.idx rfl (by simpa using hi) (Yes.bind ?_)))) (fun h=>absurd h (by simp; omega))
   simp only [List.getElem_map,List.getElem_range]
   refine Yes.of (dotsF hb _ (by omega)) (Yes.bind (Yes.idx rfl (by simpa using hi) (Yes.some (hk' _ ?_))))
   rw [Int.toNat_natCast]
   refine List.ext_getElem (by simp) fun p h1 h2=>?_
   simp only [List.length_set,List.length_map,List.length_range] at h1
   rw [List.getElem_set]
   simp only [List.getElem_map,List.getElem_range]
   by_cases hpi:i=p
   ·subst hpi
    rw [if_pos rfl]
    show lineF _ _=lineF _ _
    congr 1; funext w; simp
   ·rw [if_neg hpi]
    congr 1; funext w
    have:(decide (p < i + 1))=decide (p < i):=by
     rw [Bool.eq_iff_iff]; simp; omega
    rw [this]
  ·subst hI
   refine Yes.cond (fun h=>absurd h (by simp)) (fun _=>Yes.some (Yes.some ?_))
   unfold rndF clothOfF
   refine List.map_congr_left fun p hp=>?_
   have hp:=List.mem_range.1 hp
   congr 1; funext w; simp [hp]
theorem lp_bigF {σ ρ:Type} (body:(σ→Option ρ)→σ→Option ρ) (s:σ):lp body big s=body (lp body 18446744073709551615) s:=by
 rw [show big=18446744073709551615 + 1 by unfold big; rfl]; rfl
theorem s107_fewF (xs:List Zv) (n:Int) (hn:n ≤ 1) (φ:Zv→Zv→Option Int):f270 xs 0 n φ=some xs:=by
 unfold f270
 rw [lp_bigF,w64_id (n:=0 + 1) (by decide) (by decide)]
 have:decide ((0:Int) + 1 < n)=false:=by simp; omega
 simp only [jn,this,cond_false]
theorem s96_fewF (xs:List Zv) (n:Int) (hn:n < 20) (φ:Zv→Zv→Option Int) (ys:List Zv) (h:f270 xs 0 n φ=some ys):f223 xs n φ=some ys:=by
 unfold f223
 rw [lp_bigF]
 have h1:decide ((20:Int) ≤ n)=false:=by simp; omega
 simp only [jn,h1,cond_false,Option.bind_some,h]
 rw [lp_bigF]
 have h2:decide ((20:Int) < n)=false:=by simp; omega
 simp only [h2,cond_false]
theorem s78_nilF:f146 [] (fun a0 a1=>f147 a0 a1)=some []:=by
 unfold f146; rw [s96_fewF [] _ (by simp) _ [] (s107_fewF _ _ (by simp) _)]; rfl
theorem s78_oneF (d:Zv):f146 [d] (fun a0 a1=>f147 a0 a1)=some [d]:=by
 unfold f146; rw [s96_fewF [d] _ (by simp) _ [d] (s107_fewF _ _ (by simp) _)]; rfl
theorem cloth_lenF (n m:Nat) (c:Nat→Nat→Bool):(clothOfF n m c).length=n:=by simp [clothOfF]
theorem cloth_atF {n m:Nat} {c:Nat→Nat→Bool} {i:Nat} (h:i < (clothOfF n m c).length):(clothOfF n m c)[i]=lineF m (c i):=by simp [clothOfF]
def rcF (l:FaultLoom) (ds:List Zv) (p w:Nat):Bool:=(afterF l ds).1 p (hkF l w) && !(afterF l ds).2 w
theorem rnd_isF (l:FaultLoom) (ds:List Zv):rndF l ds=clothOfF l.Design.Rows.length l.Harness.Warps.length (rcF l ds):=rfl
theorem chk_goodF {l:FaultLoom} {ds:List Zv} (h:chkEF l ds=0):GoodF l∧ds.length ≤ 100∧∀ d ∈ ds,dmgF l d=true:=by
 unfold chkEF at h
 split at h
 ·rename_i h1; exact absurd h h1
 rename_i h1
 have h1:=Decidable.not_not.1 h1
 split at h
 ·cases h
 split at h
 ·rename_i h2 h3; exact ⟨good_ofF h1,by omega,List.all_eq_true.1 h3⟩
 ·cases h
theorem rem_natF {a b:Nat} (hb:0 < b):rem64 (a:Int) (b:Int)=some ((a % b:Nat):Int):=by
 unfold rem64
 rw [if_neg (by omega),Int.tmod_eq_emod_of_nonneg (by omega)]
 rfl
def openEF (l:FaultLoom) (ds:List Zv) (k:Int):Int:=if chkEF l ds ≠ 0 then chkEF l ds else if btwF 1 120 k then 0 else 3
theorem s54F (l:FaultLoom) (ds:List Zv) (k:Int):f73 l ds k=some (openEF l ds k):=by
 refine Yes.eq ?_
 unfold f73
 refine Yes.jn (Yes.bind (Yes.of (s18F _ _) (Yes.cond (fun h=>Yes.some ?_) (fun h=>Yes.jn (Yes.bind (Yes.of (s62F 1 120 [k] (by simp)) (Yes.cond (fun h2=>Yes.some ?_) (fun h2=>Yes.some ?_))))))))
 ·have h : chkEF l ds ≠ 0 := by simpa using h
  unfold openEF; rw [if_pos h]
 all_goals
  have h:¬ chkEF l ds ≠ 0:=by simpa using h
  simp only [List.all_cons,List.all_nil,Bool.and_true,← btwF.eq_1] at h2
 ·have h2 : btwF 1 120 k = false := by simpa using h2
  unfold openEF; rw [if_neg h,h2]; rfl
 ·have h2 : btwF 1 120 k = true := by simpa using h2
  unfold openEF; rw [if_neg h,h2]; rfl
def cthNF (l:FaultLoom) (ds:List Zv) (k:Nat):List Str:=clothOfF k l.Harness.Warps.length fun p w=>rcF l ds (p % l.Design.Rows.length) w
theorem s19F {l:FaultLoom} {ds ds':List Zv} {k:Int} (hs:f146 ds (fun a0 a1=>f147 a0 a1)=some ds') (hl':ds'.length ≤ 100000) (hall:∀ d ∈ ds',dmgF l d=true) (ho:openEF l ds k=0):f14 l ds k=some (cthNF l ds' k.toNat,0):=by
 have hc:chkEF l ds=0:=by
  unfold openEF at ho
  split at ho
  ·rename_i h1; exact absurd ho h1
  ·rename_i h1; exact Decidable.not_not.1 h1
 have hkF:1 ≤ k∧k ≤ 120:=by
  unfold openEF at ho
  rw [if_neg (fun hh=>hh hc)] at ho
  split at ho
  ·rename_i hb; simpa [btwF] using hb
  ·cases ho
 obtain ⟨g,hlen,hd⟩:=chk_goodF hc
 refine Yes.eq ?_
 unfold f14
 refine Yes.jn (Yes.bind (Yes.of (s54F l ds k) (Yes.cond (fun h=>absurd (by simpa using h) (by rw [ho]; simp)) (fun _=>Yes.bind (Yes.of (s55F g hs (by omega) hl' hall) (Yes.bind ?_))))))
 rw [rnd_isF]
 have hr0:=g.r0
 have hr1:=g.r1
 obtain ⟨kn,rfl⟩:=Int.eq_ofNat_of_zero_le (show 0 ≤ k by omega)
 rw [Int.toNat_natCast,cloth_lenF]
 refine Yes.upto kn (by omega) (fun i r=>r=cthNF l ds' i) rfl (fun i r k2 hi hI hk2=>?_) (fun r k2 hI=>?_)
 ·subst hI
  have hlt:i % l.Design.Rows.length < l.Design.Rows.length:=Nat.mod_lt _ hr0
  refine Yes.cond (fun _=>Yes.bind (Yes.bind (Yes.of (rem_natF hr0) (Yes.bind (Yes.idx rfl (by rw [cloth_lenF]; exact hlt) ?_))))) (fun h=>absurd h (by simp; omega))
  rw [cloth_atF]
  refine Yes.bind (Yes.apnd (by unfold cthNF; rw [cloth_lenF]; simp; omega) (by unfold cthNF; rw [cloth_lenF]; simp; omega) (Yes.some (hk2 _ ?_)))
  unfold cthNF clothOfF
  rw [List.range_succ,List.map_append]; rfl
 ·subst hI
  exact Yes.cond (fun h=>absurd h (by simp)) (fun _=>Yes.some (Yes.some rfl))
theorem open_okF {l:FaultLoom} {ds:List Zv} {k:Int} (hc:chkEF l ds=0) (h1:1 ≤ k) (h2:k ≤ 120):openEF l ds k=0:=by
 unfold openEF; rw [if_neg (fun hh=>hh hc),if_pos (by simp [btwF]; omega)]
theorem chk_okF {l:FaultLoom} {ds:List Zv} (g:loomEF l=0) (hl:ds.length ≤ 100) (hd:∀ d ∈ ds,dmgF l d=true):chkEF l ds=0:=by
 unfold chkEF; rw [if_neg (fun hh=>hh g),if_neg (by omega),if_pos (List.all_eq_true.2 hd)]
theorem rc_nilF (l:FaultLoom) (p w:Nat):rcF l [] p w=tabF l p (hkF l w):=by simp [rcF,afterF]
theorem rc_oneF (l:FaultLoom) (d:Zv) (p w:Nat):rcF l [d] p w=(actTF l d (tabF l) p (hkF l w) && !actBF d (fun _=>false) w):=by simp [rcF,afterF]
theorem cthN_atF {l:FaultLoom} {ds:List Zv} {k p:Nat} (h:p < (cthNF l ds k).length) (hk2:k ≤ l.Design.Rows.length):(cthNF l ds k)[p]=lineF l.Harness.Warps.length (rcF l ds p):=by
 have h1:=cloth_atF (n:=k) (m:=l.Harness.Warps.length) (c:=fun p w=>rcF l ds (p % l.Design.Rows.length) w) h
 have hlt:p < k:=by unfold cthNF at h; rwa [cloth_lenF] at h
 simp only [Nat.mod_eq_of_lt (show p < l.Design.Rows.length by omega)] at h1
 exact h1
theorem cthN_lenF (l:FaultLoom) (ds:List Zv) (k:Nat):(cthNF l ds k).length=k:=by unfold cthNF; rw [cloth_lenF]
theorem skipF {α:Type} {Q:α→Prop} {c:Bool} {X Y:Option α} (hc:c=false) (h:Yes Y Q):Yes (bif c then X else Y) Q:=by rw [hc]; exact h
theorem takeF {α:Type} {Q:α→Prop} {c:Bool} {X Y:Option α} (hc:c=true) (h:Yes X Q):Yes (bif c then X else Y) Q:=by rw [hc]; exact h
theorem bindvF {α β:Type} {Q:β→Prop} {x:Option α} {f:α→Option β} (a:α) (h:x=some a) (k:Yes (f a) Q):Yes (x.bind f) Q:=by rw [h]; exact k
theorem tidxF {α:Type} {xs:List α} {i:Nat} (h:i < xs.length):idx xs (i:Int)=some xs[i]:=by unfold idx; rw [if_pos (Int.natCast_nonneg i)]; exact List.getElem?_eq_getElem h
theorem rem_isF {a b:Int} (ha:0 ≤ a) (hb:0 < b):rem64 a b=some (a % b):=by
 unfold rem64
 rw [if_neg (by omega),Int.tmod_eq_emod_of_nonneg ha]
theorem tw64F {n:Int} (h1:-1000000000 ≤ n) (h2:n ≤ 1000000000):w64 n=n:=w64_id (by omega) (by omega)
theorem apnd8F {xs:List Int} {y:Int} (h:xs.length ≤ 1000):apnd 8 xs [y]=some (xs ++ [y]):=Yes.eq (Yes.apnd (by simp; omega) (by simp; omega) rfl)
structure ArmF (l : FaultLoom) : Prop where
 ok:loomEF l=0
 r10:l.Design.Rows.length ≤ 10
 r1:1 ≤ l.Design.Rows.length
 w1:1 ≤ l.Harness.Warps.length
 w30:l.Harness.Warps.length ≤ 30
 hkF:l.Harness.Hooks=l.Design.Hooks∧1 ≤ l.Design.Hooks∧l.Design.Hooks ≤ 12
theorem arm_harnessF (x:Loom):Yes (f54 x) fun h=>h.Hooks=1 + ((x.Hooks.toNat:Nat):Int) % 12∧1 ≤ h.Warps.length∧h.Warps.length ≤ 30∧∀ w ∈ h.Warps,0 ≤ w∧w < h.Hooks:=by
  unfold f54
  have hr:rem64 ((x.Hooks.toNat:Nat):Int) 12=some (((x.Hooks.toNat:Nat):Int) % 12):=rem_isF (by omega) (by omega)
  refine bindvF _ hr ?_
  generalize hh:((x.Hooks.toNat:Nat):Int) % 12=r
  have hr0:0 ≤ r∧r < 12:=by rw [← hh]; exact ⟨Int.emod_nonneg _ (by omega),Int.emod_lt_of_pos _ (by omega)⟩
  rw [tw64F (n:=1 + r) (by omega) (by omega)]
  refine Yes.bind ?_
  refine Yes.upto (σ:=TieHarness) 30 (by omega) (fun i h=>h.Hooks=1 + r∧h.Warps.length=i∧∀ w ∈ h.Warps,0 ≤ w∧w < 1 + r) ⟨rfl,rfl,fun w hw=>by cases hw⟩ (fun i h k hi hI hkF=>?_) (fun h k hI=>?_)
  · obtain ⟨h1, h2, h3⟩ := hI
    refine Yes.jn ?_
    have hgo:∀ {Q:TieHarness→Prop},(∀ y,0 ≤ y→y < 1 + r→Yes (k ({ h with Warps:=h.Warps ++ [y] },w64 ((i:Int) + 1))) Q)→Yes (Option.bind (α:=TieHarness) (
     Option.bind (α:=Int) (
      bif (decide ((i : Int) < (((x).Warps).length : Int))) then
       (idx ((x).Warps) (i:Int)).bind fun n7=>
       (rem64 ((n7).toNat:Int) (h).Hooks).bind fun o7=>
       some (o7)
      else
       some ((0:Int))
      ) fun i5=>
     (apnd 8 ((h).Warps) (([i5]:List Int))).bind fun o8=>
     some ({ h with Warps:=o8 })
     ) fun l5=>
    k (l5,(w64 ((i:Int) + (1:Int))))) Q:=fun hy=>by
      by_cases hx:i < x.Warps.length
      · have hrm : rem64 ((x.Warps[i].toNat : Nat) : Int) h.Hooks = some (((x.Warps[i].toNat : Nat) : Int) % h.Hooks) := rem_isF (by omega) (by omega)
        refine Yes.bind (Yes.bind (takeF (decide_eq_true (Int.ofNat_lt.2 hx)) (bindvF _ (tidxF hx) (bindvF _ hrm (Yes.some (bindvF _ (apnd8F (by omega)) (Yes.some ?_)))))))
        exact hy _ (Int.emod_nonneg _ (by omega)) (by rw [← h1]; exact Int.emod_lt_of_pos _ (by omega))
      · refine Yes.bind (Yes.bind (skipF (decide_eq_false (by omega)) (Yes.some (bindvF _ (apnd8F (by omega)) (Yes.some ?_)))))
        exact hy _ (by omega) (by omega)
    have hnext:∀ y,0 ≤ y→y < 1 + r→_:=fun y hy1 hy2=>hkF { h with Warps:=h.Warps ++ [y] } ⟨h1,by simp [h2],fun w hw=>by
      rcases List.mem_append.1 hw with hw | hw
      · exact h3 w hw
      · rw [List.mem_singleton.1 hw]; exact ⟨hy1,hy2⟩⟩
    by_cases h0:i=0
    · subst h0
      refine bindvF true rfl (takeF rfl ?_)
      exact hgo hnext
    · by_cases hx : i < x.Warps.length
      · refine bindvF true ?_ (takeF rfl ?_)
        · have : ((i : Int) == 0) = false := by rw [beq_eq_false_iff_ne]; omega
          rw [this,decide_eq_true (Int.ofNat_lt.2 hx),decide_eq_true (show (i:Int) < 30 by omega)]; rfl
        · exact hgo hnext
      · refine bindvF false ?_ (skipF rfl (Yes.some (Yes.some ⟨h1, by omega, by omega, fun w hw => by rw [h1]; exact h3 w hw⟩)))
        have:((i:Int) == 0)=false:=by rw [beq_eq_false_iff_ne]; omega
        rw [this,decide_eq_false (show ¬ (i:Int) < (x.Warps.length:Int) by omega)]; rfl
  · obtain ⟨h1, h2, h3⟩ := hI
    refine Yes.jn (bindvF false ?_ (skipF rfl (Yes.some (Yes.some ⟨h1,by omega,by omega,fun w hw=>by rw [h1]; exact h3 w hw⟩))))
    cases decide (((30:Nat):Int) < (x.Warps.length:Int)) <;> rfl
theorem wu64_idF {n:Int} (h1:0 ≤ n) (h2:n ≤ 9223372036854775807):wu64 n=n:=by
 unfold wu64; rw [IntKind.wrap_u64]; omega
theorem arm_designF (x:Loom):Yes (f55 x) fun d=>d.Hooks=1 + ((x.Hooks.toNat:Nat):Int) % 12∧1 ≤ d.Rows.length∧d.Rows.length ≤ 10∧∀ w ∈ d.Rows,0 ≤ w∧w ≤ 2 ^ d.Hooks.toNat - 1:=by
  unfold f55
  have hr:rem64 ((x.Hooks.toNat:Nat):Int) 12=some (((x.Hooks.toNat:Nat):Int) % 12):=rem_isF (by omega) (by omega)
  refine bindvF _ hr ?_
  generalize hh:((x.Hooks.toNat:Nat):Int) % 12=r
  have hr0:0 ≤ r∧r < 12:=by rw [← hh]; exact ⟨Int.emod_nonneg _ (by omega),Int.emod_lt_of_pos _ (by omega)⟩
  rw [tw64F (n:=1 + r) (by omega) (by omega)]
  refine Yes.bind ?_
  refine Yes.upto (σ:=Design) 10 (by omega) (fun i h=>h.Hooks=1 + r∧h.Rows.length=i∧∀ w ∈ h.Rows,0 ≤ w∧w ≤ 2 ^ (1 + r).toNat - 1) ⟨rfl,rfl,fun w hw=>by cases hw⟩ (fun i h k hi hI hkF=>?_) (fun h k hI=>?_)
  · obtain ⟨h1, h2, h3⟩ := hI
    refine Yes.jn ?_
    have hgo:∀ {Q:Design→Prop},(∀ y,0 ≤ y→y ≤ 2 ^ (1 + r).toNat - 1→Yes (k ({ h with Rows:=h.Rows ++ [y] },w64 ((i:Int) + 1))) Q)→Yes (Option.bind (α:=Design) (
     Option.bind (α:=Int) (
      bif (decide ((i : Int) < (((x).Rows).length : Int))) then
       (idx ((x).Rows) (i:Int)).bind fun d7=>
       some (((d7).toNat:Int))
      else
       some ((21:Int))
      ) fun j3=>
     (shl64 (1:Int) (wu64 (h).Hooks)).bind fun l5=>
     (apnd 8 ((h).Rows) (([(bit64 .and j3 (w64 (l5 - (1:Int))))]:List Int))).bind fun o8=>
     some ({ h with Rows:=o8 })
     ) fun z4=>
    k (z4,(w64 ((i:Int) + (1:Int))))) Q:=fun {Q} hy=>by
      have hp:(2:Int) ^ (1 + r).toNat=((2 ^ (1 + r).toNat:Nat):Int):=by simp
      have hsm:=pow_smallF (n:=1 + r) (by omega) (by omega)
      have hsh:shl64 1 (wu64 h.Hooks)=some ((2 ^ (1 + r).toNat:Nat):Int):=by rw [h1,wu64_idF (by omega) (by omega),shl_oneF (by omega) (by omega),hp]
      have hand:∀ a:Nat,a < 2 ^ 62→Yes (Option.bind (some (a:Int)) fun j3=>(shl64 (1:Int) (wu64 (h).Hooks)).bind fun l5=>(apnd 8 ((h).Rows) (([(bit64 .and j3 (w64 (l5 - (1:Int))))]:List Int))).bind fun o8=>some ({ h with Rows:=o8 })) fun z4=>Yes (k (z4,(w64 ((i:Int) + (1:Int))))) Q:=fun a ha=>by
        have hw:w64 (((2 ^ (1 + r).toNat:Nat):Int) - 1)=((2 ^ (1 + r).toNat - 1:Nat):Int):=by rw [tw64F (by omega) (by omega)]; omega
        refine bindvF _ rfl (bindvF _ hsh ?_)
        rw [hw,and64F ha (by rw [pow62F]; omega),apnd8F (by omega)]
        refine bindvF _ rfl (Yes.some (hy _ (by omega) ?_))
        have:=Nat.and_le_right (n:=a) (m:=2 ^ (1 + r).toNat - 1)
        rw [hp]; omega
      refine Yes.bind ?_
      by_cases hx:i < x.Rows.length
      · have e:(bif (decide ((i:Int) < (((x).Rows).length:Int))) then (idx ((x).Rows) (i:Int)).bind fun d7=>some (((d7).toNat:Int)) else some ((21:Int)))=some ((x.Rows[i].toNat:Nat):Int):=by
          rw [decide_eq_true (Int.ofNat_lt.2 hx),cond_true,tidxF hx]; rfl
        rw [e]
        refine hand _ ?_
        have:=x.Rows[i].toNat_lt
        rw [pow62F]; omega
      · have e:(bif (decide ((i:Int) < (((x).Rows).length:Int))) then (idx ((x).Rows) (i:Int)).bind fun d7=>some (((d7).toNat:Int)) else some ((21:Int)))=some (((21:Nat):Nat):Int):=by
          rw [decide_eq_false (by omega)]; rfl
        rw [e]
        exact hand 21 (by decide)
    have hnext:∀ y:Int,0 ≤ y→y ≤ 2 ^ (1 + r).toNat - 1→_:=fun y hy1 hy2=>hkF { h with Rows:=h.Rows ++ [y] } ⟨h1,by simp [h2],fun w hw=>by
      rcases List.mem_append.1 hw with hw | hw
      · exact h3 w hw
      · rw [List.mem_singleton.1 hw]; exact ⟨hy1,hy2⟩⟩
    by_cases h0:i=0
    · subst h0
      refine bindvF true rfl (takeF rfl ?_)
      exact hgo hnext
    · by_cases hx : i < x.Rows.length
      · refine bindvF true ?_ (takeF rfl ?_)
        · have : ((i : Int) == 0) = false := by rw [beq_eq_false_iff_ne]; omega
          rw [this,decide_eq_true (Int.ofNat_lt.2 hx),decide_eq_true (show (i:Int) < 10 by omega)]; rfl
        · exact hgo hnext
      · refine bindvF false ?_ (skipF rfl (Yes.some (Yes.some ⟨h1, by omega, by omega, fun w hw => by rw [h1]; exact h3 w hw⟩)))
        have:((i:Int) == 0)=false:=by rw [beq_eq_false_iff_ne]; omega
        rw [this,decide_eq_false (show ¬ (i:Int) < (x.Rows.length:Int) by omega)]; rfl
  · obtain ⟨h1, h2, h3⟩ := hI
    refine Yes.jn (bindvF false ?_ (skipF rfl (Yes.some (Yes.some ⟨h1,by omega,by omega,fun w hw=>by rw [h1]; exact h3 w hw⟩))))
    cases decide (((10:Nat):Int) < (x.Rows.length:Int)) <;> rfl
theorem arm_isF (x:Loom):Yes (f9 x) ArmF:=by
 unfold f9
 refine Yes.bind (Yes.mono (arm_harnessF x) fun h hh=>Yes.bind (Yes.mono (arm_designF x) fun d hd=>Yes.some ?_))
 obtain ⟨a1,a2,a3,a4⟩:=hh
 obtain ⟨b1,b2,b3,b4⟩:=hd
 have hr0:0 ≤ ((x.Hooks.toNat:Nat):Int) % 12∧((x.Hooks.toNat:Nat):Int) % 12 < 12:=⟨Int.emod_nonneg _ (by omega),Int.emod_lt_of_pos _ (by omega)⟩
 refine ⟨?_,b3,b2,a2,a3,by simp only; omega,by simp only; omega,by simp only; omega⟩
 have t:tieEF h=0:=by
  unfold tieEF
  rw [if_pos (by simp [btwF]; omega),if_neg (by omega),if_neg (by omega),if_pos]
  exact List.all_eq_true.2 fun w hw=>by have:=a4 w hw; simp [btwF]; omega
 have e:desEF d=0:=by
  unfold desEF
  rw [if_pos (by simp [btwF]; omega),if_neg (by omega),if_neg (by omega),if_pos]
  exact List.all_eq_true.2 fun w hw=>by have:=b4 w hw; simp [btwF]; omega
 unfold loomEF
 simp only [t,e]
 rw [if_neg (fun h=>h rfl),if_neg (fun h=>h rfl),if_neg (by omega)]
theorem copy_isF (l:FaultLoom) (h1:l.Harness.Warps.length ≤ 1000) (h2:l.Design.Rows.length ≤ 1000):f15 l=some l:=by
 have ha:∀ xs:List Int,xs.length ≤ 1000→f11 xs=some xs:=fun xs h=>by
  unfold f11
  exact Yes.eq (Yes.bind (Yes.apnd (by simp; omega) (by simp; omega) (Yes.some (by simp))))
 unfold f15 f30 f31
 rw [ha _ h1,ha _ h2]
 rfl
theorem line_sameF {m:Nat} {c c':Nat→Bool} (h:∀ w,w < m→c w=c' w):lineF m c=lineF m c':=by
 unfold lineF
 congr 1
 exact List.map_congr_left fun w hw=>by rw [h w (List.mem_range.1 hw)]
end Go.Proofs.Ytjoniingnbmljaa
