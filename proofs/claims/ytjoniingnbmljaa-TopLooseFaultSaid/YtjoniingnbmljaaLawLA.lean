/- Laws of plain functions: the looms that are drawn. -/
import Derived.Test.YtjoniingnbmljaaFtL2
set_option maxRecDepth 8000
namespace Go.Proofs.Ytjoniingnbmljaa
open Go.RowKit
open Classical
theorem open_okF {l:FaultLoom} {ds:List Zv} {k:Int} (hc:chkEF l ds=0) (h1:1 ≤ k) (h2:k ≤ 120):openEF l ds k=0:=by
 unfold openEF; rw [if_neg (fun hh=>hh hc),if_pos (by simp [btwF]; omega)]
theorem chk_okF {l:FaultLoom} {ds:List Zv} (g:loomEF l=0) (hl:ds.length ≤ 100) (hd:∀ d ∈ ds,dmgF l d=true):chkEF l ds=0:=by
 unfold chkEF; rw [if_neg (fun hh=>hh g),if_neg (by omega),if_pos (List.all_eq_true.2 hd)]
theorem rc_nilF (l:FaultLoom) (p w:Nat):rcF l [] p w=tabF l p (hkF l w):=by simp [rcF,afterF]
theorem rc_oneF (l:FaultLoom) (d:Zv) (p w:Nat):rcF l [d] p w=(actTF l d (tabF l) p (hkF l w) && !actBF d (fun _=>false) w):=by simp [rcF,afterF]
theorem skipF {α:Type} {Q:α→Prop} {c:Bool} {X Y:Option α} (hc:c=false) (h:Yes Y Q):Yes (bif c then X else Y) Q:=by rw [hc]; exact h
theorem takeF {α:Type} {Q:α→Prop} {c:Bool} {X Y:Option α} (hc:c=true) (h:Yes X Q):Yes (bif c then X else Y) Q:=by rw [hc]; exact h
theorem bindvF {α β:Type} {Q:β→Prop} {x:Option α} {f:α→Option β} (a:α) (h:x=some a) (k:Yes (f a) Q):Yes (x.bind f) Q:=by rw [h]; exact k
theorem tidxF {α:Type} {xs:List α} {i:Nat} (h:i < xs.length):idx xs (i:Int)=some xs[i]:=by unfold idx; rw [if_pos (Int.natCast_nonneg i)]; exact List.getElem?_eq_getElem h
theorem rem_isF {a b:Int} (ha:0 ≤ a) (hb:0 < b):rem64 a b=some (a % b):=by
 unfold rem64
 rw [if_neg (by omega),Int.tmod_eq_emod_of_nonneg ha]
theorem tw64F {n:Int} (h1:-1000000000 ≤ n) (h2:n ≤ 1000000000):w64 n=n:=w64_id (by omega) (by omega)
theorem apnd8F {xs:List Int} {y:Int} (h:xs.length ≤ 1000):apnd 8 xs [y]=some (xs ++ [y]):=Yes.eq (Yes.apnd (by simp; omega) (by simp; omega) rfl)
structure ArmF (l : FaultLoom) : Prop where
 ok:loomEF l=0
 r10:l.Design.Rows.length ≤ 10
 r1:1 ≤ l.Design.Rows.length
 w1:1 ≤ l.Harness.Warps.length
 w30:l.Harness.Warps.length ≤ 30
 hkF:l.Harness.Hooks=l.Design.Hooks∧1 ≤ l.Design.Hooks∧l.Design.Hooks ≤ 12
theorem arm_harnessF (x:Loom):Yes (f54 x) fun h=>h.Hooks=1 + ((x.Hooks.toNat:Nat):Int) % 12∧1 ≤ h.Warps.length∧h.Warps.length ≤ 30∧∀ w ∈ h.Warps,0 ≤ w∧w < h.Hooks:=by
  unfold f54
  have hr:rem64 ((x.Hooks.toNat:Nat):Int) 12=some (((x.Hooks.toNat:Nat):Int) % 12):=rem_isF (by omega) (by omega)
  refine bindvF _ hr ?_
  generalize hh:((x.Hooks.toNat:Nat):Int) % 12=r
  have hr0:0 ≤ r∧r < 12:=by rw [← hh]; exact ⟨Int.emod_nonneg _ (by omega),Int.emod_lt_of_pos _ (by omega)⟩
  rw [tw64F (n:=1 + r) (by omega) (by omega)]
  refine Yes.bind ?_
  refine Yes.upto (σ:=TieHarness) 30 (by omega) (fun i h=>h.Hooks=1 + r∧h.Warps.length=i∧∀ w ∈ h.Warps,0 ≤ w∧w < 1 + r) ⟨rfl,rfl,fun w hw=>by cases hw⟩ (fun i h k hi hI hkF=>?_) (fun h k hI=>?_)
  · obtain ⟨h1, h2, h3⟩ := hI
    refine Yes.jn ?_
    have hgo:∀ {Q:TieHarness→Prop},(∀ y,0 ≤ y→y < 1 + r→Yes (k ({ h with Warps:=h.Warps ++ [y] },w64 ((i:Int) + 1))) Q)→Yes (Option.bind (α:=TieHarness) (
     Option.bind (α:=Int) (
      bif (decide ((i : Int) < (((x).Warps).length : Int))) then
       (idx ((x).Warps) (i:Int)).bind fun n7=>
       (rem64 ((n7).toNat:Int) (h).Hooks).bind fun o7=>
       some (o7)
      else
       some ((0:Int))
      ) fun i5=>
     (apnd 8 ((h).Warps) (([i5]:List Int))).bind fun o8=>
     some ({ h with Warps:=o8 })
     ) fun l5=>
    k (l5,(w64 ((i:Int) + (1:Int))))) Q:=fun hy=>by
      by_cases hx:i < x.Warps.length
      · have hrm : rem64 ((x.Warps[i].toNat : Nat) : Int) h.Hooks = some (((x.Warps[i].toNat : Nat) : Int) % h.Hooks) := rem_isF (by omega) (by omega)
        refine Yes.bind (Yes.bind (takeF (decide_eq_true (Int.ofNat_lt.2 hx)) (bindvF _ (tidxF hx) (bindvF _ hrm (Yes.some (bindvF _ (apnd8F (by omega)) (Yes.some ?_)))))))
        exact hy _ (Int.emod_nonneg _ (by omega)) (by rw [← h1]; exact Int.emod_lt_of_pos _ (by omega))
      · refine Yes.bind (Yes.bind (skipF (decide_eq_false (by omega)) (Yes.some (bindvF _ (apnd8F (by omega)) (Yes.some ?_)))))
        exact hy _ (by omega) (by omega)
    have hnext:∀ y,0 ≤ y→y < 1 + r→_:=fun y hy1 hy2=>hkF { h with Warps:=h.Warps ++ [y] } ⟨h1,by simp [h2],fun w hw=>by
      rcases List.mem_append.1 hw with hw | hw
      · exact h3 w hw
      · rw [List.mem_singleton.1 hw]; exact ⟨hy1,hy2⟩⟩
    by_cases h0:i=0
    · subst h0
      refine bindvF true rfl (takeF rfl ?_)
      exact hgo hnext
    · by_cases hx : i < x.Warps.length
      · refine bindvF true ?_ (takeF rfl ?_)
        · have : ((i : Int) == 0) = false := by rw [beq_eq_false_iff_ne]; omega
          rw [this,decide_eq_true (Int.ofNat_lt.2 hx),decide_eq_true (show (i:Int) < 30 by omega)]; rfl
        · exact hgo hnext
      · refine bindvF false ?_ (skipF rfl (Yes.some (Yes.some ⟨h1, by omega, by omega, fun w hw => by rw [h1]; exact h3 w hw⟩)))
        have:((i:Int) == 0)=false:=by rw [beq_eq_false_iff_ne]; omega
        rw [this,decide_eq_false (show ¬ (i:Int) < (x.Warps.length:Int) by omega)]; rfl
  · obtain ⟨h1, h2, h3⟩ := hI
    refine Yes.jn (bindvF false ?_ (skipF rfl (Yes.some (Yes.some ⟨h1,by omega,by omega,fun w hw=>by rw [h1]; exact h3 w hw⟩))))
    cases decide (((30:Nat):Int) < (x.Warps.length:Int)) <;> rfl
theorem wu64_idF {n:Int} (h1:0 ≤ n) (h2:n ≤ 9223372036854775807):wu64 n=n:=by
 unfold wu64; rw [IntKind.wrap_u64]; omega
theorem arm_designF (x:Loom):Yes (f55 x) fun d=>d.Hooks=1 + ((x.Hooks.toNat:Nat):Int) % 12∧1 ≤ d.Rows.length∧d.Rows.length ≤ 10∧∀ w ∈ d.Rows,0 ≤ w∧w ≤ 2 ^ d.Hooks.toNat - 1:=by
  unfold f55
  have hr:rem64 ((x.Hooks.toNat:Nat):Int) 12=some (((x.Hooks.toNat:Nat):Int) % 12):=rem_isF (by omega) (by omega)
  refine bindvF _ hr ?_
  generalize hh:((x.Hooks.toNat:Nat):Int) % 12=r
  have hr0:0 ≤ r∧r < 12:=by rw [← hh]; exact ⟨Int.emod_nonneg _ (by omega),Int.emod_lt_of_pos _ (by omega)⟩
  rw [tw64F (n:=1 + r) (by omega) (by omega)]
  refine Yes.bind ?_
  refine Yes.upto (σ:=Design) 10 (by omega) (fun i h=>h.Hooks=1 + r∧h.Rows.length=i∧∀ w ∈ h.Rows,0 ≤ w∧w ≤ 2 ^ (1 + r).toNat - 1) ⟨rfl,rfl,fun w hw=>by cases hw⟩ (fun i h k hi hI hkF=>?_) (fun h k hI=>?_)
  · obtain ⟨h1, h2, h3⟩ := hI
    refine Yes.jn ?_
    have hgo:∀ {Q:Design→Prop},(∀ y,0 ≤ y→y ≤ 2 ^ (1 + r).toNat - 1→Yes (k ({ h with Rows:=h.Rows ++ [y] },w64 ((i:Int) + 1))) Q)→Yes (Option.bind (α:=Design) (
     Option.bind (α:=Int) (
      bif (decide ((i : Int) < (((x).Rows).length : Int))) then
       (idx ((x).Rows) (i:Int)).bind fun d7=>
       some (((d7).toNat:Int))
      else
       some ((21:Int))
      ) fun j3=>
     (shl64 (1:Int) (wu64 (h).Hooks)).bind fun l5=>
     (apnd 8 ((h).Rows) (([(bit64 .and j3 (w64 (l5 - (1:Int))))]:List Int))).bind fun o8=>
     some ({ h with Rows:=o8 })
     ) fun z4=>
    k (z4,(w64 ((i:Int) + (1:Int))))) Q:=fun {Q} hy=>by
      have hp:(2:Int) ^ (1 + r).toNat=((2 ^ (1 + r).toNat:Nat):Int):=by simp
      have hsm:=pow_smallF (n:=1 + r) (by omega) (by omega)
      have hsh:shl64 1 (wu64 h.Hooks)=some ((2 ^ (1 + r).toNat:Nat):Int):=by rw [h1,wu64_idF (by omega) (by omega),shl_oneF (by omega) (by omega),hp]
      have hand:∀ a:Nat,a < 2 ^ 62→Yes (Option.bind (some (a:Int)) fun j3=>(shl64 (1:Int) (wu64 (h).Hooks)).bind fun l5=>(apnd 8 ((h).Rows) (([(bit64 .and j3 (w64 (l5 - (1:Int))))]:List Int))).bind fun o8=>some ({ h with Rows:=o8 })) fun z4=>Yes (k (z4,(w64 ((i:Int) + (1:Int))))) Q:=fun a ha=>by
        have hw:w64 (((2 ^ (1 + r).toNat:Nat):Int) - 1)=((2 ^ (1 + r).toNat - 1:Nat):Int):=by rw [tw64F (by omega) (by omega)]; omega
        refine bindvF _ rfl (bindvF _ hsh ?_)
        rw [hw,and64F ha (by rw [pow62F]; omega),apnd8F (by omega)]
        refine bindvF _ rfl (Yes.some (hy _ (by omega) ?_))
        have:=Nat.and_le_right (n:=a) (m:=2 ^ (1 + r).toNat - 1)
        rw [hp]; omega
      refine Yes.bind ?_
      by_cases hx:i < x.Rows.length
      · have e:(bif (decide ((i:Int) < (((x).Rows).length:Int))) then (idx ((x).Rows) (i:Int)).bind fun d7=>some (((d7).toNat:Int)) else some ((21:Int)))=some ((x.Rows[i].toNat:Nat):Int):=by
          rw [decide_eq_true (Int.ofNat_lt.2 hx),cond_true,tidxF hx]; rfl
        rw [e]
        refine hand _ ?_
        have:=x.Rows[i].toNat_lt
        rw [pow62F]; omega
      · have e:(bif (decide ((i:Int) < (((x).Rows).length:Int))) then (idx ((x).Rows) (i:Int)).bind fun d7=>some (((d7).toNat:Int)) else some ((21:Int)))=some (((21:Nat):Nat):Int):=by
          rw [decide_eq_false (by omega)]; rfl
        rw [e]
        exact hand 21 (by decide)
    have hnext:∀ y:Int,0 ≤ y→y ≤ 2 ^ (1 + r).toNat - 1→_:=fun y hy1 hy2=>hkF { h with Rows:=h.Rows ++ [y] } ⟨h1,by simp [h2],fun w hw=>by
      rcases List.mem_append.1 hw with hw | hw
      · exact h3 w hw
      · rw [List.mem_singleton.1 hw]; exact ⟨hy1,hy2⟩⟩
    by_cases h0:i=0
    · subst h0
      refine bindvF true rfl (takeF rfl ?_)
      exact hgo hnext
    · by_cases hx : i < x.Rows.length
      · refine bindvF true ?_ (takeF rfl ?_)
        · have : ((i : Int) == 0) = false := by rw [beq_eq_false_iff_ne]; omega
          rw [this,decide_eq_true (Int.ofNat_lt.2 hx),decide_eq_true (show (i:Int) < 10 by omega)]; rfl
        · exact hgo hnext
      · refine bindvF false ?_ (skipF rfl (Yes.some (Yes.some ⟨h1, by omega, by omega, fun w hw => by rw [h1]; exact h3 w hw⟩)))
        have:((i:Int) == 0)=false:=by rw [beq_eq_false_iff_ne]; omega
        rw [this,decide_eq_false (show ¬ (i:Int) < (x.Rows.length:Int) by omega)]; rfl
  · obtain ⟨h1, h2, h3⟩ := hI
    refine Yes.jn (bindvF false ?_ (skipF rfl (Yes.some (Yes.some ⟨h1,by omega,by omega,fun w hw=>by rw [h1]; exact h3 w hw⟩))))
    cases decide (((10:Nat):Int) < (x.Rows.length:Int)) <;> rfl
theorem arm_isF (x:Loom):Yes (f9 x) ArmF:=by
 unfold f9
 refine Yes.bind (Yes.mono (arm_harnessF x) fun h hh=>Yes.bind (Yes.mono (arm_designF x) fun d hd=>Yes.some ?_))
 obtain ⟨a1,a2,a3,a4⟩:=hh
 obtain ⟨b1,b2,b3,b4⟩:=hd
 have hr0:0 ≤ ((x.Hooks.toNat:Nat):Int) % 12∧((x.Hooks.toNat:Nat):Int) % 12 < 12:=⟨Int.emod_nonneg _ (by omega),Int.emod_lt_of_pos _ (by omega)⟩
 refine ⟨?_,b3,b2,a2,a3,by simp only; omega,by simp only; omega,by simp only; omega⟩
 have t:tieEF h=0:=by
  unfold tieEF
  rw [if_pos (by simp [btwF]; omega),if_neg (by omega),if_neg (by omega),if_pos]
  exact List.all_eq_true.2 fun w hw=>by have:=a4 w hw; simp [btwF]; omega
 have e:desEF d=0:=by
  unfold desEF
  rw [if_pos (by simp [btwF]; omega),if_neg (by omega),if_neg (by omega),if_pos]
  exact List.all_eq_true.2 fun w hw=>by have:=b4 w hw; simp [btwF]; omega
 unfold loomEF
 simp only [t,e]
 rw [if_neg (fun h=>h rfl),if_neg (fun h=>h rfl),if_neg (by omega)]
theorem copy_isF (l:FaultLoom) (h1:l.Harness.Warps.length ≤ 1000) (h2:l.Design.Rows.length ≤ 1000):f15 l=some l:=by
 have ha:∀ xs:List Int,xs.length ≤ 1000→f11 xs=some xs:=fun xs h=>by
  unfold f11
  exact Yes.eq (Yes.bind (Yes.apnd (by simp; omega) (by simp; omega) (Yes.some (by simp))))
 unfold f15 f30 f31
 rw [ha _ h1,ha _ h2]
 rfl
theorem line_sameF {m:Nat} {c c':Nat→Bool} (h:∀ w,w < m→c w=c' w):lineF m c=lineF m c':=by
 unfold lineF
 congr 1
 exact List.map_congr_left fun w hw=>by rw [h w (List.mem_range.1 hw)]
theorem dmg5F {l:FaultLoom} {y:Int} (h1:0 ≤ y) (h2:y < l.Harness.Warps.length):dmgF l ⟨5,0,0,y,false⟩=true:=by
 simp [dmgF,btwF]; omega
end Go.Proofs.Ytjoniingnbmljaa
/- Laws of plain functions: what is drawn in, woven and known of warps. -/
set_option maxRecDepth 8000
namespace Go.Proofs.Ytjoniingnbmljaa
open Go.RowKit
open Classical
theorem s11F (xs:List Int) (h:xs.length ≤ 1000):f11 xs=some xs:=by
 unfold f11
 exact Yes.eq (Yes.bind (Yes.apnd (by simp; omega) (by simp; omega) (Yes.some (by simp))))
theorem s30F (h:TieHarness) (h1:h.Warps.length ≤ 1000):f30 h=some h:=by unfold f30; rw [s11F _ h1]; rfl
theorem s31F (d:Design) (h1:d.Rows.length ≤ 1000):f31 d=some d:=by unfold f31; rw [s11F _ h1]; rfl
theorem s166F (x a b:Int):f166 x a b=some (!decide (a ≤ x∧x ≤ b)):=by unfold f166; by_cases h1:x < a <;> by_cases h2:x > b <;> simp [h1,h2] <;> omega
theorem s88F (a b:Int) (xs:List Int) (hl:xs.length < 9223372036854775807):f88 a b xs=some (xs.all fun x=>decide (a ≤ x∧x ≤ b)):=by
 unfold f88; rw [s87F xs _ (fun x=>!decide (a ≤ x∧x ≤ b)) hl (fun x _=>s166F x a b)]
 show some (!(xs.any fun x=>!decide (a ≤ x∧x ≤ b)))=_
 rw [any_notF]
theorem s89F (l:FaultLoom):f89 l.Harness l.Design=some (loomEF l):=by
 refine Yes.eq ?_
 unfold f89
 refine Yes.jn (bindvF _ (s73F _) (Yes.cond (fun h=>Yes.some ?_) (fun h=>Yes.jn (bindvF _ (s74F _) (Yes.cond (fun h2=>Yes.some ?_) (fun h2=>Yes.jn (Yes.cond (fun h3=>Yes.some ?_) (fun h3=>Yes.some ?_))))))))
 all_goals unfold loomEF
 ·rw [if_pos (by simpa using h)]
 ·rw [if_neg (by simpa using h),if_pos (by simpa using h2)]
 ·rw [if_neg (by simpa using h),if_neg (by simpa using h2),if_pos (by simpa using h3)]
 ·rw [if_neg (by simpa using h),if_neg (by simpa using h2),if_neg (by simpa using h3)]
def DrF (n:Nat) (dr:List Int):Prop:=dr.length=n∧∀ e ∈ dr,-1 ≤ e∧e < (n:Int)
theorem s86F {l:FaultLoom} (g:GoodF l) {dr:List Int} (hd:DrF l.Harness.Warps.length dr) (hw:l.Harness.Warps.length ≤ 1000):f86 l.Harness dr=some 0:=by
 refine Yes.eq ?_
 unfold f86
 have hl:=hd.1
 refine Yes.jn (bindvF _ (s73F _) (skipF (by rw [tieE_goodF g]; rfl) (Yes.jn (skipF (by rw [hl]; simp) ?_))))
 rw [tw64F (by omega) (by omega)]
 refine bindvF _ (s88F _ _ _ (by omega)) (skipF ?_ (Yes.some rfl))
 rw [Bool.not_eq_false',List.all_eq_true]
 exact fun e he=>decide_eq_true ⟨(hd.2 e he).1,by have:=(hd.2 e he).2; omega⟩
def eyeCF (l:FaultLoom) (dr:List Int) (p w:Nat):Bool:=if (dr[w]?).getD 0=-1 then false else tabF l p (hkF l ((dr[w]?).getD 0).toNat)
theorem s29F {l : FaultLoom} (g : GoodF l) {dr : List Int} (hd : DrF l.Harness.Warps.length dr) (hw : l.Harness.Warps.length ≤ 1000) (hR : l.Design.Rows.length ≤ 1000) :
  f29 l.Harness dr l.Design=some (clothOfF l.Design.Rows.length l.Harness.Warps.length (eyeCF l dr),0):=by
 refine Yes.eq ?_
 unfold f29
 have hl:=hd.1
 refine Yes.jn (bindvF _ (s86F g hd hw) (skipF rfl ?_))
 have h39:f39 l.Harness l.Design=some (clothOfF l.Design.Rows.length l.Harness.Warps.length (fun p w=>tabF l p (hkF l w)),0):=s82F g (tab_goodF g)
 refine bindvF _ h39 (Yes.jn (skipF rfl (Yes.bind (Yes.mono (Q':=fun s=>s=clothOfF l.Design.Rows.length l.Harness.Warps.length (eyeCF l dr)) ?_ fun s hs=>Yes.some (by rw [hs])))))
 refine Yes.upto l.Design.Rows.length (by omega) (fun i s=>s=(List.range i).map fun p=>lineF l.Harness.Warps.length (eyeCF l dr p)) rfl (fun i s k hi hI hk=>?_) (fun s k hI=>?_)
 ·have hlt : i < (clothOfF l.Design.Rows.length l.Harness.Warps.length (fun p w => tabF l p (hkF l w))).length := by rw [cloth_lenF]; exact hi
  refine takeF (decide_eq_true (by show (i:Int) < ((clothOfF _ _ _).length:Int); rw [cloth_lenF]; omega)) (Yes.bind (bindvF _ (tidxF hlt) ?_))
  rw [cloth_atF hlt]
  refine Yes.bind (Yes.mono (Q':=fun s=>s=(List.range l.Harness.Warps.length).map fun w=>markF (eyeCF l dr i w)) ?_ fun b hb=>?_)
  ·refine Yes.upto l.Harness.Warps.length (by omega) (fun j s => s = (List.range j).map fun w => markF (eyeCF l dr i w)) rfl (fun j s k hj hI hk => ?_) (fun s k hI => ?_)
   ·have hjl : j < dr.length := by omega
    refine takeF (decide_eq_true (by omega)) (Yes.bind (bindvF _ (tidxF hjl) ?_))
    have hlen:s.length ≤ 1000:=by rw [hI,List.length_map,List.length_range]; omega
    have he:(dr[j]?).getD 0=dr[j]:=by rw [List.getElem?_eq_getElem hjl]; rfl
    have hm:=hd.2 _ (List.getElem_mem hjl)
    refine Yes.cond (fun hc=>?_) (fun hc=>?_)
    ·have hc : dr[j] = -1 := by simpa using hc
     refine Yes.bind (Yes.apnd (by simp; omega) (by simp; omega) (Yes.some (hk _ ?_)))
     rw [hI,List.range_succ,List.map_append]
     simp [eyeCF,he,hc,markF]
    ·have hc : dr[j] ≠ -1 := by simpa using hc
     obtain ⟨e,hej⟩:=Int.eq_ofNat_of_zero_le (show 0 ≤ dr[j] by omega)
     rw [hej] at hm
     have hel:e < (lineF l.Harness.Warps.length fun w=>tabF l i (hkF l w)).b.length:=by simp [lineF]; omega
     rw [hej]
     refine bindvF _ (tidxF hel) (Yes.bind (Yes.apnd (by simp; omega) (by simp; omega) (Yes.some (hk _ ?_))))
     rw [hI,List.range_succ,List.map_append]
     have:¬ ((e:Int)=-1):=by omega
     simp [eyeCF,he,hej,this,lineF]
   ·exact skipF (decide_eq_false (by omega)) (Yes.some hI)
  ·have hlen : s.length ≤ 1000 := by rw [hI, List.length_map, List.length_range]; omega
   refine Yes.bind (Yes.apnd (by simp; omega) (by simp; omega) (Yes.some (hk _ ?_)))
   rw [hI,hb,List.range_succ,List.map_append]; rfl
 ·exact skipF (decide_eq_false (by show ¬ (_ < ((clothOfF _ _ _).length:Int)); rw [cloth_lenF]; omega)) (Yes.some hI)
theorem s32L (xs ys:List Str) (hx:xs.length < 9223372036854775807):f32 xs ys=some (decide (xs=ys)):=by
 refine Yes.eq ?_
 unfold f32
 refine Yes.jn (Yes.cond (fun h=>Yes.some (same_noF h)) (fun h=>?_))
 have hl:=same_lenF h
 refine Yes.jn (Yes.upto0 xs.length hx (fun i=>SameF xs ys i) (same_zeroF xs ys) (fun i k hi hI hk=>?_) (fun k hI=>?_))
 ·exact Yes.jn (takeF (decide_eq_true (by omega)) (Yes.jn (same_stepF str_neF hl hi hI hk)))
 ·exact Yes.jn (skipF (decide_eq_false (by omega)) (Yes.some (same_endF hl hI)))
theorem s13L (xs:List Int) (h:xs.length ≤ 1000):f13 xs xs=some true:=by
 refine Yes.eq ?_
 unfold f13
 refine Yes.jn (skipF (by simp) (Yes.jn (Yes.upto0 xs.length (by omega) (fun _=>True) trivial (fun i k hi _ hk=>?_) (fun k _=>?_))))
 ·exact Yes.jn (takeF (decide_eq_true (by omega)) (Yes.jn (bindvF _ (tidxF hi) (bindvF _ (tidxF hi) (skipF (by simp) (hk trivial))))))
 ·exact Yes.jn (skipF (decide_eq_false (by omega)) (Yes.some rfl))
def idsF (n:Nat):List Int:=(List.range n).map fun (i:Nat)=>(i:Int)
theorem ids_lenF (n:Nat):(idsF n).length=n:=by simp [idsF]
theorem ids_atF {n i:Nat} (h:i < (idsF n).length):(idsF n)[i]=(i:Int):=by simp [idsF]
theorem s28F (n:Nat) (h:n ≤ 1000):f28 n []=some (idsF n):=by
 refine Yes.eq ?_
 unfold f28
 refine Yes.bind (Yes.mono (Q':=fun s=>s=idsF n) ?_ fun s hs=>?_)
 ·refine Yes.upto n (by omega) (fun i s => s = idsF i) rfl (fun i s k hi hI hk => ?_) (fun s k hI => ?_)
  ·refine Yes.jn (takeF (decide_eq_true (by omega)) (Yes.jn (Yes.bind (Yes.bind (Yes.apnd (by rw [hI, ids_lenF]; simp; omega) (by rw [hI, ids_lenF]; simp; omega) (Yes.some (hk _ ?_)))))))
   rw [hI]; simp [idsF,List.range_succ]
  ·exact Yes.jn (skipF (decide_eq_false (by omega)) (Yes.some hI))
 ·refine Yes.jn (Yes.upto0 0 (by omega) (fun _ => True) trivial (fun i k hi _ hk => absurd hi (Nat.not_lt_zero _)) (fun k _ => ?_))
  exact Yes.jn (bindvF false rfl (skipF rfl (Yes.some hs)))
end Go.Proofs.Ytjoniingnbmljaa
