/- Laws of plain functions, part 2. -/
import Derived.Test.YtjoniingnbmljaaFtL1
set_option maxRecDepth 8000
namespace Go.Proofs.Ytjoniingnbmljaa
open Go.RowKit
open Classical
theorem shows_lenF {l:FaultLoom} (g:GoodF l):(showsF l).length ≤ 2000:=Nat.le_trans (List.length_filter_le _ _) (allDs_lenF g)
theorem chk_goodF {l:FaultLoom} {ds:List Zv} (h:chkEF l ds=0):GoodF l∧ds.length ≤ 100∧∀ d ∈ ds,dmgF l d=true:=by
 unfold chkEF at h
 split at h
 ·rename_i h1; exact absurd h h1
 rename_i h1
 have h1:=Decidable.not_not.1 h1
 split at h
 ·cases h
 split at h
 ·rename_i h2 h3; exact ⟨good_ofF h1,by omega,List.all_eq_true.1 h3⟩
 ·cases h
def okSF (l:FaultLoom) (s:Zz):Bool:=btwF 0 119 s.Pick && btwF 0 ((l.Harness.Warps.length:Int) - 1) s.Warp
def seenEF (l:FaultLoom) (ss:List Zz):Int:=if loomEF l ≠ 0 then loomEF l else if ss.length > 60 then 5 else if ss.all (okSF l) then 0 else 2
def fitBF (n:Nat) (c:Nat→Nat→Bool) (ss:List Zz):Bool:=ss.all fun s=>c (s.Pick.toNat % n) s.Warp.toNat == s.Lifted
theorem s63F (xs:List Zz) (φ:Zz→Option Bool) (p:Zz→Bool) (hl:xs.length < 9223372036854775807) (h:∀ a ∈ xs,φ a=some (p a)):f90 xs φ=some (xs.any p):=
 Yes.eq (Yes.bind (Yes.mono (index_is xs φ p hl h) fun _ hr=>Yes.some (index_any hr)))
theorem any_not'F {α:Type} (xs:List α) (p:α→Bool):(!(xs.any fun x=>!p x))=xs.all p:=by induction xs <;> simp_all
theorem okS_isF {l:FaultLoom} {s:Zz} (h:okSF l s=true):0 ≤ s.Pick∧s.Pick ≤ 119∧0 ≤ s.Warp∧s.Warp < l.Harness.Warps.length:=by
 unfold okSF btwF at h; simp at h; omega
theorem at_seenF {n m : Nat} {c : Nat → Nat → Bool} (hn : 0 < n) {s : Zz} {α : Type} {Q : α → Prop} {K : UInt8 → Option α} (h1 : 0 ≤ s.Pick) (h2 : 0 ≤ s.Warp ∧ s.Warp < m) (hkF : Yes (K (markF (c (s.Pick.toNat % n) s.Warp.toNat))) Q) :
  Yes ((rem64 s.Pick ((clothOfF n m c).length:Int)).bind fun y=>(idx (clothOfF n m c) y).bind fun z=>(idx z.b s.Warp).bind K) Q:=by
 have e1:rem64 s.Pick ((clothOfF n m c).length:Int)=some ((s.Pick.toNat % n:Nat):Int):=by
  rw [cloth_lenF,show s.Pick=((s.Pick.toNat:Nat):Int) by omega]
  exact rem_natF hn
 have hlt:s.Pick.toNat % n < n:=Nat.mod_lt _ hn
 refine Yes.bind (Yes.of e1 (Yes.bind (Yes.idx rfl (by rw [cloth_lenF]; exact hlt) ?_)))
 rw [cloth_atF]
 refine Yes.bind (Yes.idx (n:=s.Warp.toNat) (by omega) (by rw [line_lenF]; omega) ?_)
 rw [line_atF]
 exact hkF
theorem s91F {n m:Nat} {c:Nat→Nat→Bool} (hn:0 < n) {s:Zz} (h1:0 ≤ s.Pick) (h2:0 ≤ s.Warp∧s.Warp < m):f172 s (clothOfF n m c)=some (!(c (s.Pick.toNat % n) s.Warp.toNat == s.Lifted)):=by
 refine Yes.eq ?_
 unfold f172
 refine at_seenF hn h1 h2 (Yes.some ?_)
 rw [mark_xF]
theorem s65F {l : FaultLoom} (g : GoodF l) (c : Nat → Nat → Bool) {ss : List Zz} (hl : ss.length < 1000) (hall : ∀ s ∈ ss, okSF l s = true) :
  f97 (clothOfF l.Design.Rows.length l.Harness.Warps.length c) ss=some (fitBF l.Design.Rows.length c ss):=by
 refine Yes.eq ?_
 unfold f97
 refine Yes.bind (Yes.of (s63F ss _ (fun s=>!(c (s.Pick.toNat % l.Design.Rows.length) s.Warp.toNat == s.Lifted)) (by omega) fun s hs=>?_) (Yes.some ?_))
 ·have := okS_isF (hall s hs)
  exact s91F g.r0 (by omega) (by omega)
 ·rw [any_not'F]; rfl
theorem s61F {l:FaultLoom} (hw:l.Harness.Warps.length ≤ 1000) (s:Zz):f93 s l=some (!okSF l s):=by
 refine Yes.eq ?_
 unfold f93
 rw [w64_id (n:=(l.Harness.Warps.length:Int) - 1) (by omega) (by omega)]
 refine Yes.bind (Yes.bind (Yes.of (s62F 0 119 [s.Pick] (by simp)) (Yes.cond (fun h=>Yes.some (Yes.some ?_)) (fun h=>Yes.bind (Yes.of (s62F 0 _ [s.Warp] (by simp)) (Yes.some (Yes.some ?_)))))))
 ·simp only [List.all_cons, List.all_nil, Bool.and_true, ← btwF.eq_1] at h
  have h:btwF 0 119 s.Pick=false:=by simpa using h
  simp [okSF,h]
 ·simp only [List.all_cons, List.all_nil, Bool.and_true, ← btwF.eq_1] at h ⊢
  have h:btwF 0 119 s.Pick=true:=by simpa using h
  simp [okSF,h]
def cansF (l:FaultLoom) (ss:List Zz):List Zv:=(showsF l).filter fun d=>fitBF l.Design.Rows.length (rcF l [d]) ss
theorem flat_ifF {α β γ:Type} (g:α→β) (p:γ→Bool) (h:α→γ) (xs:List α) (u:α→γ × β) (hu:∀ x,u x=(h x,g x)):(xs.map u).flatMap (fun q=>if p q.1 then [q.1] else [])=(xs.map h).filter p:=by
 induction xs with
 | nil=>rfl
 | cons x xs ih=>rw [List.map_cons,List.flatMap_cons,ih,List.map_cons,hu]; cases hp:p (h x) <;> simp [hp]
theorem s32F (l:FaultLoom) (ss:List Zz):f34 l ss=some (if seenEF l ss=0 then (cansF l ss,fitBF l.Design.Rows.length (rcF l []) ss,0) else ([],false,seenEF l ss)):=by
 refine Yes.eq ?_
 unfold f34
 refine Yes.jn (Yes.bind (Yes.of (s50F l) (Yes.cond (fun h=>Yes.some ?_) (fun h=>Yes.cond (fun h2=>Yes.some ?_) (fun h2=>?_)))))
 ·have h : loomEF l ≠ 0 := by simpa using h
  have:seenEF l ss=loomEF l:=by unfold seenEF; rw [if_pos h]
  rw [this,if_neg h]
 all_goals have h:loomEF l=0:=by simpa using h
 ·have h2 : ss.length > 60 := by simp at h2; omega
  have:seenEF l ss=5:=by unfold seenEF; rw [if_neg (fun hh=>hh h),if_pos h2]
  rw [this]; rfl
 have h2:¬ ss.length > 60:=by simp at h2; omega
 have g:=good_ofF h
 have hw1:=g.w1
 have hr0:=g.r0
 refine Yes.bind (Yes.of (s63F ss (fun a0=>f93 a0 l) (fun s=>!okSF l s) (by omega) fun s _=>s61F (by omega) s) (Yes.cond (fun h3=>Yes.some ?_) (fun h3=>?_)))
 ·have : ss.all (okSF l) = false := by rw [← any_not'F ss (okSF l), h3]; rfl
  have:seenEF l ss=2:=by unfold seenEF; rw [if_neg (fun hh=>hh h),if_neg h2,this]; rfl
  rw [this]; rfl
 have h3:ss.all (okSF l)=true:=by rw [← any_not'F ss (okSF l),h3]; rfl
 have he:seenEF l ss=0:=by unfold seenEF; rw [if_neg (fun hh=>hh h),if_neg h2,h3]; rfl
 have hok:=List.all_eq_true.1 h3
 rw [if_pos he]
 refine Yes.jn (Yes.bind (Yes.bind ?_))
 have hl:=shows_lenF g
 have hf := feed_appF (cons := fun m4_92 (q : Zv × List Str) => (f97 q.2 ss).bind fun y98 => bif y98 then (apnd 40 m4_92 (([q.1] : List Zv))).bind fun y104 => some (true, (y104)) else some (true, (m4_92)))
  (fun q=>if fitBF l.Design.Rows.length (rcF l [q.1]) ss then [q.1] else []) 3000 ((showsF l).map fun d=>(d,rndF l [d])) [] (fun q _=>by split <;> simp) (by simp; omega) (fun m x hx hm=>by
   obtain ⟨d,_,rfl⟩:=List.mem_map.1 hx
   simp only
   rw [rnd_isF,s65F g (rcF l [d]) (by omega) hok]
   simp only [Option.bind_some]
   cases hb:fitBF l.Design.Rows.length (rcF l [d]) ss with
   | true=>
    have:apnd 40 m [d]=some (m ++ [d]):=Yes.eq (Yes.apnd (by simp; omega) (by simp; omega) rfl)
    simp only [this,cond_true,Option.bind_some,if_true]
   | false=>simp)
 refine Yes.of (s64F g hf) (Yes.some (Yes.bind (Yes.of (s55_nilF g) ?_)))
 rw [rnd_isF]
 refine Yes.bind (Yes.of (s65F g (rcF l []) (by omega) hok) (Yes.some ?_))
 have:=flat_ifF (fun d=>rndF l [d]) (fun d=>fitBF l.Design.Rows.length (rcF l [d]) ss) (fun d:Zv=>d) (showsF l) (fun d=>(d,rndF l [d])) (fun _=>rfl)
 rw [List.nil_append,this,List.map_id']
 rfl
def openEF (l:FaultLoom) (ds:List Zv) (k:Int):Int:=if chkEF l ds ≠ 0 then chkEF l ds else if btwF 1 120 k then 0 else 3
theorem s54F (l:FaultLoom) (ds:List Zv) (k:Int):f73 l ds k=some (openEF l ds k):=by
 refine Yes.eq ?_
 unfold f73
 refine Yes.jn (Yes.bind (Yes.of (s18F _ _) (Yes.cond (fun h=>Yes.some ?_) (fun h=>Yes.jn (Yes.bind (Yes.of (s62F 1 120 [k] (by simp)) (Yes.cond (fun h2=>Yes.some ?_) (fun h2=>Yes.some ?_))))))))
 ·have h : chkEF l ds ≠ 0 := by simpa using h
  unfold openEF; rw [if_pos h]
 all_goals
  have h:¬ chkEF l ds ≠ 0:=by simpa using h
  simp only [List.all_cons,List.all_nil,Bool.and_true,← btwF.eq_1] at h2
 ·have h2 : btwF 1 120 k = false := by simpa using h2
  unfold openEF; rw [if_neg h,h2]; rfl
 ·have h2 : btwF 1 120 k = true := by simpa using h2
  unfold openEF; rw [if_neg h,h2]; rfl
def cthNF (l:FaultLoom) (ds:List Zv) (k:Nat):List Str:=clothOfF k l.Harness.Warps.length fun p w=>rcF l ds (p % l.Design.Rows.length) w
theorem s19F {l:FaultLoom} {ds ds':List Zv} {k:Int} (hs:f146 ds (fun a0 a1=>f147 a0 a1)=some ds') (hl':ds'.length ≤ 100000) (hall:∀ d ∈ ds',dmgF l d=true) (ho:openEF l ds k=0):f14 l ds k=some (cthNF l ds' k.toNat,0):=by
 have hc:chkEF l ds=0:=by
  unfold openEF at ho
  split at ho
  ·rename_i h1; exact absurd ho h1
  ·rename_i h1; exact Decidable.not_not.1 h1
 have hkF:1 ≤ k∧k ≤ 120:=by
  unfold openEF at ho
  rw [if_neg (fun hh=>hh hc)] at ho
  split at ho
  ·rename_i hb; simpa [btwF] using hb
  ·cases ho
 obtain ⟨g,hlen,hd⟩:=chk_goodF hc
 refine Yes.eq ?_
 unfold f14
 refine Yes.jn (Yes.bind (Yes.of (s54F l ds k) (Yes.cond (fun h=>absurd (by simpa using h) (by rw [ho]; simp)) (fun _=>Yes.bind (Yes.of (s55F g hs (by omega) hl' hall) (Yes.bind ?_))))))
 rw [rnd_isF]
 have hr0:=g.r0
 have hr1:=g.r1
 obtain ⟨kn,rfl⟩:=Int.eq_ofNat_of_zero_le (show 0 ≤ k by omega)
 rw [Int.toNat_natCast,cloth_lenF]
 refine Yes.upto kn (by omega) (fun i r=>r=cthNF l ds' i) rfl (fun i r k2 hi hI hk2=>?_) (fun r k2 hI=>?_)
 ·subst hI
  have hlt:i % l.Design.Rows.length < l.Design.Rows.length:=Nat.mod_lt _ hr0
  refine Yes.cond (fun _=>Yes.bind (Yes.bind (Yes.of (rem_natF hr0) (Yes.bind (Yes.idx rfl (by rw [cloth_lenF]; exact hlt) ?_))))) (fun h=>absurd h (by simp; omega))
  rw [cloth_atF]
  refine Yes.bind (Yes.apnd (by unfold cthNF; rw [cloth_lenF]; simp; omega) (by unfold cthNF; rw [cloth_lenF]; simp; omega) (Yes.some (hk2 _ ?_)))
  unfold cthNF clothOfF
  rw [List.range_succ,List.map_append]; rfl
 ·subst hI
  exact Yes.cond (fun h=>absurd h (by simp)) (fun _=>Yes.some (Yes.some rfl))
theorem allDs_allF {l:FaultLoom} {d:Zv} (hd:dmgF l d=true):d ∈ allDsF l:=by
 obtain ⟨k,p,h,w,u⟩:=d
 unfold allDsF aDsF
 simp only [List.mem_append]
 unfold dmgF btwF at hd
 simp only at hd
 split at hd
 ·rename_i hkF
  subst hkF
  simp at hd
  refine .inl (.inl (.inl (.inl (List.mem_flatMap.2 ⟨p.toNat,List.mem_range.2 (by omega),List.mem_map.2 ⟨h.toNat,List.mem_range.2 (by omega),?_⟩⟩))))
  obtain ⟨⟨⟨h1,h2⟩,h3⟩,h4⟩:=hd
  subst h3; subst h4
  rw [show ((p.toNat:Nat):Int)=p by omega,show ((h.toNat:Nat):Int)=h by omega]
 split at hd
 ·rename_i hkF
  subst hkF
  simp at hd
  refine .inl (.inl (.inl (.inr (List.mem_flatMap.2 ⟨h.toNat,List.mem_range.2 (by omega),?_⟩))))
  obtain ⟨⟨h1,h2⟩,h3⟩:=hd
  subst h2; subst h3
  rw [show ((h.toNat:Nat):Int)=h by omega]
  cases u <;> simp
 split at hd
 ·rename_i hkF
  simp at hd
  obtain ⟨⟨⟨h1,h2⟩,h3⟩,h4⟩:=hd
  subst h2; subst h3; subst h4
  rcases hkF with rfl | rfl
  ·exact .inl (.inl (.inr (List.mem_map.2 ⟨p.toNat,List.mem_range.2 (by omega),by rw [show ((p.toNat:Nat):Int)=p by omega]⟩)))
  ·exact .inl (.inr (List.mem_map.2 ⟨p.toNat,List.mem_range.2 (by omega),by rw [show ((p.toNat:Nat):Int)=p by omega]⟩))
 split at hd
 ·rename_i hkF
  subst hkF
  simp at hd
  obtain ⟨⟨⟨h1,h2⟩,h3⟩,h4⟩:=hd
  subst h2; subst h3; subst h4
  exact .inr (List.mem_map.2 ⟨w.toNat,List.mem_range.2 (by omega),by rw [show ((w.toNat:Nat):Int)=w by omega]⟩)
 ·cases hd
theorem mem_showsF {l:FaultLoom} {d:Zv} (hd:dmgF l d=true):d ∈ showsF l ↔ shF l d=true:=by
 unfold showsF
 rw [List.mem_filter]
 exact ⟨fun h=>h.2,fun h=>⟨allDs_allF hd,h⟩⟩
theorem mem_cansF {l:FaultLoom} {ss:List Zz} {d:Zv}:d ∈ cansF l ss ↔ d ∈ showsF l∧fitBF l.Design.Rows.length (rcF l [d]) ss=true:=by unfold cansF; rw [List.mem_filter]
end Go.Proofs.Ytjoniingnbmljaa
