/- Plain laws: box's own check of a loom and of picks. -/
import Derived.Test.YtmpjooneiaiffaaLawB
set_option maxRecDepth 8000
namespace Go.Proofs.Ytmpjooneiaiffaa
open Go.RowKit
open Classical

section
variable {κ ν:Type} [DecidableEq κ]
theorem keys_mset (k : κ) (v : ν) : ∀ m : List (κ × ν), (mset m k v).map (·.1) = if k ∈ m.map (·.1) then m.map (·.1) else m.map (·.1) ++ [k]
 | []=>rfl
 | p :: m=>by
  have ih:=keys_mset k v m
  by_cases hp:p.1=k
  ·rw [show mset (p :: m) k v=(k,v) :: m from if_pos hp,List.map_cons,List.map_cons,if_pos (by simp [hp])]; simp [hp]
  ·rw [show mset (p :: m) k v = p :: mset m k v from if_neg hp, List.map_cons, List.map_cons, ih]
   by_cases hk:k ∈ m.map (·.1)
   ·rw [if_pos hk,if_pos (List.mem_cons_of_mem _ hk)]
   ·rw [if_neg hk,if_neg (by rw [List.mem_cons]; exact fun h=>h.elim (fun h=>hp h.symm) hk)]; rfl
end
def keyV (s:Zv):Vector Int 2:=⟨List.toArray [s.Side,s.Box],rfl⟩
theorem keyV_eq {s t:Zv}:keyV s=keyV t ↔ s.Side=t.Side∧s.Box=t.Box:=by
 constructor
 ·intro h
  have h1:=congrArg (fun v:Vector Int 2=>v.toArray.toList) h
  have h2:[s.Side,s.Box]=[t.Side,t.Box]:=h1
  injection h2 with h3 h4
  injection h4 with h4 _
  exact ⟨h3,h4⟩
 ·rintro ⟨h1, h2⟩
  unfold keyV; simp only [h1,h2]
def ditI (xs:List Zv) (n:Nat) (m:List (Vector Int 2 × Bool)):Prop:=
 (∀ k,k ∈ m.map (·.1) ↔ ∃ j,∃ h:j < xs.length,j < n∧keyV xs[j]=k)∧m.length ≤ n∧(m.length=n ↔ ∀ i j (hi:i < xs.length) (hj:j < xs.length),j < i→i < n→¬ (xs[i].Side=xs[j].Side∧xs[i].Box=xs[j].Box))
theorem dit_step {xs:List Zv} {n:Nat} {m:List (Vector Int 2 × Bool)} (hn:n < xs.length) (h:ditI xs n m):ditI xs (n + 1) (mset m (keyV xs[n]) true):=by
 obtain ⟨h1,h2,h3⟩:=h
 have hk:=keys_mset (keyV xs[n]) true m
 have hlen:(mset m (keyV xs[n]) true).length=((mset m (keyV xs[n]) true).map (·.1)).length:=by simp
 by_cases hm:keyV xs[n] ∈ m.map (·.1)
 ·rw [if_pos hm] at hk
  have hl:(mset m (keyV xs[n]) true).length=m.length:=by rw [hlen,hk]; simp
  obtain ⟨j,hj,hjn,he⟩:=(h1 _).1 hm
  refine ⟨fun k=>?_,by omega,⟨fun h=>by omega,fun hd=>absurd (keyV_eq.1 he.symm) (hd n j hn hj hjn (by omega))⟩⟩
  rw [hk,h1]
  constructor
  ·rintro ⟨j,hj,h,he⟩; exact ⟨j,hj,by omega,he⟩
  ·rintro ⟨i, hi, h, he2⟩
   rcases Nat.lt_succ_iff_lt_or_eq.1 h with h | rfl
   ·exact ⟨i,hi,h,he2⟩
   ·exact ⟨j,hj,hjn,he.trans he2⟩
 ·rw [if_neg hm] at hk
  have hl:(mset m (keyV xs[n]) true).length=m.length + 1:=by rw [hlen,hk]; simp
  refine ⟨fun k=>?_,by omega,⟨fun h i j hi hj hji hin=>?_,fun hd=>?_⟩⟩
  ·rw [hk, List.mem_append, h1, List.mem_singleton]
   constructor
   ·rintro (⟨j, hj, h, he⟩ | rfl)
    ·exact ⟨j,hj,by omega,he⟩
    ·exact ⟨n,hn,by omega,rfl⟩
   ·rintro ⟨i, hi, h, he2⟩
    rcases Nat.lt_succ_iff_lt_or_eq.1 h with h | rfl
    ·exact .inl ⟨i,hi,h,he2⟩
    ·exact .inr he2.symm
  ·rcases Nat.lt_succ_iff_lt_or_eq.1 hin with h' | rfl
   ·exact h3.1 (by omega) i j hi hj hji h'
   ·exact fun he=>hm ((h1 _).2 ⟨j,hj,hji,(keyV_eq.2 he).symm⟩)
  ·have := h3.2 fun i j hi hj hji hin => hd i j hi hj hji (by omega)
   omega
def sides (l:BoxLoom):Prop:=∀ i,i < 2→sideOk l i=true
theorem s85 (l:BoxLoom) (h2:len2 l):f85 ⟨l⟩=some (decide (sides l)):=by
 refine Yes.eq ?_
 unfold f85
 refine Yes.jn (Yes.upto0 2 (by omega) (fun i=>∀ j,j < i→sideOk l j=true) (fun _ h=>absurd h (Nat.not_lt_zero _)) (fun i k hi hI hk=>?_) (fun k hI=>?_))
 ·have hb : i < l.Boxes.length := by rw [h2.1]; exact hi
  have ha:i < l.At.length:=by rw [h2.2]; exact hi
  refine Qw (by simp [h2.1]; omega) (Yes.jn (Gp _ (qidx hb) (Yes.bind (Yes.mono (Q':=fun r=>r=!sideOk l i) ?_ fun r hr=>?_))))
  ·refine Gp _ (s87_one _ _ _) (Yes.cond (fun hc => Yes.some ?_) (fun hc => ?_))
   ·unfold sideOk; rw [← getD_at hb]
    have:btw 1 4 l.Boxes[i]=false:=by simpa using hc
    rw [this]; rfl
   ·have h1 : btw 1 4 l.Boxes[i] = true := by simpa using hc
    have h3:=btw_iff.1 h1
    refine Gp _ (qidx ha) (Gp _ (s87_one _ _ _) (Yes.some ?_))
    unfold sideOk
    rw [← getD_at hb,← getD_at ha,h1,Wi (by omega) (by omega)]; rfl
  ·subst hr
   refine Yes.cond (fun hc=>Yes.some ?_) (fun hc=>hk fun j hj=>?_)
   ·exact (decide_eq_false (p:=sides l) fun hall=>by rw [hall i hi] at hc; cases hc).symm
   ·rcases Nat.lt_succ_iff_lt_or_eq.1 hj with h | rfl
    ·exact hI j h
    ·simpa using hc
 ·exact Qi (by simp [h2.1]) (Yes.some (decide_eq_true (p:=sides l) hI).symm)
theorem s84 (l:BoxLoom) (h2:len2 l) (hB:∀ i,i < 2→1 ≤ l.Boxes.getD i 0∧l.Boxes.getD i 0 ≤ 4) (s:Zv):f84 ⟨l⟩ s=some (okS l.Boxes s):=by
 refine Yes.eq ?_
 unfold f84
 refine Yes.bind (Gp _ (s87_one _ _ _) (Yes.cond (fun c1=>Gp _ (s87_one _ _ _) (Yes.cond (fun c2=>?_) (fun c2=>Yes.some (Yes.some ?_)))) (fun c1=>Yes.some (Yes.some ?_))))
 ·have c3 := btw_iff.1 c2
  obtain ⟨n,hn⟩:∃ n:Nat,s.Side=n:=⟨s.Side.toNat,by omega⟩
  have hn2:n < 2:=by omega
  have hnb:n < l.Boxes.length:=by rw [h2.1]; exact hn2
  have hbn:=hB n hn2
  have hs:l.Boxes.getD s.Side.toNat 0=l.Boxes[n]:=by rw [hn,Int.toNat_natCast,getD_at hnb]
  rw [← getD_at hnb] at hbn
  refine Gp _ (show idx l.Boxes s.Side=_ by rw [hn]; exact qidx hnb) (Gp _ (s87_one _ _ _) ?_)
  rw [Wi (by omega) (by omega)]
  refine Yes.cond (fun c4=>Gp _ (s87 _ _ _ (by simp)) (Yes.cond (fun c5=>Yes.some (Yes.some ?_)) (fun c5=>Yes.some (Yes.some ?_)))) (fun c4=>Yes.some (Yes.some ?_))
  ·unfold okS; rw [hs, c1, c2, c4]
   simp only [List.all_cons,List.all_nil,Bool.and_true,Bool.and_eq_true,btw_iff] at c5
   rw [Bool.true_and,Bool.true_and,Bool.true_and,decide_eq_decide]; omega
  ·unfold okS; rw [hs, c1, c2, c4]
   have:¬ ((0 ≤ s.Yarn.Low∧s.Yarn.Low ≤ s.Yarn.High)∧s.Yarn.High ≤ 1000):=fun h=>by
    have:([s.Yarn.Low,s.Yarn.High]:List Int).all (btw 0 1000)=true:=by
     simp only [List.all_cons,List.all_nil,Bool.and_true,Bool.and_eq_true,btw_iff]; omega
    rw [this] at c5; cases c5
   simp [this]
  ·unfold okS; rw [hs,c4]; simp
 ·unfold okS; rw [c2]; simp
 ·unfold okS; rw [c1]; rfl
theorem s51 (l:BoxLoom) (h:Sml l):f51 l=some (⟨l⟩,chk l):=by
 refine Yes.eq ?_
 obtain ⟨q1,q2,q3⟩:=h
 unfold f51
 refine Yes.jn (Gp (decide (¬ len2 l)) (by rw [← len2_b l]; cases ((l.Boxes.length:Int) != (2:Int)) <;> rfl) (Yes.cond (fun hc=>Yes.some ?_) (fun hc=>?_)))
 ·unfold chk; rw [if_pos (by simpa using hc)]
 have h2:len2 l:=by simpa using hc
 refine Gp _ (s85 l h2) (Yes.cond (fun hc=>Yes.some ?_) (fun hc=>?_))
 ·have : ¬ ∀ i, i < 2 → sideOk l i = true := show ¬ sides l by simpa using hc
  unfold chk; rw [if_neg (by simpa using h2),if_pos this]
 have hI:∀ i,i < 2→sideOk l i=true:=of_decide_eq_true (p:=sides l) (by simpa using hc)
 have hB:∀ i,i < 2→1 ≤ l.Boxes.getD i 0∧l.Boxes.getD i 0 ≤ 4:=fun i hi=>by
  have:=hI i hi
  unfold sideOk at this
  simp only [Bool.and_eq_true] at this
  exact btw_iff.1 this.1
 refine Yes.cond (fun hc=>Yes.some ?_) (fun hc=>?_)
 ·unfold chk; rw [if_neg (by simpa using h2),if_neg (fun h=>h hI),if_pos (by have:=of_decide_eq_true hc; omega)]
 have h6:¬ l.Shuttles.length > 6:=by have:=of_decide_eq_false hc; omega
 refine Yes.bind (Yes.mono (Q':=fun r=>r=decide (l.Shuttles.length=0 ∨ ¬ (∀ s ∈ l.Shuttles,okS l.Boxes s=true))) ?_ fun r hr=>?_)
 ·refine Yes.cond (fun hc => Yes.some ?_) (fun hc => ?_)
  ·rw [hc]; exact (decide_eq_true (.inl (len0 hc))).symm
  ·have h0 : ¬ l.Shuttles.length = 0 := fun h => by rw [h] at hc; cases hc
   refine Gp _ (s86 _ _ (fun s=>!okS l.Boxes s) (by omega) fun s _=>by unfold f83; rw [s84 l h2 hB s]; rfl) (Yes.some ?_)
   rw [Bool.eq_iff_iff,List.any_eq_true,decide_eq_true_iff]
   constructor
   ·rintro ⟨s, hs, hn⟩
    exact .inr fun hall=>by rw [hall s hs] at hn; cases hn
   ·rintro (h | h)
    ·exact absurd h h0
    ·refine Classical.byContradiction fun hn => h fun s hs => ?_
     cases hk:okS l.Boxes s
     ·exact absurd ⟨s,hs,by rw [hk]; rfl⟩ hn
     ·rfl
 ·subst hr
  refine Yes.cond (fun hc=>Yes.some ?_) (fun hc=>?_)
  ·unfold chk; rw [if_neg (by simpa using h2),if_neg (fun h=>h hI),if_neg h6,if_pos (of_decide_eq_true hc)]
  have hck:chk l=if ¬ Dst l.Shuttles then 6 else 0:=by
   unfold chk; rw [if_neg (by simpa using h2),if_neg (fun h=>h hI),if_neg h6,if_neg (of_decide_eq_false hc)]
  refine Yes.bind (Yes.upto l.Shuttles.length (by omega) (ditI l.Shuttles) ⟨fun k=>by simp,by simp,by simp⟩ (fun i m k hi hI hk=>?_) (fun m k hI=>?_))
  ·exact Qw (by simp; omega) (Yes.bind (Gp _ (qidx hi) (Yes.some (hk _ (dit_step hi hI)))))
  ·refine Qi (by simp) (Yes.some (Yes.jn (Yes.cond (fun hc => Yes.some ?_) (fun hc => Yes.some ?_))))
   ·have hlt := of_decide_eq_true hc
    rw [hck,if_pos (fun hd=>by have:=hI.2.2.2 fun i j hi hj hji _=>hd i j hi hj hji; omega)]
   ·have hge := of_decide_eq_false hc
    have hle:=hI.2.1
    have:=hI.2.2.1 (by omega)
    rw [hck,if_neg (fun hd=>hd fun i j hi hj hji=>this i j hi hj hji hi)]
end Go.Proofs.Ytmpjooneiaiffaa
/- Plain laws: the error of picks; what is in a box; the race. -/
set_option maxRecDepth 8000
namespace Go.Proofs.Ytmpjooneiaiffaa
open Go.RowKit
open Classical

structure LOk (l : BoxLoom) : Prop where
 len:len2 l
 sd:sides l
 few:l.Shuttles.length ≤ 6
 some:0 < l.Shuttles.length
 sh:∀ s ∈ l.Shuttles,okS l.Boxes s=true
 dst:Dst l.Shuttles
theorem chk0 {l:BoxLoom}:chk l=0 ↔ LOk l:=by
 unfold chk
 constructor
 ·intro h
  split at h
  ·cases h
  rename_i h1
  split at h
  ·cases h
  rename_i h2
  split at h
  ·cases h
  rename_i h3
  split at h
  ·cases h
  rename_i h4
  split at h
  ·cases h
  rename_i h5
  have h4':=not_or.1 h4
  exact ⟨Classical.not_not.1 h1,Classical.not_not.1 h2,by omega,by omega,Classical.not_not.1 h4'.2,Classical.not_not.1 h5⟩
 ·intro h
  rw [if_neg (fun k=>k h.len),if_neg (fun k=>k h.sd),if_neg (by have:=h.few; omega),if_neg (fun k=>k.elim (fun e=>by have:=h.some; omega) fun e=>e h.sh),if_neg (fun k=>k h.dst)]
theorem LOk.sml {l:BoxLoom} (h:LOk l):Sml l:=⟨by have:=h.len.1; omega,by have:=h.len.2; omega,by have:=h.few; omega⟩
theorem LOk.box {l:BoxLoom} (h:LOk l) {i:Nat} (hi:i < 2):1 ≤ l.Boxes.getD i 0∧l.Boxes.getD i 0 ≤ 4:=by
 have:=h.sd i hi
 unfold sideOk at this
 simp only [Bool.and_eq_true] at this
 exact btw_iff.1 this.1
theorem LOk.at {l:BoxLoom} (h:LOk l) {i:Nat} (hi:i < 2):0 ≤ l.At.getD i 0∧l.At.getD i 0 ≤ l.Boxes.getD i 0 - 1:=by
 have:=h.sd i hi
 unfold sideOk at this
 simp only [Bool.and_eq_true] at this
 exact btw_iff.1 this.2
def okP (B:List Int) (p:Ge):Bool:=btw 0 (B.getD 0 0 - 1) p.Left && btw 0 (B.getD 1 0 - 1) p.Right
theorem box_at {l:BoxLoom} (h:len2 l) {i:Nat} (hi:i < 2):idx l.Boxes (i:Int)=some (l.Boxes.getD i 0):=by
 have hb:i < l.Boxes.length:=by rw [h.1]; exact hi
 rw [qidx hb,getD_at hb]
theorem at_at {l:BoxLoom} (h:len2 l) {i:Nat} (hi:i < 2):idx l.At (i:Int)=some (l.At.getD i 0):=by
 have hb:i < l.At.length:=by rw [h.2]; exact hi
 rw [qidx hb,getD_at hb]
end Go.Proofs.Ytmpjooneiaiffaa
