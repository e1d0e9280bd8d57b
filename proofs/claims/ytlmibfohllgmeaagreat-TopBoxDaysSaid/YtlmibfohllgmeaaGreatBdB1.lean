/- Laws of plain functions, part 1. -/
import Derived.Test.YtlmibfohllgmeaaGreatCodes
import Derived.Test.YtlmibfohllgmeaaGreatYes
set_option maxRecDepth 8000
namespace Go.Proofs.YtlmibfohllgmeaaGreat
open Go.RowKit
open Classical
theorem Wr {α:Type} {Q:α→Prop} {c:Bool} {X Y:Option α} (hc:c=false) (h:Yes Y Q):Yes (bif c then X else Y) Q:=by rw [hc]; exact h
theorem Ww {α:Type} {Q:α→Prop} {c:Bool} {X Y:Option α} (hc:c=true) (h:Yes X Q):Yes (bif c then X else Y) Q:=by rw [hc]; exact h
theorem Gw {α β:Type} {Q:β→Prop} {x:Option α} {f:α→Option β} (a:α) (h:x=some a) (k:Yes (f a) Q):Yes (x.bind f) Q:=by rw [h]; exact k
theorem Xk {α:Type} {xs:List α} {i:Nat} (h:i < xs.length):idx xs (i:Int)=some xs[i]:=by unfold idx; rw [if_pos (Int.natCast_nonneg i)]; exact List.getElem?_eq_getElem h
theorem Im {a b:Int} (ha:0 ≤ a) (ha2:a ≤ 9223372036854775807) (hb:0 < b):Rd a b=some (a / b):=by
 unfold Rd
 rw [if_neg (by omega),Int.tdiv_eq_ediv_of_nonneg ha,Ql]
 ·have:=Int.ediv_nonneg ha (Int.le_of_lt hb); omega
 ·exact Int.le_trans (Int.ediv_le_self b ha) ha2
theorem Nn (a b:Int):Yl a b=min a b:=by unfold Yl; omega
theorem max64_eqX (a b:Int):Yt a b=max a b:=by unfold Yt; omega

def SmlX (l:BoxLoom):Prop:=l.Boxes.length ≤ 10∧l.At.length ≤ 10∧l.Shuttles.length ≤ 10
def Vt (a b x:Int):Bool:=decide (a ≤ x∧x ≤ b)
theorem Ka {a b x:Int}:Vt a b x=true ↔ a ≤ x∧x ≤ b:=by simp [Vt]
theorem s104X (x a b:Int):f130 x a b=some (!Vt a b x):=by unfold f130 Vt; by_cases h1:x < a <;> by_cases h2:x > b <;> simp [h1,h2] <;> omega
theorem s103X (xs:List Int) (φ:Int→Option Bool) (p:Int→Bool) (hl:xs.length < 9223372036854775807) (h:∀ a ∈ xs,φ a=some (p a)):f72 xs φ=some (xs.any p):=
 Yes.eq (Yes.bind (Yes.mono (Be xs φ p hl h) fun _ hr=>Yes.some (Xy hr)))
theorem s86X (xs:List Zv) (φ:Zv→Option Bool) (p:Zv→Bool) (hl:xs.length < 9223372036854775807) (h:∀ a ∈ xs,φ a=some (p a)):f82 xs φ=some (xs.any p):=
 Yes.eq (Yes.bind (Yes.mono (Be xs φ p hl h) fun _ hr=>Yes.some (Xy hr)))
theorem s87X (a b:Int) (xs:List Int) (hl:xs.length < 9223372036854775807):f83 a b xs=some (xs.all (Vt a b)):=by
 unfold f83
 rw [s103X xs _ (fun x=>!Vt a b x) hl fun x _=>s104X x a b]
 simp [List.all_eq_not_any_not]
theorem Bu (a b x:Int):f83 a b [x]=some (Vt a b x):=by rw [s87X _ _ _ (by simp)]; simp
def Vz (B:List Int) (s:Zv):Bool:=Vt 0 9 s.Colour && Vt 0 1 s.Side && Vt 0 (B.getD s.Side.toNat 0 - 1) s.Box && decide ((0 ≤ s.Yarn.Low∧s.Yarn.Low ≤ s.Yarn.High)∧s.Yarn.High ≤ 1000)
def Ju (l:BoxLoom) (i:Nat):Bool:=Vt 1 4 (l.Boxes.getD i 0) && Vt 0 (l.Boxes.getD i 0 - 1) (l.At.getD i 0)
def Vh (xs:List Zv):Prop:=∀ i j (hi:i < xs.length) (hj:j < xs.length),j < i→¬ (xs[i].Side=xs[j].Side∧xs[i].Box=xs[j].Box)
def Dz (l:BoxLoom):Prop:=l.Boxes.length=2∧l.At.length=2
noncomputable def Ei (l : BoxLoom) : Int := if ¬ Dz l then 4 else if ¬ (∀ i, i < 2 → Ju l i = true) then 3 else if l.Shuttles.length > 6 then 5
 else if l.Shuttles.length=0 ∨ ¬ (∀ s ∈ l.Shuttles,Vz l.Boxes s=true) then 2 else if ¬ Vh l.Shuttles then 6 else 0
theorem len2_bX (l:BoxLoom):(bif ((l.Boxes.length:Int) != (2:Int)) then some true else some ((l.At.length:Int) != (2:Int)))=some (decide (¬ Dz l)):=by
 unfold Dz
 by_cases h1:l.Boxes.length=2
 ·have e : ((l.Boxes.length : Int) != 2) = false := by simp; omega
  by_cases h2:l.At.length=2
  ·have e2 : ((l.At.length : Int) != 2) = false := by simp; omega
   rw [e,e2]; simp [h1,h2]
  ·have e2 : ((l.At.length : Int) != 2) = true := by simp; omega
   rw [e,e2]; simp [h1,h2]
 ·have e : ((l.Boxes.length : Int) != 2) = true := by simp; omega
  rw [e]; simp [h1]
theorem len0X {α:Type} {xs:List α} (h:((xs.length:Int) == 0)=true):xs.length=0:=by
 have:(xs.length:Int)=0:=by simpa using h
 omega
theorem Vn {xs:List Int} {i:Nat} (h:i < xs.length):xs[i]=xs.getD i 0:=by simp [List.getD,List.getElem?_eq_getElem h]
section
variable {κ ν:Type} [DecidableEq κ]
theorem Pz (k : κ) (v : ν) : ∀ m : List (κ × ν), (Hf m k v).map (·.1) = if k ∈ m.map (·.1) then m.map (·.1) else m.map (·.1) ++ [k]
 | []=>rfl
 | p :: m=>by
  have ih:=Pz k v m
  by_cases hp:p.1=k
  ·rw [show Hf (p :: m) k v=(k,v) :: m from if_pos hp,List.map_cons,List.map_cons,if_pos (by simp [hp])]; simp [hp]
  ·rw [show Hf (p :: m) k v = p :: Hf m k v from if_neg hp, List.map_cons, List.map_cons, ih]
   by_cases hk:k ∈ m.map (·.1)
   ·rw [if_pos hk,if_pos (List.mem_cons_of_mem _ hk)]
   ·rw [if_neg hk,if_neg (by rw [List.mem_cons]; exact fun h=>h.elim (fun h=>hp h.symm) hk)]; rfl
end
section
variable {κ ν:Type} [DecidableEq κ]
def Sc (s:Zv):Vector Int 2:=⟨List.toArray [s.Side,s.Box],rfl⟩
end
section
variable {κ ν:Type} [DecidableEq κ]
theorem keyV_eqX {s t:Zv}:Sc s=Sc t ↔ s.Side=t.Side∧s.Box=t.Box:=by
 constructor
 ·intro h
  have h1:=congrArg (fun v:Vector Int 2=>v.toArray.toList) h
  have h2:[s.Side,s.Box]=[t.Side,t.Box]:=h1
  injection h2 with h3 h4
  injection h4 with h4 _
  exact ⟨h3,h4⟩
 ·rintro ⟨h1, h2⟩
  unfold Sc; simp only [h1,h2]
end
section
variable {κ ν:Type} [DecidableEq κ]
def ditIX (xs:List Zv) (n:Nat) (m:List (Vector Int 2 × Bool)):Prop:=
 (∀ k,k ∈ m.map (·.1) ↔ ∃ j,∃ h:j < xs.length,j < n∧Sc xs[j]=k)∧m.length ≤ n∧(m.length=n ↔ ∀ i j (hi:i < xs.length) (hj:j < xs.length),j < i→i < n→¬ (xs[i].Side=xs[j].Side∧xs[i].Box=xs[j].Box))
end
section
variable {κ ν:Type} [DecidableEq κ]
theorem dit_stepX {xs:List Zv} {n:Nat} {m:List (Vector Int 2 × Bool)} (hn:n < xs.length) (h:ditIX xs n m):ditIX xs (n + 1) (Hf m (Sc xs[n]) true):=by
 obtain ⟨h1,h2,h3⟩:=h
 have hk:=Pz (Sc xs[n]) true m
 have hlen:(Hf m (Sc xs[n]) true).length=((Hf m (Sc xs[n]) true).map (·.1)).length:=by simp
 by_cases hm:Sc xs[n] ∈ m.map (·.1)
 ·rw [if_pos hm] at hk
  have hl:(Hf m (Sc xs[n]) true).length=m.length:=by rw [hlen,hk]; simp
  obtain ⟨j,hj,hjn,he⟩:=(h1 _).1 hm
  refine ⟨fun k=>?_,by omega,⟨fun h=>by omega,fun hd=>absurd (keyV_eqX.1 he.symm) (hd n j hn hj hjn (by omega))⟩⟩
  rw [hk,h1]
  constructor
  ·rintro ⟨j,hj,h,he⟩; exact ⟨j,hj,by omega,he⟩
  ·rintro ⟨i, hi, h, he2⟩
   rcases Nat.lt_succ_iff_lt_or_eq.1 h with h | rfl
   ·exact ⟨i,hi,h,he2⟩
   ·exact ⟨j,hj,hjn,he.trans he2⟩
 ·rw [if_neg hm] at hk
  have hl:(Hf m (Sc xs[n]) true).length=m.length + 1:=by rw [hlen,hk]; simp
  refine ⟨fun k=>?_,by omega,⟨fun h i j hi hj hji hin=>?_,fun hd=>?_⟩⟩
  ·rw [hk, List.mem_append, h1, List.mem_singleton]
   constructor
   ·rintro (⟨j, hj, h, he⟩ | rfl)
    ·exact ⟨j,hj,by omega,he⟩
    ·exact ⟨n,hn,by omega,rfl⟩
   ·rintro ⟨i, hi, h, he2⟩
    rcases Nat.lt_succ_iff_lt_or_eq.1 h with h | rfl
    ·exact .inl ⟨i,hi,h,he2⟩
    ·exact .inr he2.symm
  ·rcases Nat.lt_succ_iff_lt_or_eq.1 hin with h' | rfl
   ·exact h3.1 (by omega) i j hi hj hji h'
   ·exact fun he=>hm ((h1 _).2 ⟨j,hj,hji,(keyV_eqX.2 he).symm⟩)
  ·have := h3.2 fun i j hi hj hji hin => hd i j hi hj hji (by omega)
   omega
end
section
variable {κ ν:Type} [DecidableEq κ]
def Re (l:BoxLoom):Prop:=∀ i,i < 2→Ju l i=true
end
section
variable {κ ν:Type} [DecidableEq κ]
theorem s85X (l:BoxLoom) (h2:Dz l):f81 ⟨l⟩=some (decide (Re l)):=by
 refine Yes.eq ?_
 unfold f81
 refine Yes.jn (Yes.upto0 2 (by omega) (fun i=>∀ j,j < i→Ju l j=true) (fun _ h=>absurd h (Nat.not_lt_zero _)) (fun i k hi hI hk=>?_) (fun k hI=>?_))
 ·have hb : i < l.Boxes.length := by rw [h2.1]; exact hi
  have ha:i < l.At.length:=by rw [h2.2]; exact hi
  refine Ww (by simp [h2.1]; omega) (Yes.jn (Gw _ (Xk hb) (Yes.bind (Yes.mono (Q':=fun r=>r=!Ju l i) ?_ fun r hr=>?_))))
  ·refine Gw _ (Bu _ _ _) (Yes.cond (fun hc => Yes.some ?_) (fun hc => ?_))
   ·unfold Ju; rw [← Vn hb]
    have:Vt 1 4 l.Boxes[i]=false:=by simpa using hc
    rw [this]; rfl
   ·have h1 : Vt 1 4 l.Boxes[i] = true := by simpa using hc
    have h3:=Ka.1 h1
    refine Gw _ (Xk ha) (Gw _ (Bu _ _ _) (Yes.some ?_))
    unfold Ju
    rw [← Vn hb,← Vn ha,h1,Ql (by omega) (by omega)]; rfl
  ·subst hr
   refine Yes.cond (fun hc=>Yes.some ?_) (fun hc=>hk fun j hj=>?_)
   ·exact (decide_eq_false (p:=Re l) fun hall=>by rw [hall i hi] at hc; cases hc).symm
   ·rcases Nat.lt_succ_iff_lt_or_eq.1 hj with h | rfl
    ·exact hI j h
    ·simpa using hc
 ·exact Wr (by simp [h2.1]) (Yes.some (decide_eq_true (p:=Re l) hI).symm)
end
section
variable {κ ν:Type} [DecidableEq κ]
theorem s84X (l:BoxLoom) (h2:Dz l) (hB:∀ i,i < 2→1 ≤ l.Boxes.getD i 0∧l.Boxes.getD i 0 ≤ 4) (s:Zv):f80 ⟨l⟩ s=some (Vz l.Boxes s):=by
 refine Yes.eq ?_
 unfold f80
 refine Yes.bind (Gw _ (Bu _ _ _) (Yes.cond (fun c1=>Gw _ (Bu _ _ _) (Yes.cond (fun c2=>?_) (fun c2=>Yes.some (Yes.some ?_)))) (fun c1=>Yes.some (Yes.some ?_))))
 ·have c3 := Ka.1 c2
  obtain ⟨n,hn⟩:∃ n:Nat,s.Side=n:=⟨s.Side.toNat,by omega⟩
  have hn2:n < 2:=by omega
  have hnb:n < l.Boxes.length:=by rw [h2.1]; exact hn2
  have hbn:=hB n hn2
  have hs:l.Boxes.getD s.Side.toNat 0=l.Boxes[n]:=by rw [hn,Int.toNat_natCast,Vn hnb]
  rw [← Vn hnb] at hbn
  refine Gw _ (show idx l.Boxes s.Side=_ by rw [hn]; exact Xk hnb) (Gw _ (Bu _ _ _) ?_)
  rw [Ql (by omega) (by omega)]
  refine Yes.cond (fun c4=>Gw _ (s87X _ _ _ (by simp)) (Yes.cond (fun c5=>Yes.some (Yes.some ?_)) (fun c5=>Yes.some (Yes.some ?_)))) (fun c4=>Yes.some (Yes.some ?_))
  ·unfold Vz; rw [hs, c1, c2, c4]
   simp only [List.all_cons,List.all_nil,Bool.and_true,Bool.and_eq_true,Ka] at c5
   rw [Bool.true_and,Bool.true_and,Bool.true_and,decide_eq_decide]; omega
  ·unfold Vz; rw [hs, c1, c2, c4]
   have:¬ ((0 ≤ s.Yarn.Low∧s.Yarn.Low ≤ s.Yarn.High)∧s.Yarn.High ≤ 1000):=fun h=>by
    have:([s.Yarn.Low,s.Yarn.High]:List Int).all (Vt 0 1000)=true:=by
     simp only [List.all_cons,List.all_nil,Bool.and_true,Bool.and_eq_true,Ka]; omega
    rw [this] at c5; cases c5
   simp [this]
  ·unfold Vz; rw [hs,c4]; simp
 ·unfold Vz; rw [c2]; simp
 ·unfold Vz; rw [c1]; rfl
end
section
variable {κ ν:Type} [DecidableEq κ]
theorem s51X (l:BoxLoom) (h:SmlX l):f32 l=some (⟨l⟩,Ei l):=by
 refine Yes.eq ?_
 obtain ⟨q1,q2,q3⟩:=h
 unfold f32
 refine Yes.jn (Gw (decide (¬ Dz l)) (by rw [← len2_bX l]; cases ((l.Boxes.length:Int) != (2:Int)) <;> rfl) (Yes.cond (fun hc=>Yes.some ?_) (fun hc=>?_)))
 ·unfold Ei; rw [if_pos (by simpa using hc)]
 have h2:Dz l:=by simpa using hc
 refine Gw _ (s85X l h2) (Yes.cond (fun hc=>Yes.some ?_) (fun hc=>?_))
 ·have : ¬ ∀ i, i < 2 → Ju l i = true := show ¬ Re l by simpa using hc
  unfold Ei; rw [if_neg (by simpa using h2),if_pos this]
 have hI:∀ i,i < 2→Ju l i=true:=of_decide_eq_true (p:=Re l) (by simpa using hc)
 have hB:∀ i,i < 2→1 ≤ l.Boxes.getD i 0∧l.Boxes.getD i 0 ≤ 4:=fun i hi=>by
  have:=hI i hi
  unfold Ju at this
  simp only [Bool.and_eq_true] at this
  exact Ka.1 this.1
 refine Yes.cond (fun hc=>Yes.some ?_) (fun hc=>?_)
 ·unfold Ei; rw [if_neg (by simpa using h2),if_neg (fun h=>h hI),if_pos (by have:=of_decide_eq_true hc; omega)]
 have h6:¬ l.Shuttles.length > 6:=by have:=of_decide_eq_false hc; omega
 refine Yes.bind (Yes.mono (Q':=fun r=>r=decide (l.Shuttles.length=0 ∨ ¬ (∀ s ∈ l.Shuttles,Vz l.Boxes s=true))) ?_ fun r hr=>?_)
 ·refine Yes.cond (fun hc => Yes.some ?_) (fun hc => ?_)
  ·rw [hc]; exact (decide_eq_true (.inl (len0X hc))).symm
  ·have h0 : ¬ l.Shuttles.length = 0 := fun h => by rw [h] at hc; cases hc
   refine Gw _ (s86X _ _ (fun s=>!Vz l.Boxes s) (by omega) fun s _=>by unfold f79; rw [s84X l h2 hB s]; rfl) (Yes.some ?_)
   rw [Bool.eq_iff_iff,List.any_eq_true,decide_eq_true_iff]
   constructor
   ·rintro ⟨s, hs, hn⟩
    exact .inr fun hall=>by rw [hall s hs] at hn; cases hn
   ·rintro (h | h)
    ·exact absurd h h0
    ·refine Classical.byContradiction fun hn => h fun s hs => ?_
     cases hk:Vz l.Boxes s
     ·exact absurd ⟨s,hs,by rw [hk]; rfl⟩ hn
     ·rfl
 ·subst hr
  refine Yes.cond (fun hc=>Yes.some ?_) (fun hc=>?_)
  ·unfold Ei; rw [if_neg (by simpa using h2),if_neg (fun h=>h hI),if_neg h6,if_pos (of_decide_eq_true hc)]
  have hck:Ei l=if ¬ Vh l.Shuttles then 6 else 0:=by
   unfold Ei; rw [if_neg (by simpa using h2),if_neg (fun h=>h hI),if_neg h6,if_neg (of_decide_eq_false hc)]
  refine Yes.bind (Yes.upto l.Shuttles.length (by omega) (ditIX l.Shuttles) ⟨fun k=>by simp,by simp,by simp⟩ (fun i m k hi hI hk=>?_) (fun m k hI=>?_))
  ·exact Ww (by simp; omega) (Yes.bind (Gw _ (Xk hi) (Yes.some (hk _ (dit_stepX hi hI)))))
  ·refine Wr (by simp) (Yes.some (Yes.jn (Yes.cond (fun hc => Yes.some ?_) (fun hc => Yes.some ?_))))
   ·have hlt := of_decide_eq_true hc
    rw [hck,if_pos (fun hd=>by have:=hI.2.2.2 fun i j hi hj hji _=>hd i j hi hj hji; omega)]
   ·have hge := of_decide_eq_false hc
    have hle:=hI.2.1
    have:=hI.2.2.1 (by omega)
    rw [hck,if_neg (fun hd=>hd fun i j hi hj hji=>this i j hi hj hji hi)]
end
structure Kd (l : BoxLoom) : Prop where
 len:Dz l
 sd:Re l
 few:l.Shuttles.length ≤ 6
 some:0 < l.Shuttles.length
 sh:∀ s ∈ l.Shuttles,Vz l.Boxes s=true
 dst:Vh l.Shuttles
theorem chk0X {l:BoxLoom}:Ei l=0 ↔ Kd l:=by
 unfold Ei
 constructor
 ·intro h
  split at h
  ·cases h
  rename_i h1
  split at h
  ·cases h
  rename_i h2
  split at h
  ·cases h
  rename_i h3
  split at h
  ·cases h
  rename_i h4
  split at h
  ·cases h
  rename_i h5
  have h4':=not_or.1 h4
  exact ⟨Classical.not_not.1 h1,Classical.not_not.1 h2,by omega,by omega,Classical.not_not.1 h4'.2,Classical.not_not.1 h5⟩
 ·intro h
  rw [if_neg (fun k=>k h.len),if_neg (fun k=>k h.sd),if_neg (by have:=h.few; omega),if_neg (fun k=>k.elim (fun e=>by have:=h.some; omega) fun e=>e h.sh),if_neg (fun k=>k h.dst)]
theorem Kd.sml {l:BoxLoom} (h:Kd l):SmlX l:=⟨by have:=h.len.1; omega,by have:=h.len.2; omega,by have:=h.few; omega⟩
theorem Kd.box {l:BoxLoom} (h:Kd l) {i:Nat} (hi:i < 2):1 ≤ l.Boxes.getD i 0∧l.Boxes.getD i 0 ≤ 4:=by
 have:=h.sd i hi
 unfold Ju at this
 simp only [Bool.and_eq_true] at this
 exact Ka.1 this.1
theorem Kd.at {l:BoxLoom} (h:Kd l) {i:Nat} (hi:i < 2):0 ≤ l.At.getD i 0∧l.At.getD i 0 ≤ l.Boxes.getD i 0 - 1:=by
 have:=h.sd i hi
 unfold Ju at this
 simp only [Bool.and_eq_true] at this
 exact Ka.1 this.2
def En (B:List Int) (p:Gg):Bool:=Vt 0 (B.getD 0 0 - 1) p.Left && Vt 0 (B.getD 1 0 - 1) p.Right
theorem box_atX {l:BoxLoom} (h:Dz l) {i:Nat} (hi:i < 2):idx l.Boxes (i:Int)=some (l.Boxes.getD i 0):=by
 have hb:i < l.Boxes.length:=by rw [h.1]; exact hi
 rw [Xk hb,Vn hb]
theorem at_atX {l:BoxLoom} (h:Dz l) {i:Nat} (hi:i < 2):idx l.At (i:Int)=some (l.At.getD i 0):=by
 have hb:i < l.At.length:=by rw [h.2]; exact hi
 rw [Xk hb,Vn hb]
def Kj (xs:List Zv) (s b:Int) (i:Nat):Prop:=∃ h:i < xs.length,xs[i].Side=s∧xs[i].Box=b
noncomputable def Vy (xs:List Zv) (s b:Int):Int:=if h:∃ i,Kj xs s b i then ((Classical.choose h:Nat):Int) else -1
theorem Vh.one {xs:List Zv} (hd:Vh xs) {s b:Int} {i j:Nat} (h1:Kj xs s b i) (h2:Kj xs s b j):i=j:=by
 obtain ⟨hi,a1,a2⟩:=h1
 obtain ⟨hj,b1,b2⟩:=h2
 rcases Nat.lt_trichotomy i j with h | h | h
 ·exact absurd ⟨b1.trans a1.symm,b2.trans a2.symm⟩ (hd j i hj hi h)
 ·exact h
 ·exact absurd ⟨a1.trans b1.symm,a2.trans b2.symm⟩ (hd i j hi hj h)
theorem Fo {xs:List Zv} (hd:Vh xs) {s b:Int} {i:Nat} (h:Kj xs s b i):Vy xs s b=i:=by
 unfold Vy
 have he:∃ i,Kj xs s b i:=⟨i,h⟩
 rw [dif_pos he,hd.one (Classical.choose_spec he) h]
theorem Cz {xs:List Zv} {s b:Int} (h:¬ ∃ i,Kj xs s b i):Vy xs s b=-1:=by
 unfold Vy; rw [dif_neg h]
theorem Yk {xs:List Zv} (hd:Vh xs) (s b:Int):(∃ i:Nat,Kj xs s b i∧Vy xs s b=i) ∨ ((¬ ∃ i,Kj xs s b i)∧Vy xs s b=-1):=by
 by_cases h:∃ i,Kj xs s b i
 ·obtain ⟨i,hi⟩:=h; exact .inl ⟨i,hi,Fo hd hi⟩
 ·exact .inr ⟨h,Cz h⟩
def mvX (xs:List Zv) (i:Nat) (s b:Int):List Zv:=xs.modify i fun x=>{ x with Side:=s,Box:=b }
theorem Xh {xs:List Zv} {i:Nat} {s b:Int}:(mvX xs i s b).length=xs.length:=by simp [mvX]
theorem Iw {xs:List Zv} {i:Nat} {s b:Int} {j:Nat} (h:j < (mvX xs i s b).length) (h':j < xs.length):(mvX xs i s b)[j]=if i=j then { xs[j] with Side:=s,Box:=b } else xs[j]:=by
 simp [mvX,List.getElem_modify]
theorem Ev {xs:List Zv} {i:Nat} (hi:i < xs.length) {s b s' b':Int} {j:Nat}:Kj (mvX xs i s b) s' b' j ↔ (i=j∧s=s'∧b=b') ∨ (i ≠ j∧Kj xs s' b' j):=by
 unfold Kj
 constructor
 ·rintro ⟨h, h1, h2⟩
  have h':j < xs.length:=by rw [Xh] at h; exact h
  rw [Iw h h'] at h1 h2
  split at h1
  ·rename_i he
   rw [if_pos he] at h2
   exact .inl ⟨he,h1,h2⟩
  ·rename_i he
   rw [if_neg he] at h2
   exact .inr ⟨he,h',h1,h2⟩
 ·rintro (⟨rfl, rfl, rfl⟩ | ⟨he, h, h1, h2⟩)
  ·refine ⟨by rw [Xh]; exact hi, ?_⟩
   rw [Iw (by rw [Xh]; exact hi) hi,if_pos rfl]; exact ⟨rfl,rfl⟩
  ·refine ⟨by rw [Xh]; exact h, ?_⟩
   rw [Iw (by rw [Xh]; exact h) h,if_neg he]; exact ⟨h1,h2⟩
theorem dst_iffX {xs:List Zv}:Vh xs ↔ ∀ s b i j,Kj xs s b i→Kj xs s b j→i=j:=by
 constructor
 ·intro h s b i j h1 h2; exact h.one h1 h2
 ·intro h i j hi hj hji he
  have:=h _ _ i j ⟨hi,rfl,rfl⟩ ⟨hj,he.1.symm,he.2.symm⟩
  omega
theorem mv_dstX {xs:List Zv} (hd:Vh xs) {i:Nat} (hi:i < xs.length) {s b:Int} (hn:¬ ∃ j,Kj xs s b j):Vh (mvX xs i s b):=by
 rw [dst_iffX] at hd ⊢
 intro s' b' j k h1 h2
 rw [Ev hi] at h1 h2
 rcases h1 with ⟨rfl,rfl,rfl⟩ | ⟨hj,h1⟩
 ·rcases h2 with ⟨rfl, _⟩ | ⟨_, h2⟩
  ·rfl
  ·exact absurd ⟨_,h2⟩ hn
 ·rcases h2 with ⟨rfl, rfl, rfl⟩ | ⟨_, h2⟩
  ·exact absurd ⟨_,h1⟩ hn
  ·exact hd _ _ _ _ h1 h2
def mvsX (l:BoxLoom) (p:Gg):Int:=(max p.Left (l.At.getD 0 0) - min p.Left (l.At.getD 0 0)) + (max p.Right (l.At.getD 1 0) - min p.Right (l.At.getD 1 0))
noncomputable def Hs (l:BoxLoom) (p:Gg):Option (BoxLoom × Nat × Int):=
 if h:(Vy l.Shuttles 0 p.Left < 0) ↔ (Vy l.Shuttles 1 p.Right < 0) then none
 else if 0 ≤ Vy l.Shuttles 0 p.Left then some (⟨l.Boxes,[p.Left,p.Right],mvX l.Shuttles (Vy l.Shuttles 0 p.Left).toNat 1 p.Right⟩,(Vy l.Shuttles 0 p.Left).toNat,mvsX l p)
 else some (⟨l.Boxes,[p.Left,p.Right],mvX l.Shuttles (Vy l.Shuttles 1 p.Right).toNat 0 p.Left⟩,(Vy l.Shuttles 1 p.Right).toNat,mvsX l p)
theorem Rx {B:List Int} {p:Gg}:En B p=true ↔ (0 ≤ p.Left∧p.Left ≤ B.getD 0 0 - 1)∧(0 ≤ p.Right∧p.Right ≤ B.getD 1 0 - 1):=by
 unfold En; rw [Bool.and_eq_true,Ka,Ka]
structure Xl (a a' : List Zv) (i : Nat) (s c s' c' : Int) : Prop where
 at0:Kj a s c i
 free:¬ ∃ k,Kj a s' c' k
 to:∀ t d k,Kj a' t d k ↔ (i=k∧s'=t∧c'=d) ∨ (i ≠ k∧Kj a t d k)
theorem Xl.mvX {a:List Zv} {i:Nat} {s c s' c':Int} (h:Kj a s c i) (hf:¬ ∃ k,Kj a s' c' k):Xl a (mvX a i s' c') i s c s' c':=⟨h,hf,fun _ _ _=>Ev h.1⟩
theorem Ah {a:List Zv} {s c t d:Int} {i:Nat} (h:Kj a s c i) (h':Kj a t d i):s=t∧c=d:=by
 obtain ⟨_,h1,h2⟩:=h; obtain ⟨_,k1,k2⟩:=h'; exact ⟨h1.symm.trans k1,h2.symm.trans k2⟩
theorem Xl.left {a a':List Zv} {i:Nat} {s c s' c':Int} (hd:Vh a) (h:Xl a a' i s c s' c') (hn:¬ (s=s'∧c=c')):¬ ∃ k,Kj a' s c k:=by
 rintro ⟨k,hk⟩
 rcases (h.to _ _ _).1 hk with ⟨_,h1,h2⟩ | ⟨h1,h2⟩
 ·exact hn ⟨h1.symm,h2.symm⟩
 ·exact h1 (hd.one h.at0 h2)
theorem Xl.there {a a':List Zv} {i:Nat} {s c s' c':Int} (h:Xl a a' i s c s' c'):Kj a' s' c' i:=(h.to _ _ _).2 (.inl ⟨rfl,rfl,rfl⟩)
def WhX (a b:List Zv):Prop:=∀ s c i,Kj a s c i ↔ Kj b s c i
theorem WhX.symm {a b:List Zv} (h:WhX a b):WhX b a:=fun s c i=>(h s c i).symm
theorem Rm {l : BoxLoom} (hd : Vh l.Shuttles) {p : Gg} {n : BoxLoom} {i : Nat} {m : Int} (h : Hs l p = some (n, i, m)) :
  m=mvsX l p∧n.Boxes=l.Boxes∧n.At=[p.Left,p.Right]∧((n.Shuttles=mvX l.Shuttles i 1 p.Right∧Xl l.Shuttles n.Shuttles i 0 p.Left 1 p.Right) ∨ (n.Shuttles=mvX l.Shuttles i 0 p.Left∧Xl l.Shuttles n.Shuttles i 1 p.Right 0 p.Left)):=by
 unfold Hs at h
 rcases Yk hd 0 p.Left with ⟨a,ha,ea⟩ | ⟨ha,ea⟩ <;> rcases Yk hd 1 p.Right with ⟨b,hb,eb⟩ | ⟨hb,eb⟩ <;> rw [ea,eb] at h
 ·rw [dif_pos (by omega)] at h; cases h
 ·rw [dif_neg (by omega), if_pos (by omega), Int.toNat_natCast] at h
  cases h
  exact ⟨rfl,rfl,rfl,.inl ⟨rfl,Xl.mvX ha hb⟩⟩
 ·rw [dif_neg (by omega), if_neg (by omega), Int.toNat_natCast] at h
  cases h
  exact ⟨rfl,rfl,rfl,.inr ⟨rfl,Xl.mvX hb ha⟩⟩
 ·rw [dif_pos (by omega)] at h; cases h
theorem Ai {l:BoxLoom} (hd:Vh l.Shuttles) {p:Gg}:Hs l p=none ↔ ((Vy l.Shuttles 0 p.Left + 1=0) ↔ (Vy l.Shuttles 1 p.Right + 1=0)):=by
 unfold Hs
 rcases Yk hd 0 p.Left with ⟨a,ha,ea⟩ | ⟨ha,ea⟩ <;> rcases Yk hd 1 p.Right with ⟨b,hb,eb⟩ | ⟨hb,eb⟩ <;> rw [ea,eb]
 ·rw [dif_pos (by omega)]; simp; omega
 ·rw [dif_neg (by omega),if_pos (by omega)]; simp; omega
 ·rw [dif_neg (by omega),if_neg (by omega)]; simp; omega
 ·rw [dif_pos (by omega)]; simp
theorem okS_mvX {B:List Int} {x:Zv} (h:Vz B x=true) {s:Nat} (hs:s < 2) {c:Int} (hc:0 ≤ c∧c ≤ B.getD s 0 - 1):Vz B { x with Side:=s,Box:=c }=true:=by
 unfold Vz at h ⊢
 simp only [Bool.and_eq_true] at h ⊢
 exact ⟨⟨⟨h.1.1.1,Ka.2 (by omega)⟩,Ka.2 (by rw [Int.toNat_natCast]; exact hc)⟩,h.2⟩
theorem mv_okX {B:List Int} {xs:List Zv} (h:∀ x ∈ xs,Vz B x=true) {i s:Nat} (hs:s < 2) {c:Int} (hc:0 ≤ c∧c ≤ B.getD s 0 - 1):∀ x ∈ mvX xs i s c,Vz B x=true:=by
 intro x hx
 obtain ⟨j,hj,rfl⟩:=List.mem_iff_getElem.1 hx
 have hj':j < xs.length:=by rw [Xh] at hj; exact hj
 rw [Iw hj hj']
 split
 ·exact okS_mvX (h _ (List.getElem_mem hj')) hs hc
 ·exact h _ (List.getElem_mem hj')
theorem Db {l : BoxLoom} (hl : Kd l) {p : Gg} (hp : En l.Boxes p = true) {n : BoxLoom} {i : Nat} {m : Int} (h : Hs l p = some (n, i, m)) :
  Kd n∧n.Boxes=l.Boxes∧n.Shuttles.length=l.Shuttles.length∧i < l.Shuttles.length∧0 ≤ m∧m ≤ 6:=by
 obtain ⟨h1,h2,h3,h4⟩:=Rm hl.dst h
 have hp':=Rx.1 hp
 have b0:=hl.box (i:=0) (by omega)
 have b1:=hl.box (i:=1) (by omega)
 have a0:=hl.at (i:=0) (by omega)
 have a1:=hl.at (i:=1) (by omega)
 have hsd:Re n:=fun j hj=>by
  have hb:=hl.box hj
  unfold Ju
  rw [h2,h3,Bool.and_eq_true]
  refine ⟨Ka.2 hb,Ka.2 ?_⟩
  rcases (by omega:j=0 ∨ j=1) with rfl | rfl
  ·exact hp'.1
  ·exact hp'.2
 have hlen:Dz n:=⟨by rw [h2]; exact hl.len.1,by rw [h3]; rfl⟩
 have hm:0 ≤ m∧m ≤ 6:=by rw [h1]; unfold mvsX; omega
 rcases h4 with ⟨e,g⟩ | ⟨e,g⟩
 ·have hi : i < l.Shuttles.length := g.at0.1
  have hl':n.Shuttles.length=l.Shuttles.length:=by rw [e,Xh]
  refine ⟨⟨hlen,hsd,by rw [hl']; exact hl.few,by rw [hl']; exact hl.some,?_,?_⟩,h2,hl',hi,hm⟩
  ·rw [e,h2]; exact mv_okX (s:=1) hl.sh (by omega) hp'.2
  ·rw [e]; exact mv_dstX hl.dst hi g.free
 ·have hi : i < l.Shuttles.length := g.at0.1
  have hl':n.Shuttles.length=l.Shuttles.length:=by rw [e,Xh]
  refine ⟨⟨hlen,hsd,by rw [hl']; exact hl.few,by rw [hl']; exact hl.some,?_,?_⟩,h2,hl',hi,hm⟩
  ·rw [e,h2]; exact mv_okX (s:=0) hl.sh (by omega) hp'.1
  ·rw [e]; exact mv_dstX hl.dst hi g.free
theorem Jv {α:Type} {n:Nat} (v:Vector α n) {i:Nat} (h:i < n):idx v.toList (i:Int)=some v[i]:=by
 rw [Xk (by simpa using h)]; simp
theorem Vm {β:Type} {n:Nat} {v:Vector β n} {i:Nat} {h:β→β} {j:Nat} (hj:j < n):(Jj v (i:Int) h)[j]=if i=j then h v[j] else v[j]:=by
 unfold Jj
 rw [Int.toNat_natCast]
 split
 ·rw [Vector.getElem_set]; split
  ·rename_i he; subst he; rfl
  ·rfl
 ·rw [if_neg (by omega)]
theorem Vr {β:Type} {n:Nat} {v:Vector β n} {i:Nat} {y:β} {j:Nat} (hj:j < n):(Hp v (i:Int) y)[j]=if i=j then y else v[j]:=by
 unfold Hp
 rw [Int.toNat_natCast,Vector.getElem_setIfInBounds]
theorem inX_eqX {xs ys:List Zv} (hx:Vh xs) (hy:Vh ys) {s c:Int} (h:∀ i,Kj xs s c i ↔ Kj ys s c i):Vy xs s c=Vy ys s c:=by
 rcases Yk hx s c with ⟨i,hi,e⟩ | ⟨hi,e⟩
 ·rw [e,Fo hy ((h i).1 hi)]
 ·rw [e,Cz fun ⟨j,hj⟩=>hi ⟨j,(h j).2 hj⟩]
theorem Xl.else {a a':List Zv} {i:Nat} {s c s' c':Int} (ha:Vh a) (ha':Vh a') (h:Xl a a' i s c s' c') {t d:Int} (h1:¬ (t=s∧d=c)) (h2:¬ (t=s'∧d=c')):Vy a' t d=Vy a t d:=by
 refine inX_eqX ha' ha fun k=>?_
 rw [h.to]
 constructor
 ·rintro (⟨_, e1, e2⟩ | ⟨_, h⟩)
  ·exact absurd ⟨e1.symm,e2.symm⟩ h2
  ·exact h
 ·intro hk
  refine .inr ⟨fun he=>?_,hk⟩
  subst he
  have:=Ah h.at0 hk
  exact h1 ⟨this.1.symm,this.2.symm⟩
theorem s106X {a b:Int} (ha:0 ≤ a∧a ≤ 1000) (hb:0 ≤ b∧b ≤ 1000):f154 a b=some (max a b - min a b):=by
 unfold f154; rw [max64_eqX,Nn,Ql (by omega) (by omega)]
theorem Ag {α:Type} {xs:List α} {i:Nat} (h:i < xs.length):xs.take (i + 1)=xs.take i ++ [xs[i]]:=by
 rw [List.take_add_one,List.getElem?_eq_getElem h]; rfl
def Qu (l:BoxLoom) (i:Nat):Int:=(l.Shuttles[i]?.map (·.Colour)).getD 0
theorem Ey {l:BoxLoom} {i:Nat} (h:i < l.Shuttles.length):Qu l i=l.Shuttles[i].Colour:=by unfold Qu; rw [List.getElem?_eq_getElem h]; rfl
structure SmbX (n l : BoxLoom) : Prop where
 bx:n.Boxes=l.Boxes
 len:n.Shuttles.length=l.Shuttles.length
 sm:∀ i (h:i < n.Shuttles.length) (h':i < l.Shuttles.length),n.Shuttles[i].Colour=l.Shuttles[i].Colour∧n.Shuttles[i].Yarn=l.Shuttles[i].Yarn
theorem SmbX.trans {a b c:BoxLoom} (h:SmbX a b) (k:SmbX b c):SmbX a c:=⟨h.bx.trans k.bx,h.len.trans k.len,fun i h1 h2=>by
 have h3:i < b.Shuttles.length:=by rw [k.len]; exact h2
 exact ⟨(h.sm i h1 h3).1.trans (k.sm i h3 h2).1,(h.sm i h1 h3).2.trans (k.sm i h3 h2).2⟩⟩
theorem Xi {a b:Int} (ha:0 ≤ a) (hb:0 < b):Jw a b=some (a % b):=by
 unfold Jw; rw [if_neg (by omega),Int.tmod_eq_emod_of_nonneg ha]
noncomputable def cxX (l:BoxLoom) (s b:Int):Int:=if Vy l.Shuttles s b < 0 then 0 else Qu l (Vy l.Shuttles s b).toNat + 1
theorem Vs {l:BoxLoom} (hd:Vh l.Shuttles) {s b:Int} {i:Nat} (h:Kj l.Shuttles s b i):cxX l s b=Qu l i + 1:=by
 unfold cxX; rw [Fo hd h,if_neg (by omega),Int.toNat_natCast]
theorem Vv {l:BoxLoom} {s b:Int} (h:¬ ∃ i,Kj l.Shuttles s b i):cxX l s b=0:=by
 unfold cxX; rw [Cz h,if_pos (by omega)]
theorem Fm {l:BoxLoom} (hl:Kd l) {i:Nat} (hi:i < l.Shuttles.length):0 ≤ Qu l i∧Qu l i ≤ 9:=by
 rw [Ey hi]
 have:=hl.sh _ (List.getElem_mem hi)
 unfold Vz at this
 simp only [Bool.and_eq_true,Ka] at this
 exact this.1.1.1
theorem Cv {l:BoxLoom} (hl:Kd l) (i:Nat):0 ≤ Qu l i∧Qu l i ≤ 9:=by
 by_cases hi:i < l.Shuttles.length
 ·exact Fm hl hi
 ·unfold Qu; rw [List.getElem?_eq_none (by omega)]; simp
theorem Cp {l:BoxLoom} (hl:Kd l) (s b:Int):cxX l s b=0 ↔ Vy l.Shuttles s b + 1=0:=by
 unfold cxX
 rcases Yk hl.dst s b with ⟨i,hi,e⟩ | ⟨_,e⟩
 ·rw [e,if_neg (by omega),Int.toNat_natCast]; have:=Cv hl i; omega
 ·rw [e]; simp
theorem Fy {l n:BoxLoom} {i:Nat} {s b:Int} (h:n.Shuttles=mvX l.Shuttles i s b) (j:Nat):Qu n j=Qu l j:=by
 unfold Qu
 rw [h]
 unfold mvX
 rw [List.getElem?_modify]
 cases l.Shuttles[j]? with
 | none=>rfl
 | some x=>by_cases h:i=j <;> simp [h]
theorem oneL_colrX {l:BoxLoom} (hd:Vh l.Shuttles) {p:Gg} {n:BoxLoom} {i:Nat} {m:Int} (h:Hs l p=some (n,i,m)) (j:Nat):Qu n j=Qu l j:=by
 obtain ⟨_,_,_,h | h⟩:=Rm hd h
 ·exact Fy h.1 j
 ·exact Fy h.1 j
structure Pw (r : Tf) (l : BoxLoom) : Prop where
 bx:∀ (s b:Nat) (hs:s < 2) (hb:b < 4),r.boxes[s][b]=cxX l s b
 at_:r.at_=⟨l.At.getD 0 0,l.At.getD 1 0⟩
theorem Pw.one {r q:Tf} {l:BoxLoom} (h:Pw r l) (k:Pw q l):r=q:=by
 obtain ⟨rb,ra⟩:=r
 obtain ⟨qb,qa⟩:=q
 have h1:=h.bx; have h2:=h.at_; have k1:=k.bx; have k2:=k.at_
 simp only at h1 h2 k1 k2
 have:rb=qb:=Vector.ext fun s hs=>Vector.ext fun b hb=>(h1 s b hs hb).trans (k1 s b hs hb).symm
 rw [this,h2,k2]
theorem Xl.elseC {a a':BoxLoom} {i:Nat} {s c s' c':Int} (ha:Vh a.Shuttles) (ha':Vh a'.Shuttles) (hc:∀ j,Qu a' j=Qu a j) (h:Xl a.Shuttles a'.Shuttles i s c s' c') {t d:Int} (h1:¬ (t=s∧d=c)) (h2:¬ (t=s'∧d=c')):cxX a' t d=cxX a t d:=by
 unfold cxX; rw [h.else ha ha' h1 h2]; simp only [hc]
theorem s97cX {r : Tf} {l : BoxLoom} (hr : Pw r l) (hl : Kd l) {p : Gg} (hp : En l.Boxes p = true) :
  Yes (f132 r p) (fun x=>match Hs l p with | some (n,i,m)=>Pw x.1 n∧x.2.1=Qu l i + 1∧x.2.2=m | none=>x=(r,0,0)):=by
 have hd:=hl.dst
 have hf:=hl.few
 have hp':=Rx.1 hp
 have b0:=hl.box (i:=0) (by omega)
 have b1:=hl.box (i:=1) (by omega)
 have a0:=hl.at (i:=0) (by omega)
 have a1:=hl.at (i:=1) (by omega)
 obtain ⟨L,hL⟩:∃ L:Nat,p.Left=L:=⟨p.Left.toNat,by omega⟩
 obtain ⟨R,hR⟩:∃ R:Nat,p.Right=R:=⟨p.Right.toNat,by omega⟩
 have hL4:L < 4:=by omega
 have hR4:R < 4:=by omega
 have e0:=hr.bx 0 L (by omega) hL4
 have e1:=hr.bx 1 R (by omega) hR4
 unfold f132
 rw [hL,hR]
 refine Gw _ (Jv r.boxes (i:=0) (by omega)) (Gw _ (Jv _ hL4) (Gw _ (Jv r.boxes (i:=1) (by omega)) (Gw _ (Jv _ hR4) (Yes.jn (Yes.cond (fun hc=>Yes.some ?_) (fun hc=>?_))))))
 ·have hn:Hs l p=none:=by
   rw [Ai hd,hL,hR]
   have h0:cxX l (0:Int) (L:Int)=r.boxes[0][L]:=e0.symm
   have h1:cxX l (1:Int) (R:Int)=r.boxes[1][R]:=e1.symm
   rw [← Cp hl,← Cp hl,h0,h1]
   have:=beq_iff_eq.1 hc
   constructor
   ·intro h
    rw [h] at this
    exact beq_iff_eq.1 (this.symm.trans rfl)
   ·intro h
    rw [h] at this
    exact beq_iff_eq.1 (this.trans rfl)
  rw [hn]
 ·have hnn:Hs l p ≠ none:=fun hn=>by
   rw [Ai hd,hL,hR] at hn
   have h0:cxX l (0:Int) (L:Int)=r.boxes[0][L]:=e0.symm
   have h1:cxX l (1:Int) (R:Int)=r.boxes[1][R]:=e1.symm
   rw [← Cp hl,← Cp hl,h0,h1] at hn
   have:(r.boxes[0][L] == (0:Int))=(r.boxes[1][R] == (0:Int)):=by
    rw [Bool.eq_iff_iff,beq_iff_eq,beq_iff_eq]; exact hn
   rw [this] at hc
   simp at hc
  obtain ⟨⟨n,i,m⟩,hon⟩:=Option.ne_none_iff_exists'.1 hnn
  obtain ⟨hm,hnb,hna,hgo⟩:=Rm hd hon
  obtain ⟨hln,_,hlen,hil,_⟩:=Db hl hp hon
  have hcl:=oneL_colrX hd hon
  have hcr:=Fm hl hil
  rw [hon]
  have hat:r.at_.Left=l.At.getD 0 0∧r.at_.Right=l.At.getD 1 0:=by rw [hr.at_]; exact ⟨rfl,rfl⟩
  refine Gw _ (s106X (by rw [hat.1]; omega) (by omega)) (Gw _ (s106X (by rw [hat.2]; omega) (by omega)) (Gw _ (Jv r.boxes (i:=0) (by omega)) (Gw _ (Jv _ hL4) (Gw _ (Jv _ (i:=1) (by omega)) (Gw _ (Jv _ hR4) (Yes.some ⟨⟨fun s b hs hb=>?_,?_⟩,?_,?_⟩))))))
  ·show (Jj (Jj r.boxes ((0 : Nat) : Int) (fun b => Hp b (L : Int) r.boxes[1][R])) ((1 : Nat) : Int) (fun b => Hp b (R : Int) r.boxes[0][L]))[s][b] = _
   have hold:=hr.bx s b hs hb
   rcases (by omega:s=0 ∨ s=1) with rfl | rfl
   ·rw [Vm (i := 1) (by omega), if_neg (by omega), Vm (i := 0) (by omega), if_pos rfl, Vr hb]
    split
    ·rename_i hb'; subst hb'
     rcases hgo with ⟨_,g⟩ | ⟨_,g⟩
     ·rw [e1,show cxX l ((1:Nat):Int) (R:Int)=0 from Vv (hR ▸ g.free),show cxX n ((0:Nat):Int) (L:Int)=0 from Vv (hL ▸ g.left hd (by simp))]
     ·rw [e1,show cxX l ((1:Nat):Int) (R:Int)=Qu l i + 1 from Vs hd (hR ▸ g.at0),show cxX n ((0:Nat):Int) (L:Int)=Qu l i + 1 from (Vs hln.dst (hL ▸ g.there)).trans (by rw [hcl])]
    ·rename_i hb'
     rw [hold]
     rcases hgo with ⟨_,g⟩ | ⟨_,g⟩
     ·exact (g.elseC hd hln.dst hcl (by omega) (by omega)).symm
     ·exact (g.elseC hd hln.dst hcl (by omega) (by omega)).symm
   ·rw [Vm (i := 1) (by omega), if_pos rfl, Vr hb]
    split
    ·rename_i hb'; subst hb'
     rcases hgo with ⟨_,g⟩ | ⟨_,g⟩
     ·rw [e0,show cxX l ((0:Nat):Int) (L:Int)=Qu l i + 1 from Vs hd (hL ▸ g.at0),show cxX n ((1:Nat):Int) (R:Int)=Qu l i + 1 from (Vs hln.dst (hR ▸ g.there)).trans (by rw [hcl])]
     ·rw [e0,show cxX l ((0:Nat):Int) (L:Int)=0 from Vv (hL ▸ g.free),show cxX n ((1:Nat):Int) (R:Int)=0 from Vv (hR ▸ g.left hd (by simp))]
    ·rename_i hb'
     rw [Vm (i:=0) (by omega),if_neg (by omega),hold]
     rcases hgo with ⟨_,g⟩ | ⟨_,g⟩
     ·exact (g.elseC hd hln.dst hcl (by omega) (by omega)).symm
     ·exact (g.elseC hd hln.dst hcl (by omega) (by omega)).symm
  ·show p = _
   rw [hna]; rfl
  ·show w64 (r.boxes[0][L] + r.boxes[1][R]) = _
   rw [e0,e1]
   rcases hgo with ⟨_,g⟩ | ⟨_,g⟩
   ·rw [show cxX l ((1:Nat):Int) (R:Int)=0 from Vv (hR ▸ g.free),show cxX l ((0:Nat):Int) (L:Int)=Qu l i + 1 from Vs hd (hL ▸ g.at0),Ql (by omega) (by omega)]; omega
   ·rw [show cxX l ((0:Nat):Int) (L:Int)=0 from Vv (hL ▸ g.free),show cxX l ((1:Nat):Int) (R:Int)=Qu l i + 1 from Vs hd (hR ▸ g.at0),Ql (by omega) (by omega)]; omega
  ·show w64 (_ + _) = m
   rw [hm,hat.1,hat.2,Ql (by omega) (by omega)]; unfold mvsX; rw [hL,hR]; omega
theorem s54cX {l:BoxLoom} (hl:Kd l):Yes (f35 ⟨l⟩ (fun a0 a1=>f36 a0 a1)) (fun r=>Pw r l):=by
 have hf:=hl.few
 unfold f35
 refine Yes.bind (Yes.upto l.Shuttles.length (by omega) (fun n t=>∀ (s b:Nat) (hs:s < 2) (hb:b < 4),(∀ j,j < n→Kj l.Shuttles s b j→t.boxes[s][b]=Qu l j + 1)∧((∀ j,j < n→¬ Kj l.Shuttles s b j)→t.boxes[s][b]=0)) ?_ (fun i t k hi hI hk=>?_) (fun t k hI=>?_))
 ·intro s b hs hb
  refine ⟨fun j h=>absurd h (Nat.not_lt_zero _),fun _=>?_⟩
  rcases (by omega:s=0 ∨ s=1) with rfl | rfl <;> rcases (by omega:b=0 ∨ b=1 ∨ b=2 ∨ b=3) with rfl | rfl | rfl | rfl <;> rfl
 ·have hok := hl.sh _ (List.getElem_mem hi)
  unfold Vz at hok
  simp only [Bool.and_eq_true,Ka] at hok
  obtain ⟨⟨⟨_,hs⟩,hb⟩,_⟩:=hok
  obtain ⟨S,hS⟩:∃ S:Nat,l.Shuttles[i].Side=S:=⟨l.Shuttles[i].Side.toNat,by omega⟩
  obtain ⟨B,hB⟩:∃ B:Nat,l.Shuttles[i].Box=B:=⟨l.Shuttles[i].Box.toNat,by omega⟩
  have hS2:S < 2:=by omega
  have hbx:=hl.box hS2
  rw [hS,Int.toNat_natCast] at hb
  have hB4:B < 4:=by omega
  refine Ww (by simp; omega) (Yes.bind (Gw _ (Xk hi) (Gw (Qu l i + 1) (by show some (w64 (l.Shuttles[i].Colour + 1))=_; rw [← Ey hi]; have:=Fm hl hi; rw [Ql (by omega) (by omega)]) ?_)))
  rw [hS,hB]
  refine Gw _ (Jv t.boxes hS2) (Gw _ (Jv _ hB4) (Yes.some (hk _ fun s b hs hb=>?_)))
  show (∀ j,j < i + 1→Kj l.Shuttles s b j→(Jj t.boxes (S:Int) (fun b=>Hp b (B:Int) (Qu l i + 1)))[s][b]=Qu l j + 1)∧((∀ j,j < i + 1→¬ Kj l.Shuttles s b j)→(Jj t.boxes (S:Int) (fun b=>Hp b (B:Int) (Qu l i + 1)))[s][b]=0)
  have hat:Kj l.Shuttles S B i:=⟨hi,hS,hB⟩
  obtain ⟨o1,o2⟩:=hI s b hs hb
  by_cases hsb:S=s∧B=b
  ·obtain ⟨rfl, rfl⟩ := hsb
   have hv:(Jj t.boxes (S:Int) (fun b=>Hp b (B:Int) (Qu l i + 1)))[S][B]=Qu l i + 1:=by
    rw [Vm hs,if_pos rfl,Vr hb,if_pos rfl]
   rw [hv]
   exact ⟨fun j _ hj=>by rw [hl.dst.one hj hat],fun h=>absurd hat (h i (by omega))⟩
  ·have hv:(Jj t.boxes (S:Int) (fun b=>Hp b (B:Int) (Qu l i + 1)))[s][b]=t.boxes[s][b]:=by
    by_cases hss:S=s
    ·subst hss
     rw [Vm hs,if_pos rfl,Vr hb,if_neg (fun h=>hsb ⟨rfl,h⟩)]
    ·rw [Vm hs,if_neg hss]
   rw [hv]
   refine ⟨fun j hj hja=>?_,fun h=>o2 fun j hj=>h j (by omega)⟩
   rcases Nat.lt_succ_iff_lt_or_eq.1 hj with h | rfl
   ·exact o1 j h hja
   ·have := Ah hat hja
    exact absurd ⟨by omega,by omega⟩ hsb
 ·refine Wr (by simp) (Yes.some (Gw _ (at_atX hl.len (i := 0) (by omega)) (Gw _ (at_atX hl.len (i := 1) (by omega)) (Yes.some ⟨fun s b hs hb => ?_, rfl⟩))))
  obtain ⟨o1,o2⟩:=hI s b hs hb
  show t.boxes[s][b]=_
  rcases Yk hl.dst s b with ⟨i,hi,e⟩ | ⟨hi,e⟩
  ·rw [o1 i hi.1 hi,Vs hl.dst hi]
  ·rw [o2 fun j _ h=>hi ⟨j,h⟩,Vv hi]
def rowX (B1:Nat) (i:Nat):List Gg:=(List.range B1).map fun k:Nat=>⟨(i:Int),(k:Int)⟩
def pkLX (B0 B1:Nat):List Gg:=(List.range B0).flatMap (rowX B1)
def Th (l:BoxLoom) (s:Nat):Nat:=(l.Boxes.getD s 0).toNat
def Hz (l:BoxLoom):List Gg:=pkLX (Th l 0) (Th l 1)
theorem Uo {l:BoxLoom} (hl:Kd l) {s:Nat} (hs:s < 2):l.Boxes.getD s 0=(Th l s:Int)∧1 ≤ Th l s∧Th l s ≤ 4:=by
 have:=hl.box hs; unfold Th; omega
theorem mem_pkLX {B0 B1:Nat} {p:Gg}:p ∈ pkLX B0 B1 ↔ ∃ i k,i < B0∧k < B1∧p=⟨(i:Int),(k:Int)⟩:=by
 unfold pkLX rowX
 simp only [List.mem_flatMap,List.mem_range,List.mem_map]
 constructor
 ·rintro ⟨i,hi,k,hk,rfl⟩; exact ⟨i,k,hi,hk,rfl⟩
 ·rintro ⟨i,k,hi,hk,rfl⟩; exact ⟨i,hi,k,hk,rfl⟩
theorem okP_natX {l:BoxLoom} (hl:Kd l) {i k:Nat} (hi:i < Th l 0) (hk:k < Th l 1):En l.Boxes ⟨(i:Int),(k:Int)⟩=true:=by
 have h0:=Uo hl (s:=0) (by omega)
 have h1:=Uo hl (s:=1) (by omega)
 refine Rx.2 ⟨⟨?_,?_⟩,?_,?_⟩
 ·show (0:Int) ≤ (i:Int); omega
 ·show (i:Int) ≤ _; rw [h0.1]; omega
 ·show (0:Int) ≤ (k:Int); omega
 ·show (k:Int) ≤ _; rw [h1.1]; omega
theorem Vj {l:BoxLoom} (hl:Kd l) {p:Gg}:p ∈ Hz l ↔ En l.Boxes p=true:=by
 have h0:=Uo hl (s:=0) (by omega)
 have h1:=Uo hl (s:=1) (by omega)
 unfold Hz
 rw [mem_pkLX]
 constructor
 ·rintro ⟨i, k, hi, hk, rfl⟩
  exact okP_natX hl hi hk
 ·intro h
  have:=Rx.1 h
  obtain ⟨L,R⟩:=p
  simp only at this
  refine ⟨L.toNat,R.toNat,by omega,by omega,?_⟩
  rw [Int.toNat_of_nonneg this.1.1,Int.toNat_of_nonneg this.2.1]
noncomputable def rcX (l:BoxLoom):Tf:=⟨Vector.ofFn fun s=>Vector.ofFn fun b=>cxX l (s:Nat) (b:Nat),⟨l.At.getD 0 0,l.At.getD 1 0⟩⟩
theorem Eh (l:BoxLoom):Pw (rcX l) l:=⟨fun s b hs hb=>by simp [rcX],rfl⟩
theorem rc_pX {l:BoxLoom} (hl:Kd l) {p:Gg} (hp:En l.Boxes p=true):f132 (rcX l) p=some (match Hs l p with | some (n,i,m)=>(rcX n,Qu l i + 1,m) | none=>(rcX l,0,0)):=by
 obtain ⟨x,hx,h⟩:=s97cX (Eh l) hl hp
 rw [hx]
 cases ho:Hs l p with
 | none=>rw [ho] at h; have h:x=(rcX l,0,0):=h; rw [h]
 | some y=>
  obtain ⟨n,i,m⟩:=y
  rw [ho] at h
  obtain ⟨h1,h2,h3⟩:=h
  obtain ⟨x1,x2,x3⟩:=x
  simp only at h1 h2 h3
  rw [h1.one (Eh n),h2,h3]
theorem s54rX {l:BoxLoom} (hl:Kd l):f35 ⟨l⟩ (fun a0 a1=>f36 a0 a1)=some (rcX l):=by
 obtain ⟨x,hx,h⟩:=s54cX hl
 rw [hx,h.one (Eh l)]
theorem s56X {l:BoxLoom} (hl:Kd l):f37 ⟨l⟩=some ⟨(Th l 0:Int),(Th l 1:Int),⟨⟩⟩:=by
 have i0:idx l.Boxes (0:Int)=some (Th l 0:Int):=(box_atX hl.len (i:=0) (by omega)).trans (by rw [(Uo hl (s:=0) (by omega)).1])
 have i1:idx l.Boxes (1:Int)=some (Th l 1:Int):=(box_atX hl.len (i:=1) (by omega)).trans (by rw [(Uo hl (s:=1) (by omega)).1])
 unfold f37
 show ((idx l.Boxes 0).bind _)=_
 rw [i0,Option.bind_some]
 show ((idx l.Boxes 1).bind _)=_
 rw [i1,Option.bind_some]
def Xb {σ α : Type} (cons : Dn σ α) : List α → σ → Option σ
 | [],s=>some s
 | x :: xs,s=>(cons s x).bind fun r=>bif r.1 then Xb cons xs r.2 else some r.2
theorem runL_consX {σ α:Type} {cons:Dn σ α} {x:α} {xs:List α} {s:σ} {Q:σ→Prop} (h:Yes (Xb cons (x :: xs) s) Q):∃ b s',cons s x=some (b,s')∧(b=true→Yes (Xb cons xs s') Q)∧(b=false→Q s'):=by
 obtain ⟨r,hr,hq⟩:=h
 rw [Xb] at hr
 cases hc:cons s x with
 | none=>rw [hc] at hr; cases hr
 | some y=>
  obtain ⟨b,s'⟩:=y
  rw [hc,Option.bind_some] at hr
  refine ⟨b,s',rfl,fun hb=>?_,fun hb=>?_⟩
  ·subst hb; exact ⟨r,hr,hq⟩
  ·subst hb; cases hr; exact hq
noncomputable def Bc (l:BoxLoom) (p:Gg):Option (Gg × Tg):=(Hs l p).map fun x=>(p,⟨rcX x.1,Qu l x.2.1,x.2.2⟩)
noncomputable def Jz (l:BoxLoom):List (Gg × Tg):=(Hz l).filterMap (Bc l)
theorem Nq {n i:Nat} (h:i < n):List.range' i (n - i)=i :: List.range' (i + 1) (n - (i + 1)):=by
 rw [show n - i=(n - (i + 1)) + 1 by omega,List.range'_succ]
theorem s98X {l:BoxLoom} (hl:Kd l) {σ:Type} {cons:Dn σ (Gg × Tg)} {s0:σ} {Q:σ→Prop} (h:Yes (Xb cons (Jz l) s0) Q):Yes (f131 ⟨⟨(Th l 0:Int),(Th l 1:Int),⟨⟩⟩⟩ (rcX l) σ cons s0) Q:=by
 obtain ⟨_,a0,b0⟩:=Uo hl (s:=0) (by omega)
 obtain ⟨_,a1,b1⟩:=Uo hl (s:=1) (by omega)
 unfold f131
 refine Yes.upto (Th l 0) (by omega) (fun i s=>Yes (Xb cons (((List.range' i (Th l 0 - i)).flatMap (rowX (Th l 1))).filterMap (Bc l)) s) Q) ?_ (fun i s k hi hI hk=>?_) (fun s k hI=>?_)
 ·rw [Nat.sub_zero,← List.range_eq_range']; exact h
 ·refine Ww (by simp; omega) (Yes.jn ?_)
  rw [Nq hi,List.flatMap_cons,List.filterMap_append] at hI
  refine Yes.upto (Th l 1) (by omega) (fun j t=>Yes (Xb cons ((((List.range' j (Th l 1 - j)).map fun k:Nat=>(⟨(i:Int),(k:Int)⟩:Gg)).filterMap (Bc l)) ++ ((List.range' (i + 1) (Th l 0 - (i + 1))).flatMap (rowX (Th l 1))).filterMap (Bc l)) t) Q) ?_ (fun j t k2 hj hJ hk2=>?_) (fun t k2 hJ=>?_)
  ·rw [Nat.sub_zero,← List.range_eq_range']; exact hI
  ·rw [Nq hj, List.map_cons, List.filterMap_cons] at hJ
   refine Ww (by simp; omega) (Yes.jn (Gw _ (rc_pX hl (okP_natX hl hi hj)) ?_))
   cases ho:Hs l ⟨(i:Int),(j:Int)⟩ with
   | none=>
    have hs:Bc l ⟨(i:Int),(j:Int)⟩=none:=by unfold Bc; rw [ho]; rfl
    rw [hs] at hJ
    exact Yes.bind (Wr rfl (Yes.some (Wr rfl (hk2 _ hJ))))
   | some y=>
    obtain ⟨n,c,m⟩:=y
    have hs:Bc l ⟨(i:Int),(j:Int)⟩=some (⟨(i:Int),(j:Int)⟩,⟨rcX n,Qu l c,m⟩):=by unfold Bc; rw [ho]; rfl
    rw [hs,List.cons_append] at hJ
    obtain ⟨b,s',h1,h2,h3⟩:=runL_consX hJ
    have hcl:=Cv hl c
    refine Yes.bind (Ww (decide_eq_true (by show Qu l c + 1 > 0; omega)) ?_)
    show Yes (Option.bind (cons t (⟨(i:Int),(j:Int)⟩,⟨rcX n,w64 (Qu l c + 1 - 1),m⟩)) _) _
    rw [show w64 (Qu l c + 1 - 1)=Qu l c by rw [Ql (by omega) (by omega)]; omega,h1,Option.bind_some]
    refine Yes.some ?_
    cases b with
    | true=>exact Wr rfl (hk2 _ (h2 rfl))
    | false=>exact Ww rfl (Yes.some (h3 rfl))
  ·refine Wr (by simp) (hk _ ?_)
   simpa using hJ
 ·refine Wr (by simp) ?_
  simpa [Xb] using hI
def Tj:Int:=1073741824
theorem Rh {σ α : Type} {cons : Dn σ α} {Q : σ → Prop} : ∀ (xs : List α) (I : Nat → σ → Prop) (s0 : σ), I 0 s0 → (∀ i (h : i < xs.length) s, I i s → Yes (cons s xs[i]) (fun r => r.1 = true ∧ I (i + 1) r.2)) → (∀ s, I xs.length s → Q s) → Yes (Xb cons xs s0) Q
 | [],I,s0,h0,_,he=>Yes.some (he s0 h0)
 | x :: xs,I,s0,h0,hb,he=>by
  rw [Xb]
  obtain ⟨r,hr,h1,h2⟩:=hb 0 (by simp) s0 h0
  rw [List.getElem_cons_zero] at hr
  rw [hr,Option.bind_some,h1]
  exact Rh xs (fun i=>I (i + 1)) r.2 h2 (fun i h s hI=>hb (i + 1) (by simpa using h) s hI) (fun s hI=>he s hI)
noncomputable def Sy (A:Gd→Tg→Option (Gd × Bool)) (F:Gd→Int) (pt:Gd) (b:Int) (s:Gg × Tg):Int:=match A pt s.2 with | some (to,true)=>min b (s.2.moves + F to) | _=>b
noncomputable def Rv (B0 B1:Nat) (r:Tf):List (Gg × Tg):=(pkLX B0 B1).filterMap fun p=>match f132 r p with | some (n,t,m)=>if t > 0 then some (p,⟨n,t - 1,m⟩) else none | none=>none
theorem Fw {α β : Type} {f g : α → Option β} : ∀ (xs : List α), (∀ x ∈ xs, f x = g x) → xs.filterMap f = xs.filterMap g
 | [],_=>rfl
 | x :: xs,h=>by rw [List.filterMap_cons,List.filterMap_cons,h x (by simp),Fw xs fun y hy=>h y (by simp [hy])]
theorem Sp {l:BoxLoom} (hl:Kd l):Rv (Th l 0) (Th l 1) (rcX l)=Jz l:=by
 unfold Rv Jz
 refine Fw _ fun p hp=>?_
 have hok:=(Vj hl).1 hp
 rw [rc_pX hl hok]
 unfold Bc
 cases ho:Hs l p with
 | none=>simp
 | some x=>
  obtain ⟨n,i,m⟩:=x
  have:=Cv hl i
  show (if Qu l i + 1 > 0 then some (p,(⟨rcX n,Qu l i + 1 - 1,m⟩:Tg)) else none)=some (p,⟨rcX n,Qu l i,m⟩)
  rw [if_pos (by omega),show Qu l i + 1 - 1=Qu l i by omega]
noncomputable def Yi (B0 B1 : Nat) (A : Gd → Tg → Option (Gd × Bool)) : Nat → Gd → Int
 | 0,_=>0
 | k + 1,pt=>(Rv B0 B1 pt.race).foldl (Sy A (Yi B0 B1 A k) pt) Tj
structure PtsX (gs : List (List Int)) (V : Gd → Nat → Prop) : Prop where
 zero:∀ {pt k},V pt k→(pt.group=(gs.length:Int) ↔ k=0)
 one:∀ {pt k k'},V pt k→V pt k'→k=k'
 step:∀ {pt k} (s:Tg),V pt (k + 1)→∃ to b,f85 pt gs s=some (to,b)∧(b=true→to.race=s.next∧V to k)
structure Sw (B0 B1 : Nat) (gs : List (List Int)) (V : Gd → Nat → Prop) (m : List (Gd × Int)) : Prop where
 ok:∀ {pt v k},Wz m pt=some v→V pt k→v=Yi B0 B1 (fun p s=>f85 p gs s) k pt
theorem mgetmX {κ ν : Type} [DecidableEq κ] (k : κ) (v : ν) (k' : κ) : ∀ m : List (κ × ν), Wz (Hf m k v) k' = if k' = k then some v else Wz m k'
 | []=>by
  unfold Hf Wz
  by_cases h:k'=k
  ·subst h; simp
  ·have : ¬ k = k' := fun e => h e.symm
   simp [h,this]
 | p :: m=>by
  have ih:=mgetmX k v k' m
  unfold Hf
  by_cases hp:p.1=k
  ·rw [if_pos hp]
   by_cases h:k'=k
   ·subst h; unfold Wz; simp
   ·have h1 : ¬ k = k' := fun e => h e.symm
    have h2:¬ p.1=k':=fun e=>h (e ▸ hp ▸ rfl)
    rw [if_neg h]; unfold Wz; simp [h1,h2]
  ·rw [if_neg hp]
   by_cases h2:p.1=k'
   ·have h : ¬ k' = k := fun e => hp (h2.trans e)
    rw [if_neg h]; unfold Wz; simp [h2]
   ·unfold Wz at ih ⊢
    rw [List.find?_cons_of_neg (by simp [h2]),List.find?_cons_of_neg (by simp [h2])]
    exact ih
theorem Af {l:BoxLoom} (hl:Kd l) {x:Gg × Tg} (h:x ∈ Jz l):∃ n i,Hs l x.1=some (n,i,x.2.moves)∧En l.Boxes x.1=true∧Kd n∧n.Boxes=l.Boxes∧x.2.next=rcX n∧x.2.colour=Qu l i∧0 ≤ x.2.moves∧x.2.moves ≤ 6:=by
 unfold Jz at h
 obtain ⟨p,hp,he⟩:=List.mem_filterMap.1 h
 have hok:=(Vj hl).1 hp
 unfold Bc at he
 cases ho:Hs l p with
 | none=>rw [ho] at he; cases he
 | some y=>
  obtain ⟨n,i,m⟩:=y
  rw [ho] at he
  cases he
  obtain ⟨h1,h2,_,_,h5,h6⟩:=Db hl hok ho
  exact ⟨n,i,ho,hok,h1,h2,rfl,rfl,h5,h6⟩
theorem Ws {l n:BoxLoom} (h:n.Boxes=l.Boxes) (s:Nat):Th n s=Th l s:=by unfold Th; rw [h]
theorem Bf {l : BoxLoom} (hl : Kd l) {gs : List (List Int)} {V : Gd → Nat → Prop} (hV : PtsX gs V) : ∀ (k : Nat) {l' : BoxLoom} {pt : Gd}, Kd l' → l'.Boxes = l.Boxes → pt.race = rcX l' → V pt k →
  0 ≤ Yi (Th l 0) (Th l 1) (fun p s=>f85 p gs s) k pt∧Yi (Th l 0) (Th l 1) (fun p s=>f85 p gs s) k pt ≤ Tj
 | 0,_,_,_,_,_,_=>by rw [Yi]; unfold Tj; omega
 | k + 1,l',pt,hl',hB,hr,hv=>by
  rw [Yi,hr,← Ws hB,← Ws hB,Sp hl']
  have key:∀ (xs:List (Gg × Tg)) (b:Int),(∀ x ∈ xs,x ∈ Jz l')→0 ≤ b∧b ≤ Tj→0 ≤ xs.foldl (Sy (fun p s=>f85 p gs s) (Yi (Th l' 0) (Th l' 1) (fun p s=>f85 p gs s) k) pt) b∧xs.foldl (Sy (fun p s=>f85 p gs s) (Yi (Th l' 0) (Th l' 1) (fun p s=>f85 p gs s) k) pt) b ≤ Tj:=fun xs=>by
   induction xs with
   | nil=>intro b _ hb; exact hb
   | cons x xs ih=>
    intro b hm hb
    rw [List.foldl_cons]
    refine ih _ (fun y hy=>hm y (by simp [hy])) ?_
    obtain ⟨n,i,_,_,h3,h4,h5,_,h7,h8⟩:=Af hl' (hm x (by simp))
    obtain ⟨to,bb,e1,e2⟩:=hV.step x.2 hv
    unfold Sy
    simp only [e1]
    cases bb with
    | false=>exact hb
    | true=>
     obtain ⟨e3,e4⟩:=e2 rfl
     have:=Bf hl hV k h3 (h4.trans hB) (e3.trans h5) e4
     rw [← Ws hB,← Ws hB] at this
     simp only
     omega
  exact key _ _ (fun x hx=>hx) (by unfold Tj; omega)
theorem s57X {l : BoxLoom} (hl : Kd l) {gs : List (List Int)} {V : Gd → Nat → Prop} (hV : PtsX gs V) : ∀ (k : Nat) {l' : BoxLoom} {pt : Gd} {m : List (Gd × Int)} (n : Nat), k < n → Kd l' → l'.Boxes = l.Boxes → pt.race = rcX l' → V pt k → Sw (Th l 0) (Th l 1) gs V m →
  Yes (f38 n ⟨(Th l 0:Int),(Th l 1:Int),⟨⟩⟩ m gs pt) (fun r=>r.1=Yi (Th l 0) (Th l 1) (fun p s=>f85 p gs s) k pt∧Sw (Th l 0) (Th l 1) gs V r.2)
 | k,_,_,_,0,hk,_,_,_,_,_=>absurd hk (Nat.not_lt_zero _)
 | 0,l',pt,m,n + 1,hk,hl',hB,hr,hv,hm=>by
  rw [f38]
  exact Yes.jn (Ww (beq_iff_eq.2 ((hV.zero hv).2 rfl)) (Yes.some ⟨by rw [Yi],hm⟩))
 | k + 1,l',pt,m,n + 1,hk,hl',hB,hr,hv,hm=>by
  rw [f38]
  refine Yes.jn (Wr (beq_eq_false_iff_ne.2 fun h=>absurd ((hV.zero hv).1 h) (by omega)) (Yes.jn (Yes.cond (fun hc=>?_) (fun hc=>?_))))
  ·obtain ⟨v, hv'⟩ := Option.isSome_iff_exists.1 hc
   refine Yes.some ⟨?_,hm⟩
   rw [hv']; exact hm.ok hv' hv
  ·refine Yes.bind ?_
   refine Yes.bind ?_
   show Yes (f131 _ _ _ _ _) _
   rw [hr,← Ws hB,← Ws hB]
   refine s98X hl' (Rh (Jz l') (fun i s=>s.1=((Jz l').take i).foldl (Sy (fun p s=>f85 p gs s) (Yi (Th l' 0) (Th l' 1) (fun p s=>f85 p gs s) k) pt) Tj∧0 ≤ s.1∧s.1 ≤ Tj∧Sw (Th l' 0) (Th l' 1) gs V s.2) _ ⟨rfl,by show (0:Int) ≤ 1073741824; omega,by show (1073741824:Int) ≤ 1073741824; omega,by rw [Ws hB,Ws hB]; exact hm⟩ (fun i h s hI=>?_) (fun s hI=>?_))
   ·obtain ⟨b, mm⟩ := s
    obtain ⟨i1,i2,i3,i4⟩:=hI
    simp only at i1 i2 i3 i4
    obtain ⟨nl,c,_,_,h3,h4,h5,_,h7,h8⟩:=Af hl' (List.getElem_mem h)
    obtain ⟨to,bb,e1,e2⟩:=hV.step (Jz l')[i].2 hv
    rw [Ag h,List.foldl_append,← i1]
    show Yes ((f85 pt gs (Jz l')[i].2).bind _) _
    rw [e1,Option.bind_some]
    have hs:Sy (fun p s=>f85 p gs s) (Yi (Th l' 0) (Th l' 1) (fun p s=>f85 p gs s) k) pt b (Jz l')[i]=bif bb then min b ((Jz l')[i].2.moves + Yi (Th l' 0) (Th l' 1) (fun p s=>f85 p gs s) k to) else b:=by
     unfold Sy; simp only [e1]; cases bb <;> rfl
    rw [List.foldl_cons,List.foldl_nil,hs]
    cases bb with
    | false=>exact Wr rfl (Yes.some ⟨rfl,rfl,i2,i3,i4⟩)
    | true=>
     obtain ⟨e3,e4⟩:=e2 rfl
     have rg:=Bf hl' hV k h3 h4 (e3.trans h5) e4
     refine Ww rfl (Yes.bind ((s57X hl' hV k n (by omega) h3 h4 (e3.trans h5) e4 i4).mono fun r hr'=>Yes.some ?_))
     obtain ⟨g1,g2⟩:=hr'
     have hw:w64 ((Jz l')[i].2.moves + Yi (Th l' 0) (Th l' 1) (fun p s=>f85 p gs s) k to)=(Jz l')[i].2.moves + Yi (Th l' 0) (Th l' 1) (fun p s=>f85 p gs s) k to:=Ql (by omega) (by unfold Tj at rg; omega)
     have hfin:Yl b (w64 ((Jz l')[i].2.moves + r.1))=min b ((Jz l')[i].2.moves + Yi (Th l' 0) (Th l' 1) (fun p s=>f85 p gs s) k to):=by rw [g1,hw,Nn]
     exact ⟨rfl,hfin,by show 0 ≤ Yl b (w64 ((Jz l')[i].2.moves + r.1)); rw [hfin]; omega,by show Yl b (w64 ((Jz l')[i].2.moves + r.1)) ≤ Tj; rw [hfin]; omega,g2⟩
   ·obtain ⟨i1, i2, i3, i4⟩ := hI
    rw [List.take_length] at i1
    have he:s.1=Yi (Th l' 0) (Th l' 1) (fun p s=>f85 p gs s) (k + 1) pt:=by rw [i1,Yi,hr,Sp hl']
    refine Yes.some (Yes.some ⟨he,⟨fun {p v k'} hg hv'=>?_⟩⟩)
    rw [mgetmX] at hg
    split at hg
    ·rename_i hp; subst hp
     cases hg
     rw [hV.one hv' hv]; exact he
    ·exact i4.ok hg hv'
noncomputable def Jh (l:BoxLoom) (c:Int) (F:BoxLoom→Int) (b:Int) (p:Gg):Int:=match Hs l p with | some x=>if Qu l x.2.1=c then min b (x.2.2 + F x.1) else b | none=>b
noncomputable def cLX : List Int → BoxLoom → Int
 | [],_=>0
 | c :: csX,l=>(Hz l).foldl (Jh l c (fun n=>cLX csX n)) Tj
noncomputable def Du (l:BoxLoom) (c:Int) (k:Int) (F:BoxLoom→List Gg × Int × Int) (s:List Gg × Int × Int × Bool) (p:Gg):List Gg × Int × Int × Bool:=
 match Hs l p with
 | some x => if Qu l x.2.1 = c then
   (if (F x.1).2.2=k∧(s.2.2.2=false ∨ x.2.2 + (F x.1).2.1 < s.2.1) then (p :: (F x.1).1,x.2.2 + (F x.1).2.1,max s.2.2.1 (1 + (F x.1).2.2),true) else (s.1,s.2.1,max s.2.2.1 (1 + (F x.1).2.2),s.2.2.2))
  else s
 | none=>s
noncomputable def rfX : List Int → BoxLoom → List Gg × Int × Int
 | [],_=>([],0,0)
 | c :: csX,l=>(fun s=>(s.1,s.2.1,s.2.2.1)) ((Hz l).foldl (Du l c (csX.length:Int) (fun n=>rfX csX n)) ([],0,0,false))
def WvX (l:BoxLoom) (c:Int) (p:Gg) (x:BoxLoom × Nat × Int):Prop:=Hs l p=some x∧Qu l x.2.1=c
theorem Fg {l:BoxLoom} (hl:Kd l) {c:Int} {p:Gg} (hp:p ∈ Hz l) {x:BoxLoom × Nat × Int} (h:WvX l c p x):Kd x.1∧x.1.Boxes=l.Boxes∧0 ≤ x.2.2∧x.2.2 ≤ 6:=by
 obtain ⟨n,i,m⟩:=x
 obtain ⟨h1,h2,_,_,h5,h6⟩:=Db hl ((Vj hl).1 hp) h.1
 exact ⟨h1,h2,h5,h6⟩
theorem WvX.one {l:BoxLoom} {c:Int} {p:Gg} {x y:BoxLoom × Nat × Int} (h:WvX l c p x) (k:WvX l c p y):x=y:=Option.some.inj (h.1.symm.trans k.1)
end Go.Proofs.YtlmibfohllgmeaaGreat
