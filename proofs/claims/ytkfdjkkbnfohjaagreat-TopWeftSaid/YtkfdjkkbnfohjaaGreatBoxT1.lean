/- Laws of plain functions, part 1. -/
import Derived.Test.YtkfdjkkbnfohjaaGreatCodes
import Derived.Test.YtkfdjkkbnfohjaaGreatYes
set_option maxRecDepth 8000
namespace Go.Proofs.YtkfdjkkbnfohjaaGreat
open Go.RowKit
open Classical
theorem qskip {α:Type} {Q:α→Prop} {c:Bool} {X Y:Option α} (hc:c=false) (h:Yes Y Q):Yes (bif c then X else Y) Q:=by rw [hc]; exact h
theorem qtake {α:Type} {Q:α→Prop} {c:Bool} {X Y:Option α} (hc:c=true) (h:Yes X Q):Yes (bif c then X else Y) Q:=by rw [hc]; exact h
theorem qbind {α β:Type} {Q:β→Prop} {x:Option α} {f:α→Option β} (a:α) (h:x=some a) (k:Yes (f a) Q):Yes (x.bind f) Q:=by rw [h]; exact k
theorem qidx {α:Type} {xs:List α} {i:Nat} (h:i < xs.length):idx xs (i:Int)=some xs[i]:=by unfold idx; rw [if_pos (Int.natCast_nonneg i)]; exact List.getElem?_eq_getElem h
theorem quo_nn {a b:Int} (ha:0 ≤ a) (ha2:a ≤ 9223372036854775807) (hb:0 < b):quo64 a b=some (a / b):=by
 unfold quo64
 rw [if_neg (by omega),Int.tdiv_eq_ediv_of_nonneg ha,w64_id]
 ·have:=Int.ediv_nonneg ha (Int.le_of_lt hb); omega
 ·exact Int.le_trans (Int.ediv_le_self b ha) ha2
theorem min64_eq (a b:Int):min64 a b=min a b:=by unfold min64; omega
theorem max64_eq (a b:Int):max64 a b=max a b:=by unfold max64; omega

def Sml (l:BoxLoom):Prop:=l.Boxes.length ≤ 10∧l.At.length ≤ 10∧l.Shuttles.length ≤ 10
def btw (a b x:Int):Bool:=decide (a ≤ x∧x ≤ b)
theorem btw_iff {a b x:Int}:btw a b x=true ↔ a ≤ x∧x ≤ b:=by simp [btw]
theorem s104 (x a b:Int):f73 x a b=some (!btw a b x):=by unfold f73 btw; by_cases h1:x < a <;> by_cases h2:x > b <;> simp [h1,h2] <;> omega
theorem s103 (xs:List Int) (φ:Int→Option Bool) (p:Int→Bool) (hl:xs.length < 9223372036854775807) (h:∀ a ∈ xs,φ a=some (p a)):f42 xs φ=some (xs.any p):=
 Yes.eq (Yes.bind (Yes.mono (index_is xs φ p hl h) fun _ hr=>Yes.some (index_any hr)))
theorem s86 (xs:List BoxShuttle) (φ:BoxShuttle→Option Bool) (p:BoxShuttle→Bool) (hl:xs.length < 9223372036854775807) (h:∀ a ∈ xs,φ a=some (p a)):f55 xs φ=some (xs.any p):=
 Yes.eq (Yes.bind (Yes.mono (index_is xs φ p hl h) fun _ hr=>Yes.some (index_any hr)))
theorem s96 (xs:List BoxPick) (φ:BoxPick→Option Bool) (p:BoxPick→Bool) (hl:xs.length < 9223372036854775807) (h:∀ a ∈ xs,φ a=some (p a)):f78 xs φ=some (xs.any p):=
 Yes.eq (Yes.bind (Yes.mono (index_is xs φ p hl h) fun _ hr=>Yes.some (index_any hr)))
theorem s87 (a b:Int) (xs:List Int) (hl:xs.length < 9223372036854775807):f56 a b xs=some (xs.all (btw a b)):=by
 unfold f56
 rw [s103 xs _ (fun x=>!btw a b x) hl fun x _=>s104 x a b]
 simp [List.all_eq_not_any_not]
theorem s87_one (a b x:Int):f56 a b [x]=some (btw a b x):=by rw [s87 _ _ _ (by simp)]; simp
def okS (B:List Int) (s:BoxShuttle):Bool:=btw 0 9 s.Colour && btw 0 1 s.Side && btw 0 (B.getD s.Side.toNat 0 - 1) s.Box && decide ((0 ≤ s.Yarn.Low∧s.Yarn.Low ≤ s.Yarn.High)∧s.Yarn.High ≤ 1000)
def sideOk (l:BoxLoom) (i:Nat):Bool:=btw 1 4 (l.Boxes.getD i 0) && btw 0 (l.Boxes.getD i 0 - 1) (l.At.getD i 0)
def Dst (xs:List BoxShuttle):Prop:=∀ i j (hi:i < xs.length) (hj:j < xs.length),j < i→¬ (xs[i].Side=xs[j].Side∧xs[i].Box=xs[j].Box)
def len2 (l:BoxLoom):Prop:=l.Boxes.length=2∧l.At.length=2
noncomputable def chk (l : BoxLoom) : Int := if ¬ len2 l then 4 else if ¬ (∀ i, i < 2 → sideOk l i = true) then 3 else if l.Shuttles.length > 6 then 5
 else if l.Shuttles.length=0 ∨ ¬ (∀ s ∈ l.Shuttles,okS l.Boxes s=true) then 2 else if ¬ Dst l.Shuttles then 6 else 0
theorem len2_b (l:BoxLoom):(bif ((l.Boxes.length:Int) != (2:Int)) then some true else some ((l.At.length:Int) != (2:Int)))=some (decide (¬ len2 l)):=by
 unfold len2
 by_cases h1:l.Boxes.length=2
 ·have e : ((l.Boxes.length : Int) != 2) = false := by simp; omega
  by_cases h2:l.At.length=2
  ·have e2 : ((l.At.length : Int) != 2) = false := by simp; omega
   rw [e,e2]; simp [h1,h2]
  ·have e2 : ((l.At.length : Int) != 2) = true := by simp; omega
   rw [e,e2]; simp [h1,h2]
 ·have e : ((l.Boxes.length : Int) != 2) = true := by simp; omega
  rw [e]; simp [h1]
theorem len0 {α:Type} {xs:List α} (h:((xs.length:Int) == 0)=true):xs.length=0:=by
 have:(xs.length:Int)=0:=by simpa using h
 omega
theorem getD_at {xs:List Int} {i:Nat} (h:i < xs.length):xs[i]=xs.getD i 0:=by simp [List.getD,List.getElem?_eq_getElem h]
section
variable {κ ν:Type} [DecidableEq κ]
theorem keys_mset (k : κ) (v : ν) : ∀ m : List (κ × ν), (mset m k v).map (·.1) = if k ∈ m.map (·.1) then m.map (·.1) else m.map (·.1) ++ [k]
 | []=>rfl
 | p :: m=>by
  have ih:=keys_mset k v m
  by_cases hp:p.1=k
  ·rw [show mset (p :: m) k v=(k,v) :: m from if_pos hp,List.map_cons,List.map_cons,if_pos (by simp [hp])]; simp [hp]
  ·rw [show mset (p :: m) k v = p :: mset m k v from if_neg hp, List.map_cons, List.map_cons, ih]
   by_cases hk:k ∈ m.map (·.1)
   ·rw [if_pos hk,if_pos (List.mem_cons_of_mem _ hk)]
   ·rw [if_neg hk,if_neg (by rw [List.mem_cons]; exact fun h=>h.elim (fun h=>hp h.symm) hk)]; rfl
end
section
variable {κ ν:Type} [DecidableEq κ]
def keyV (s:BoxShuttle):Vector Int 2:=⟨List.toArray [s.Side,s.Box],rfl⟩
end
section
variable {κ ν:Type} [DecidableEq κ]
theorem keyV_eq {s t:BoxShuttle}:keyV s=keyV t ↔ s.Side=t.Side∧s.Box=t.Box:=by
 constructor
 ·intro h
  have h1:=congrArg (fun v:Vector Int 2=>v.toArray.toList) h
  have h2:[s.Side,s.Box]=[t.Side,t.Box]:=h1
  injection h2 with h3 h4
  injection h4 with h4 _
  exact ⟨h3,h4⟩
 ·rintro ⟨h1, h2⟩
  unfold keyV; simp only [h1,h2]
end
section
variable {κ ν:Type} [DecidableEq κ]
def ditI (xs:List BoxShuttle) (n:Nat) (m:List (Vector Int 2 × Bool)):Prop:=
 (∀ k,k ∈ m.map (·.1) ↔ ∃ j,∃ h:j < xs.length,j < n∧keyV xs[j]=k)∧m.length ≤ n∧(m.length=n ↔ ∀ i j (hi:i < xs.length) (hj:j < xs.length),j < i→i < n→¬ (xs[i].Side=xs[j].Side∧xs[i].Box=xs[j].Box))
end
section
variable {κ ν:Type} [DecidableEq κ]
theorem dit_step {xs:List BoxShuttle} {n:Nat} {m:List (Vector Int 2 × Bool)} (hn:n < xs.length) (h:ditI xs n m):ditI xs (n + 1) (mset m (keyV xs[n]) true):=by
 obtain ⟨h1,h2,h3⟩:=h
 have hk:=keys_mset (keyV xs[n]) true m
 have hlen:(mset m (keyV xs[n]) true).length=((mset m (keyV xs[n]) true).map (·.1)).length:=by simp
 by_cases hm:keyV xs[n] ∈ m.map (·.1)
 ·rw [if_pos hm] at hk
  have hl:(mset m (keyV xs[n]) true).length=m.length:=by rw [hlen,hk]; simp
  obtain ⟨j,hj,hjn,he⟩:=(h1 _).1 hm
  refine ⟨fun k=>?_,by omega,⟨fun h=>by omega,fun hd=>absurd (keyV_eq.1 he.symm) (hd n j hn hj hjn (by omega))⟩⟩
  rw [hk,h1]
  constructor
  ·rintro ⟨j,hj,h,he⟩; exact ⟨j,hj,by omega,he⟩
  ·rintro ⟨i, hi, h, he2⟩
   rcases Nat.lt_succ_iff_lt_or_eq.1 h with h | rfl
   ·exact ⟨i,hi,h,he2⟩
   ·exact ⟨j,hj,hjn,he.trans he2⟩
 ·rw [if_neg hm] at hk
  have hl:(mset m (keyV xs[n]) true).length=m.length + 1:=by rw [hlen,hk]; simp
  refine ⟨fun k=>?_,by omega,⟨fun h i j hi hj hji hin=>?_,fun hd=>?_⟩⟩
  ·rw [hk, List.mem_append, h1, List.mem_singleton]
   constructor
   ·rintro (⟨j, hj, h, he⟩ | rfl)
    ·exact ⟨j,hj,by omega,he⟩
    ·exact ⟨n,hn,by omega,rfl⟩
   ·rintro ⟨i, hi, h, he2⟩
    rcases Nat.lt_succ_iff_lt_or_eq.1 h with h | rfl
    ·exact .inl ⟨i,hi,h,he2⟩
    ·exact .inr he2.symm
  ·rcases Nat.lt_succ_iff_lt_or_eq.1 hin with h' | rfl
   ·exact h3.1 (by omega) i j hi hj hji h'
   ·exact fun he=>hm ((h1 _).2 ⟨j,hj,hji,(keyV_eq.2 he).symm⟩)
  ·have := h3.2 fun i j hi hj hji hin => hd i j hi hj hji (by omega)
   omega
end
section
variable {κ ν:Type} [DecidableEq κ]
def sides (l:BoxLoom):Prop:=∀ i,i < 2→sideOk l i=true
end
section
variable {κ ν:Type} [DecidableEq κ]
theorem s85 (l:BoxLoom) (h2:len2 l):f54 ⟨l⟩=some (decide (sides l)):=by
 refine Yes.eq ?_
 unfold f54
 refine Yes.jn (Yes.upto0 2 (by omega) (fun i=>∀ j,j < i→sideOk l j=true) (fun _ h=>absurd h (Nat.not_lt_zero _)) (fun i k hi hI hk=>?_) (fun k hI=>?_))
 ·have hb : i < l.Boxes.length := by rw [h2.1]; exact hi
  have ha:i < l.At.length:=by rw [h2.2]; exact hi
  refine qtake (by simp [h2.1]; omega) (Yes.jn (qbind _ (qidx hb) (Yes.bind (Yes.mono (Q':=fun r=>r=!sideOk l i) ?_ fun r hr=>?_))))
  ·refine qbind _ (s87_one _ _ _) (Yes.cond (fun hc => Yes.some ?_) (fun hc => ?_))
   ·unfold sideOk; rw [← getD_at hb]
    have:btw 1 4 l.Boxes[i]=false:=by simpa using hc
    rw [this]; rfl
   ·have h1 : btw 1 4 l.Boxes[i] = true := by simpa using hc
    have h3:=btw_iff.1 h1
    refine qbind _ (qidx ha) (qbind _ (s87_one _ _ _) (Yes.some ?_))
    unfold sideOk
    rw [← getD_at hb,← getD_at ha,h1,w64_id (by omega) (by omega)]; rfl
  ·subst hr
   refine Yes.cond (fun hc=>Yes.some ?_) (fun hc=>hk fun j hj=>?_)
   ·exact (decide_eq_false (p:=sides l) fun hall=>by rw [hall i hi] at hc; cases hc).symm
   ·rcases Nat.lt_succ_iff_lt_or_eq.1 hj with h | rfl
    ·exact hI j h
    ·simpa using hc
 ·exact qskip (by simp [h2.1]) (Yes.some (decide_eq_true (p:=sides l) hI).symm)
end
section
variable {κ ν:Type} [DecidableEq κ]
theorem s84 (l:BoxLoom) (h2:len2 l) (hB:∀ i,i < 2→1 ≤ l.Boxes.getD i 0∧l.Boxes.getD i 0 ≤ 4) (s:BoxShuttle):f53 ⟨l⟩ s=some (okS l.Boxes s):=by
 refine Yes.eq ?_
 unfold f53
 refine Yes.bind (qbind _ (s87_one _ _ _) (Yes.cond (fun c1=>qbind _ (s87_one _ _ _) (Yes.cond (fun c2=>?_) (fun c2=>Yes.some (Yes.some ?_)))) (fun c1=>Yes.some (Yes.some ?_))))
 ·have c3 := btw_iff.1 c2
  obtain ⟨n,hn⟩:∃ n:Nat,s.Side=n:=⟨s.Side.toNat,by omega⟩
  have hn2:n < 2:=by omega
  have hnb:n < l.Boxes.length:=by rw [h2.1]; exact hn2
  have hbn:=hB n hn2
  have hs:l.Boxes.getD s.Side.toNat 0=l.Boxes[n]:=by rw [hn,Int.toNat_natCast,getD_at hnb]
  rw [← getD_at hnb] at hbn
  refine qbind _ (show idx l.Boxes s.Side=_ by rw [hn]; exact qidx hnb) (qbind _ (s87_one _ _ _) ?_)
  rw [w64_id (by omega) (by omega)]
  refine Yes.cond (fun c4=>qbind _ (s87 _ _ _ (by simp)) (Yes.cond (fun c5=>Yes.some (Yes.some ?_)) (fun c5=>Yes.some (Yes.some ?_)))) (fun c4=>Yes.some (Yes.some ?_))
  ·unfold okS; rw [hs, c1, c2, c4]
   simp only [List.all_cons,List.all_nil,Bool.and_true,Bool.and_eq_true,btw_iff] at c5
   rw [Bool.true_and,Bool.true_and,Bool.true_and,decide_eq_decide]; omega
  ·unfold okS; rw [hs, c1, c2, c4]
   have:¬ ((0 ≤ s.Yarn.Low∧s.Yarn.Low ≤ s.Yarn.High)∧s.Yarn.High ≤ 1000):=fun h=>by
    have:([s.Yarn.Low,s.Yarn.High]:List Int).all (btw 0 1000)=true:=by
     simp only [List.all_cons,List.all_nil,Bool.and_true,Bool.and_eq_true,btw_iff]; omega
    rw [this] at c5; cases c5
   simp [this]
  ·unfold okS; rw [hs,c4]; simp
 ·unfold okS; rw [c2]; simp
 ·unfold okS; rw [c1]; rfl
end
section
variable {κ ν:Type} [DecidableEq κ]
theorem s51 (l:BoxLoom) (h:Sml l):f27 l=some (⟨l⟩,chk l):=by
 refine Yes.eq ?_
 obtain ⟨q1,q2,q3⟩:=h
 unfold f27
 refine Yes.jn (qbind (decide (¬ len2 l)) (by rw [← len2_b l]; cases ((l.Boxes.length:Int) != (2:Int)) <;> rfl) (Yes.cond (fun hc=>Yes.some ?_) (fun hc=>?_)))
 ·unfold chk; rw [if_pos (by simpa using hc)]
 have h2:len2 l:=by simpa using hc
 refine qbind _ (s85 l h2) (Yes.cond (fun hc=>Yes.some ?_) (fun hc=>?_))
 ·have : ¬ ∀ i, i < 2 → sideOk l i = true := show ¬ sides l by simpa using hc
  unfold chk; rw [if_neg (by simpa using h2),if_pos this]
 have hI:∀ i,i < 2→sideOk l i=true:=of_decide_eq_true (p:=sides l) (by simpa using hc)
 have hB:∀ i,i < 2→1 ≤ l.Boxes.getD i 0∧l.Boxes.getD i 0 ≤ 4:=fun i hi=>by
  have:=hI i hi
  unfold sideOk at this
  simp only [Bool.and_eq_true] at this
  exact btw_iff.1 this.1
 refine Yes.cond (fun hc=>Yes.some ?_) (fun hc=>?_)
 ·unfold chk; rw [if_neg (by simpa using h2),if_neg (fun h=>h hI),if_pos (by have:=of_decide_eq_true hc; omega)]
 have h6:¬ l.Shuttles.length > 6:=by have:=of_decide_eq_false hc; omega
 refine Yes.bind (Yes.mono (Q':=fun r=>r=decide (l.Shuttles.length=0 ∨ ¬ (∀ s ∈ l.Shuttles,okS l.Boxes s=true))) ?_ fun r hr=>?_)
 ·refine Yes.cond (fun hc => Yes.some ?_) (fun hc => ?_)
  ·rw [hc]; exact (decide_eq_true (.inl (len0 hc))).symm
  ·have h0 : ¬ l.Shuttles.length = 0 := fun h => by rw [h] at hc; cases hc
   refine qbind _ (s86 _ _ (fun s=>!okS l.Boxes s) (by omega) fun s _=>by unfold f52; rw [s84 l h2 hB s]; rfl) (Yes.some ?_)
   rw [Bool.eq_iff_iff,List.any_eq_true,decide_eq_true_iff]
   constructor
   ·rintro ⟨s, hs, hn⟩
    exact .inr fun hall=>by rw [hall s hs] at hn; cases hn
   ·rintro (h | h)
    ·exact absurd h h0
    ·refine Classical.byContradiction fun hn => h fun s hs => ?_
     cases hk:okS l.Boxes s
     ·exact absurd ⟨s,hs,by rw [hk]; rfl⟩ hn
     ·rfl
 ·subst hr
  refine Yes.cond (fun hc=>Yes.some ?_) (fun hc=>?_)
  ·unfold chk; rw [if_neg (by simpa using h2),if_neg (fun h=>h hI),if_neg h6,if_pos (of_decide_eq_true hc)]
  have hck:chk l=if ¬ Dst l.Shuttles then 6 else 0:=by
   unfold chk; rw [if_neg (by simpa using h2),if_neg (fun h=>h hI),if_neg h6,if_neg (of_decide_eq_false hc)]
  refine Yes.bind (Yes.upto l.Shuttles.length (by omega) (ditI l.Shuttles) ⟨fun k=>by simp,by simp,by simp⟩ (fun i m k hi hI hk=>?_) (fun m k hI=>?_))
  ·exact qtake (by simp; omega) (Yes.bind (qbind _ (qidx hi) (Yes.some (hk _ (dit_step hi hI)))))
  ·refine qskip (by simp) (Yes.some (Yes.jn (Yes.cond (fun hc => Yes.some ?_) (fun hc => Yes.some ?_))))
   ·have hlt := of_decide_eq_true hc
    rw [hck,if_pos (fun hd=>by have:=hI.2.2.2 fun i j hi hj hji _=>hd i j hi hj hji; omega)]
   ·have hge := of_decide_eq_false hc
    have hle:=hI.2.1
    have:=hI.2.2.1 (by omega)
    rw [hck,if_neg (fun hd=>hd fun i j hi hj hji=>this i j hi hj hji hi)]
end
structure LOk (l : BoxLoom) : Prop where
 len:len2 l
 sd:sides l
 few:l.Shuttles.length ≤ 6
 some:0 < l.Shuttles.length
 sh:∀ s ∈ l.Shuttles,okS l.Boxes s=true
 dst:Dst l.Shuttles
theorem chk0 {l:BoxLoom}:chk l=0 ↔ LOk l:=by
 unfold chk
 constructor
 ·intro h
  split at h
  ·cases h
  rename_i h1
  split at h
  ·cases h
  rename_i h2
  split at h
  ·cases h
  rename_i h3
  split at h
  ·cases h
  rename_i h4
  split at h
  ·cases h
  rename_i h5
  have h4':=not_or.1 h4
  exact ⟨Classical.not_not.1 h1,Classical.not_not.1 h2,by omega,by omega,Classical.not_not.1 h4'.2,Classical.not_not.1 h5⟩
 ·intro h
  rw [if_neg (fun k=>k h.len),if_neg (fun k=>k h.sd),if_neg (by have:=h.few; omega),if_neg (fun k=>k.elim (fun e=>by have:=h.some; omega) fun e=>e h.sh),if_neg (fun k=>k h.dst)]
theorem LOk.sml {l:BoxLoom} (h:LOk l):Sml l:=⟨by have:=h.len.1; omega,by have:=h.len.2; omega,by have:=h.few; omega⟩
theorem LOk.box {l:BoxLoom} (h:LOk l) {i:Nat} (hi:i < 2):1 ≤ l.Boxes.getD i 0∧l.Boxes.getD i 0 ≤ 4:=by
 have:=h.sd i hi
 unfold sideOk at this
 simp only [Bool.and_eq_true] at this
 exact btw_iff.1 this.1
theorem LOk.at {l:BoxLoom} (h:LOk l) {i:Nat} (hi:i < 2):0 ≤ l.At.getD i 0∧l.At.getD i 0 ≤ l.Boxes.getD i 0 - 1:=by
 have:=h.sd i hi
 unfold sideOk at this
 simp only [Bool.and_eq_true] at this
 exact btw_iff.1 this.2
def okP (B:List Int) (p:BoxPick):Bool:=btw 0 (B.getD 0 0 - 1) p.Left && btw 0 (B.getD 1 0 - 1) p.Right
noncomputable def chkP (l:BoxLoom) (ps:List BoxPick):Int:=if chk l ≠ 0 then chk l else if ps.length > 24 then 5 else if ¬ (∀ p ∈ ps,okP l.Boxes p=true) then 2 else 0
theorem box_at {l:BoxLoom} (h:len2 l) {i:Nat} (hi:i < 2):idx l.Boxes (i:Int)=some (l.Boxes.getD i 0):=by
 have hb:i < l.Boxes.length:=by rw [h.1]; exact hi
 rw [qidx hb,getD_at hb]
theorem at_at {l:BoxLoom} (h:len2 l) {i:Nat} (hi:i < 2):idx l.At (i:Int)=some (l.At.getD i 0):=by
 have hb:i < l.At.length:=by rw [h.2]; exact hi
 rw [qidx hb,getD_at hb]
theorem s95 {l:BoxLoom} (hl:LOk l) (p:BoxPick):f77 p ⟨l⟩=some (!okP l.Boxes p):=by
 have hb0:=hl.box (i:=0) (by omega)
 have hb1:=hl.box (i:=1) (by omega)
 refine Yes.eq ?_
 unfold f77
 refine Yes.bind (qbind _ (box_at hl.len (i:=0) (by omega)) (qbind _ (s87_one _ _ _) ?_))
 rw [w64_id (by omega) (by omega)]
 refine Yes.cond (fun hc=>Yes.some (Yes.some ?_)) (fun hc=>qbind _ (box_at hl.len (i:=1) (by omega)) (qbind _ (s87_one _ _ _) (Yes.some (Yes.some ?_))))
 ·have : btw 0 (l.Boxes.getD 0 0 - 1) p.Left = false := by simpa using hc
  unfold okP; rw [this]; rfl
 ·have : btw 0 (l.Boxes.getD 0 0 - 1) p.Left = true := by simpa using hc
  rw [w64_id (by omega) (by omega)]
  unfold okP; rw [this]; rfl
theorem s74 (l:BoxLoom) (ps:List BoxPick) (h:Sml l) (hp:ps.length ≤ 1000):f59 l ps=some (⟨l⟩,chkP l ps):=by
 refine Yes.eq ?_
 unfold f59
 refine qbind _ (s51 l h) (Yes.jn (Yes.cond (fun hc=>Yes.some ?_) (fun hc=>?_)))
 ·have : chk l ≠ 0 := by simpa using hc
  unfold chkP; rw [if_pos this]
 have hc0:chk l=0:=by simpa using hc
 have hl:=chk0.1 hc0
 refine Yes.cond (fun hc=>Yes.some ?_) (fun hc=>?_)
 ·have := of_decide_eq_true hc
  unfold chkP; rw [if_neg (fun h=>h hc0),if_pos (by omega)]
 have h24:¬ ps.length > 24:=by have:=of_decide_eq_false hc; omega
 refine qbind _ (s96 _ _ (fun p=>!okP l.Boxes p) (by omega) fun p _=>s95 hl p) (Yes.cond (fun hc=>Yes.some ?_) (fun hc=>Yes.some ?_))
 ·unfold chkP; rw [if_neg (fun h => h hc0), if_neg h24, if_pos]
  intro hall
  obtain ⟨p,hp,hn⟩:=List.any_eq_true.1 hc
  rw [hall p hp] at hn; cases hn
 ·unfold chkP; rw [if_neg (fun h => h hc0), if_neg h24, if_neg]
  intro hn
  refine hn fun p hp=>?_
  cases hk:okP l.Boxes p
  ·have : ps.any (fun p => !okP l.Boxes p) = true := List.any_eq_true.2 ⟨p, hp, by rw [hk]; rfl⟩
   rw [this] at hc; cases hc
  ·rfl
def isAt (xs:List BoxShuttle) (s b:Int) (i:Nat):Prop:=∃ h:i < xs.length,xs[i].Side=s∧xs[i].Box=b
noncomputable def inX (xs:List BoxShuttle) (s b:Int):Int:=if h:∃ i,isAt xs s b i then ((Classical.choose h:Nat):Int) else -1
theorem Dst.one {xs:List BoxShuttle} (hd:Dst xs) {s b:Int} {i j:Nat} (h1:isAt xs s b i) (h2:isAt xs s b j):i=j:=by
 obtain ⟨hi,a1,a2⟩:=h1
 obtain ⟨hj,b1,b2⟩:=h2
 rcases Nat.lt_trichotomy i j with h | h | h
 ·exact absurd ⟨b1.trans a1.symm,b2.trans a2.symm⟩ (hd j i hj hi h)
 ·exact h
 ·exact absurd ⟨a1.trans b1.symm,a2.trans b2.symm⟩ (hd i j hi hj h)
theorem inX_some {xs:List BoxShuttle} (hd:Dst xs) {s b:Int} {i:Nat} (h:isAt xs s b i):inX xs s b=i:=by
 unfold inX
 have he:∃ i,isAt xs s b i:=⟨i,h⟩
 rw [dif_pos he,hd.one (Classical.choose_spec he) h]
theorem inX_none {xs:List BoxShuttle} {s b:Int} (h:¬ ∃ i,isAt xs s b i):inX xs s b=-1:=by
 unfold inX; rw [dif_neg h]
theorem inX_cases {xs:List BoxShuttle} (hd:Dst xs) (s b:Int):(∃ i:Nat,isAt xs s b i∧inX xs s b=i) ∨ ((¬ ∃ i,isAt xs s b i)∧inX xs s b=-1):=by
 by_cases h:∃ i,isAt xs s b i
 ·obtain ⟨i,hi⟩:=h; exact .inl ⟨i,hi,inX_some hd hi⟩
 ·exact .inr ⟨h,inX_none h⟩
def mv (xs:List BoxShuttle) (i:Nat) (s b:Int):List BoxShuttle:=xs.modify i fun x=>{ x with Side:=s,Box:=b }
theorem mv_len {xs:List BoxShuttle} {i:Nat} {s b:Int}:(mv xs i s b).length=xs.length:=by simp [mv]
theorem mv_at {xs:List BoxShuttle} {i:Nat} {s b:Int} {j:Nat} (h:j < (mv xs i s b).length) (h':j < xs.length):(mv xs i s b)[j]=if i=j then { xs[j] with Side:=s,Box:=b } else xs[j]:=by
 simp [mv,List.getElem_modify]
theorem mv_isAt {xs:List BoxShuttle} {i:Nat} (hi:i < xs.length) {s b s' b':Int} {j:Nat}:isAt (mv xs i s b) s' b' j ↔ (i=j∧s=s'∧b=b') ∨ (i ≠ j∧isAt xs s' b' j):=by
 unfold isAt
 constructor
 ·rintro ⟨h, h1, h2⟩
  have h':j < xs.length:=by rw [mv_len] at h; exact h
  rw [mv_at h h'] at h1 h2
  split at h1
  ·rename_i he
   rw [if_pos he] at h2
   exact .inl ⟨he,h1,h2⟩
  ·rename_i he
   rw [if_neg he] at h2
   exact .inr ⟨he,h',h1,h2⟩
 ·rintro (⟨rfl, rfl, rfl⟩ | ⟨he, h, h1, h2⟩)
  ·refine ⟨by rw [mv_len]; exact hi, ?_⟩
   rw [mv_at (by rw [mv_len]; exact hi) hi,if_pos rfl]; exact ⟨rfl,rfl⟩
  ·refine ⟨by rw [mv_len]; exact h, ?_⟩
   rw [mv_at (by rw [mv_len]; exact h) h,if_neg he]; exact ⟨h1,h2⟩
theorem dst_iff {xs:List BoxShuttle}:Dst xs ↔ ∀ s b i j,isAt xs s b i→isAt xs s b j→i=j:=by
 constructor
 ·intro h s b i j h1 h2; exact h.one h1 h2
 ·intro h i j hi hj hji he
  have:=h _ _ i j ⟨hi,rfl,rfl⟩ ⟨hj,he.1.symm,he.2.symm⟩
  omega
theorem mv_dst {xs:List BoxShuttle} (hd:Dst xs) {i:Nat} (hi:i < xs.length) {s b:Int} (hn:¬ ∃ j,isAt xs s b j):Dst (mv xs i s b):=by
 rw [dst_iff] at hd ⊢
 intro s' b' j k h1 h2
 rw [mv_isAt hi] at h1 h2
 rcases h1 with ⟨rfl,rfl,rfl⟩ | ⟨hj,h1⟩
 ·rcases h2 with ⟨rfl, _⟩ | ⟨_, h2⟩
  ·rfl
  ·exact absurd ⟨_,h2⟩ hn
 ·rcases h2 with ⟨rfl, rfl, rfl⟩ | ⟨_, h2⟩
  ·exact absurd ⟨_,h1⟩ hn
  ·exact hd _ _ _ _ h1 h2
def mvs (l:BoxLoom) (p:BoxPick):Int:=(max p.Left (l.At.getD 0 0) - min p.Left (l.At.getD 0 0)) + (max p.Right (l.At.getD 1 0) - min p.Right (l.At.getD 1 0))
noncomputable def oneL (l:BoxLoom) (p:BoxPick):Option (BoxLoom × Nat × Int):=
 if h:(inX l.Shuttles 0 p.Left < 0) ↔ (inX l.Shuttles 1 p.Right < 0) then none
 else if 0 ≤ inX l.Shuttles 0 p.Left then some (⟨l.Boxes,[p.Left,p.Right],mv l.Shuttles (inX l.Shuttles 0 p.Left).toNat 1 p.Right⟩,(inX l.Shuttles 0 p.Left).toNat,mvs l p)
 else some (⟨l.Boxes,[p.Left,p.Right],mv l.Shuttles (inX l.Shuttles 1 p.Right).toNat 0 p.Left⟩,(inX l.Shuttles 1 p.Right).toNat,mvs l p)
theorem okP_iff {B:List Int} {p:BoxPick}:okP B p=true ↔ (0 ≤ p.Left∧p.Left ≤ B.getD 0 0 - 1)∧(0 ≤ p.Right∧p.Right ≤ B.getD 1 0 - 1):=by
 unfold okP; rw [Bool.and_eq_true,btw_iff,btw_iff]
theorem set_set {xs : List BoxShuttle} {i : Nat} (hi : i < xs.length) (s b : Int) :
  (xs.set i { xs[i] with Side:=s }).set i { { xs[i] with Side:=s } with Box:=b }=mv xs i s b:=by
 unfold mv
 rw [List.set_set]
 apply List.ext_getElem (by simp)
 intro n h1 h2
 rw [List.getElem_set,List.getElem_modify]
 split
 ·rename_i he; subst he; rfl
 ·rfl
structure Goes (a a' : List BoxShuttle) (i : Nat) (s c s' c' : Int) : Prop where
 at0:isAt a s c i
 free:¬ ∃ k,isAt a s' c' k
 to:∀ t d k,isAt a' t d k ↔ (i=k∧s'=t∧c'=d) ∨ (i ≠ k∧isAt a t d k)
theorem Goes.mv {a:List BoxShuttle} {i:Nat} {s c s' c':Int} (h:isAt a s c i) (hf:¬ ∃ k,isAt a s' c' k):Goes a (mv a i s' c') i s c s' c':=⟨h,hf,fun _ _ _=>mv_isAt h.1⟩
theorem isAt_same {a:List BoxShuttle} {s c t d:Int} {i:Nat} (h:isAt a s c i) (h':isAt a t d i):s=t∧c=d:=by
 obtain ⟨_,h1,h2⟩:=h; obtain ⟨_,k1,k2⟩:=h'; exact ⟨h1.symm.trans k1,h2.symm.trans k2⟩
theorem Goes.left {a a':List BoxShuttle} {i:Nat} {s c s' c':Int} (hd:Dst a) (h:Goes a a' i s c s' c') (hn:¬ (s=s'∧c=c')):¬ ∃ k,isAt a' s c k:=by
 rintro ⟨k,hk⟩
 rcases (h.to _ _ _).1 hk with ⟨_,h1,h2⟩ | ⟨h1,h2⟩
 ·exact hn ⟨h1.symm,h2.symm⟩
 ·exact h1 (hd.one h.at0 h2)
theorem Goes.there {a a':List BoxShuttle} {i:Nat} {s c s' c':Int} (h:Goes a a' i s c s' c'):isAt a' s' c' i:=(h.to _ _ _).2 (.inl ⟨rfl,rfl,rfl⟩)
def Wh (a b:List BoxShuttle):Prop:=∀ s c i,isAt a s c i ↔ isAt b s c i
theorem Wh.symm {a b:List BoxShuttle} (h:Wh a b):Wh b a:=fun s c i=>(h s c i).symm
theorem oneL_some {l : BoxLoom} (hd : Dst l.Shuttles) {p : BoxPick} {n : BoxLoom} {i : Nat} {m : Int} (h : oneL l p = some (n, i, m)) :
  m=mvs l p∧n.Boxes=l.Boxes∧n.At=[p.Left,p.Right]∧((n.Shuttles=mv l.Shuttles i 1 p.Right∧Goes l.Shuttles n.Shuttles i 0 p.Left 1 p.Right) ∨ (n.Shuttles=mv l.Shuttles i 0 p.Left∧Goes l.Shuttles n.Shuttles i 1 p.Right 0 p.Left)):=by
 unfold oneL at h
 rcases inX_cases hd 0 p.Left with ⟨a,ha,ea⟩ | ⟨ha,ea⟩ <;> rcases inX_cases hd 1 p.Right with ⟨b,hb,eb⟩ | ⟨hb,eb⟩ <;> rw [ea,eb] at h
 ·rw [dif_pos (by omega)] at h; cases h
 ·rw [dif_neg (by omega), if_pos (by omega), Int.toNat_natCast] at h
  cases h
  exact ⟨rfl,rfl,rfl,.inl ⟨rfl,Goes.mv ha hb⟩⟩
 ·rw [dif_neg (by omega), if_neg (by omega), Int.toNat_natCast] at h
  cases h
  exact ⟨rfl,rfl,rfl,.inr ⟨rfl,Goes.mv hb ha⟩⟩
 ·rw [dif_pos (by omega)] at h; cases h
theorem oneL_none {l:BoxLoom} (hd:Dst l.Shuttles) {p:BoxPick}:oneL l p=none ↔ ((inX l.Shuttles 0 p.Left + 1=0) ↔ (inX l.Shuttles 1 p.Right + 1=0)):=by
 unfold oneL
 rcases inX_cases hd 0 p.Left with ⟨a,ha,ea⟩ | ⟨ha,ea⟩ <;> rcases inX_cases hd 1 p.Right with ⟨b,hb,eb⟩ | ⟨hb,eb⟩ <;> rw [ea,eb]
 ·rw [dif_pos (by omega)]; simp; omega
 ·rw [dif_neg (by omega),if_pos (by omega)]; simp; omega
 ·rw [dif_neg (by omega),if_neg (by omega)]; simp; omega
 ·rw [dif_pos (by omega)]; simp
theorem okS_mv {B:List Int} {x:BoxShuttle} (h:okS B x=true) {s:Nat} (hs:s < 2) {c:Int} (hc:0 ≤ c∧c ≤ B.getD s 0 - 1):okS B { x with Side:=s,Box:=c }=true:=by
 unfold okS at h ⊢
 simp only [Bool.and_eq_true] at h ⊢
 exact ⟨⟨⟨h.1.1.1,btw_iff.2 (by omega)⟩,btw_iff.2 (by rw [Int.toNat_natCast]; exact hc)⟩,h.2⟩
theorem mv_ok {B:List Int} {xs:List BoxShuttle} (h:∀ x ∈ xs,okS B x=true) {i s:Nat} (hs:s < 2) {c:Int} (hc:0 ≤ c∧c ≤ B.getD s 0 - 1):∀ x ∈ mv xs i s c,okS B x=true:=by
 intro x hx
 obtain ⟨j,hj,rfl⟩:=List.mem_iff_getElem.1 hx
 have hj':j < xs.length:=by rw [mv_len] at hj; exact hj
 rw [mv_at hj hj']
 split
 ·exact okS_mv (h _ (List.getElem_mem hj')) hs hc
 ·exact h _ (List.getElem_mem hj')
theorem oneL_ok {l : BoxLoom} (hl : LOk l) {p : BoxPick} (hp : okP l.Boxes p = true) {n : BoxLoom} {i : Nat} {m : Int} (h : oneL l p = some (n, i, m)) :
  LOk n∧n.Boxes=l.Boxes∧n.Shuttles.length=l.Shuttles.length∧i < l.Shuttles.length∧0 ≤ m∧m ≤ 6:=by
 obtain ⟨h1,h2,h3,h4⟩:=oneL_some hl.dst h
 have hp':=okP_iff.1 hp
 have b0:=hl.box (i:=0) (by omega)
 have b1:=hl.box (i:=1) (by omega)
 have a0:=hl.at (i:=0) (by omega)
 have a1:=hl.at (i:=1) (by omega)
 have hsd:sides n:=fun j hj=>by
  have hb:=hl.box hj
  unfold sideOk
  rw [h2,h3,Bool.and_eq_true]
  refine ⟨btw_iff.2 hb,btw_iff.2 ?_⟩
  rcases (by omega:j=0 ∨ j=1) with rfl | rfl
  ·exact hp'.1
  ·exact hp'.2
 have hlen:len2 n:=⟨by rw [h2]; exact hl.len.1,by rw [h3]; rfl⟩
 have hm:0 ≤ m∧m ≤ 6:=by rw [h1]; unfold mvs; omega
 rcases h4 with ⟨e,g⟩ | ⟨e,g⟩
 ·have hi : i < l.Shuttles.length := g.at0.1
  have hl':n.Shuttles.length=l.Shuttles.length:=by rw [e,mv_len]
  refine ⟨⟨hlen,hsd,by rw [hl']; exact hl.few,by rw [hl']; exact hl.some,?_,?_⟩,h2,hl',hi,hm⟩
  ·rw [e,h2]; exact mv_ok (s:=1) hl.sh (by omega) hp'.2
  ·rw [e]; exact mv_dst hl.dst hi g.free
 ·have hi : i < l.Shuttles.length := g.at0.1
  have hl':n.Shuttles.length=l.Shuttles.length:=by rw [e,mv_len]
  refine ⟨⟨hlen,hsd,by rw [hl']; exact hl.few,by rw [hl']; exact hl.some,?_,?_⟩,h2,hl',hi,hm⟩
  ·rw [e,h2]; exact mv_ok (s:=0) hl.sh (by omega) hp'.1
  ·rw [e]; exact mv_dst hl.dst hi g.free
theorem vidx {α:Type} {n:Nat} (v:Vector α n) {i:Nat} (h:i < n):idx v.toList (i:Int)=some v[i]:=by
 rw [qidx (by simpa using h)]; simp
theorem vmod_at {β:Type} {n:Nat} {v:Vector β n} {i:Nat} {h:β→β} {j:Nat} (hj:j < n):(vmod v (i:Int) h)[j]=if i=j then h v[j] else v[j]:=by
 unfold vmod
 rw [Int.toNat_natCast]
 split
 ·rw [Vector.getElem_set]; split
  ·rename_i he; subst he; rfl
  ·rfl
 ·rw [if_neg (by omega)]
theorem vset_at {β:Type} {n:Nat} {v:Vector β n} {i:Nat} {y:β} {j:Nat} (hj:j < n):(vset v (i:Int) y)[j]=if i=j then y else v[j]:=by
 unfold vset
 rw [Int.toNat_natCast,Vector.getElem_setIfInBounds]
structure Rel (r : BoxRace) (l : BoxLoom) : Prop where
 bx:∀ (s b:Nat) (hs:s < 2) (hb:b < 4),r.boxes[s][b]=inX l.Shuttles s b + 1
 at_:r.at_=⟨l.At.getD 0 0,l.At.getD 1 0⟩
theorem inX_eq {xs ys:List BoxShuttle} (hx:Dst xs) (hy:Dst ys) {s c:Int} (h:∀ i,isAt xs s c i ↔ isAt ys s c i):inX xs s c=inX ys s c:=by
 rcases inX_cases hx s c with ⟨i,hi,e⟩ | ⟨hi,e⟩
 ·rw [e,inX_some hy ((h i).1 hi)]
 ·rw [e,inX_none fun ⟨j,hj⟩=>hi ⟨j,(h j).2 hj⟩]
theorem Goes.else {a a':List BoxShuttle} {i:Nat} {s c s' c':Int} (ha:Dst a) (ha':Dst a') (h:Goes a a' i s c s' c') {t d:Int} (h1:¬ (t=s∧d=c)) (h2:¬ (t=s'∧d=c')):inX a' t d=inX a t d:=by
 refine inX_eq ha' ha fun k=>?_
 rw [h.to]
 constructor
 ·rintro (⟨_, e1, e2⟩ | ⟨_, h⟩)
  ·exact absurd ⟨e1.symm,e2.symm⟩ h2
  ·exact h
 ·intro hk
  refine .inr ⟨fun he=>?_,hk⟩
  subst he
  have:=isAt_same h.at0 hk
  exact h1 ⟨this.1.symm,this.2.symm⟩
theorem s106 {a b:Int} (ha:0 ≤ a∧a ≤ 1000) (hb:0 ≤ b∧b ≤ 1000):f82 a b=some (max a b - min a b):=by
 unfold f82; rw [max64_eq,min64_eq,w64_id (by omega) (by omega)]
theorem s97 {r : BoxRace} {l : BoxLoom} (hr : Rel r l) (hl : LOk l) {p : BoxPick} (hp : okP l.Boxes p = true) :
  Yes (f75 r p) (fun x=>match oneL l p with | some (n,i,m)=>Rel x.1 n∧x.2.1=(i:Int) + 1∧x.2.2=m | none=>x=(r,0,0)):=by
 have hd:=hl.dst
 have hf:=hl.few
 have hp':=okP_iff.1 hp
 have b0:=hl.box (i:=0) (by omega)
 have b1:=hl.box (i:=1) (by omega)
 have a0:=hl.at (i:=0) (by omega)
 have a1:=hl.at (i:=1) (by omega)
 obtain ⟨L,hL⟩:∃ L:Nat,p.Left=L:=⟨p.Left.toNat,by omega⟩
 obtain ⟨R,hR⟩:∃ R:Nat,p.Right=R:=⟨p.Right.toNat,by omega⟩
 have hL4:L < 4:=by omega
 have hR4:R < 4:=by omega
 have e0:=hr.bx 0 L (by omega) hL4
 have e1:=hr.bx 1 R (by omega) hR4
 unfold f75
 rw [hL,hR]
 refine qbind _ (vidx r.boxes (i:=0) (by omega)) (qbind _ (vidx _ hL4) (qbind _ (vidx r.boxes (i:=1) (by omega)) (qbind _ (vidx _ hR4) (Yes.jn (Yes.cond (fun hc=>Yes.some ?_) (fun hc=>?_))))))
 ·have hn:oneL l p=none:=by
   rw [oneL_none hd,hL,hR]
   have h0:inX l.Shuttles (0:Int) (L:Int) + (1:Int)=r.boxes[0][L]:=e0.symm
   have h1:inX l.Shuttles (1:Int) (R:Int) + (1:Int)=r.boxes[1][R]:=e1.symm
   rw [h0,h1]
   have:=beq_iff_eq.1 hc
   constructor
   ·intro h
    rw [h] at this
    exact beq_iff_eq.1 (this.symm.trans rfl)
   ·intro h
    rw [h] at this
    exact beq_iff_eq.1 (this.trans rfl)
  rw [hn]
 ·have hnn:oneL l p ≠ none:=fun hn=>by
   rw [oneL_none hd,hL,hR] at hn
   have h0:inX l.Shuttles (0:Int) (L:Int) + (1:Int)=r.boxes[0][L]:=e0.symm
   have h1:inX l.Shuttles (1:Int) (R:Int) + (1:Int)=r.boxes[1][R]:=e1.symm
   rw [h0,h1] at hn
   have:(r.boxes[0][L] == (0:Int))=(r.boxes[1][R] == (0:Int)):=by
    rw [Bool.eq_iff_iff,beq_iff_eq,beq_iff_eq]; exact hn
   rw [this] at hc
   simp at hc
  obtain ⟨⟨n,i,m⟩,hon⟩:=Option.ne_none_iff_exists'.1 hnn
  obtain ⟨hm,hnb,hna,hgo⟩:=oneL_some hd hon
  obtain ⟨hln,_,hlen,hil,_⟩:=oneL_ok hl hp hon
  rw [hon]
  have hat:r.at_.Left=l.At.getD 0 0∧r.at_.Right=l.At.getD 1 0:=by rw [hr.at_]; exact ⟨rfl,rfl⟩
  refine qbind _ (s106 (by rw [hat.1]; omega) (by omega)) (qbind _ (s106 (by rw [hat.2]; omega) (by omega)) (qbind _ (vidx r.boxes (i:=0) (by omega)) (qbind _ (vidx _ hL4) (qbind _ (vidx _ (i:=1) (by omega)) (qbind _ (vidx _ hR4) (Yes.some ⟨⟨fun s b hs hb=>?_,?_⟩,?_,?_⟩))))))
  ·show (vmod (vmod r.boxes ((0 : Nat) : Int) (fun b => vset b (L : Int) r.boxes[1][R])) ((1 : Nat) : Int) (fun b => vset b (R : Int) r.boxes[0][L]))[s][b] = _
   have hold:=hr.bx s b hs hb
   rcases (by omega:s=0 ∨ s=1) with rfl | rfl
   ·rw [vmod_at (i := 1) (by omega), if_neg (by omega), vmod_at (i := 0) (by omega), if_pos rfl, vset_at hb]
    split
    ·rename_i hb'; subst hb'
     rcases hgo with ⟨_,g⟩ | ⟨_,g⟩
     ·rw [e1,show inX l.Shuttles ((1:Nat):Int) (R:Int)=-1 from inX_none (hR ▸ g.free),show inX n.Shuttles ((0:Nat):Int) (L:Int)=-1 from inX_none (hL ▸ g.left hd (by simp))]
     ·rw [e1,show inX l.Shuttles ((1:Nat):Int) (R:Int)=i from inX_some hd (hR ▸ g.at0),show inX n.Shuttles ((0:Nat):Int) (L:Int)=i from inX_some hln.dst (hL ▸ g.there)]
    ·rename_i hb'
     rw [hold]; congr 1
     rcases hgo with ⟨_,g⟩ | ⟨_,g⟩
     ·exact (g.else hd hln.dst (by omega) (by omega)).symm
     ·exact (g.else hd hln.dst (by omega) (by omega)).symm
   ·rw [vmod_at (i := 1) (by omega), if_pos rfl, vset_at hb]
    split
    ·rename_i hb'; subst hb'
     rcases hgo with ⟨_,g⟩ | ⟨_,g⟩
     ·rw [e0,show inX l.Shuttles ((0:Nat):Int) (L:Int)=i from inX_some hd (hL ▸ g.at0),show inX n.Shuttles ((1:Nat):Int) (R:Int)=i from inX_some hln.dst (hR ▸ g.there)]
     ·rw [e0,show inX l.Shuttles ((0:Nat):Int) (L:Int)=-1 from inX_none (hL ▸ g.free),show inX n.Shuttles ((1:Nat):Int) (R:Int)=-1 from inX_none (hR ▸ g.left hd (by simp))]
    ·rename_i hb'
     rw [vmod_at (i:=0) (by omega),if_neg (by omega),hold]; congr 1
     rcases hgo with ⟨_,g⟩ | ⟨_,g⟩
     ·exact (g.else hd hln.dst (by omega) (by omega)).symm
     ·exact (g.else hd hln.dst (by omega) (by omega)).symm
  ·show p = _
   rw [hna]; rfl
  ·show w64 (r.boxes[0][L] + r.boxes[1][R]) = _
   rw [e0,e1]
   rcases hgo with ⟨_,g⟩ | ⟨_,g⟩
   ·rw [show inX l.Shuttles ((1:Nat):Int) (R:Int)=-1 from inX_none (hR ▸ g.free),show inX l.Shuttles ((0:Nat):Int) (L:Int)=i from inX_some hd (hL ▸ g.at0),w64_id (by omega) (by omega)]; omega
   ·rw [show inX l.Shuttles ((0:Nat):Int) (L:Int)=-1 from inX_none (hL ▸ g.free),show inX l.Shuttles ((1:Nat):Int) (R:Int)=i from inX_some hd (hR ▸ g.at0),w64_id (by omega) (by omega)]; omega
  ·show w64 (_ + _) = m
   rw [hm,hat.1,hat.2,w64_id (by omega) (by omega)]; unfold mvs; rw [hL,hR]; omega
noncomputable def thr : BoxLoom → List BoxPick → Option BoxLoom
 | l,[]=>some l
 | l, p :: ps => match oneL l p with
  | some (n,_,_)=>thr n ps
  | none=>none
theorem thr_cons (l:BoxLoom) (p:BoxPick) (ps:List BoxPick):thr l (p :: ps)=(oneL l p).bind fun x=>thr x.1 ps:=by
 rw [thr]
 cases oneL l p with
 | none=>rfl
 | some x=>rfl
theorem thr_append : ∀ (a b : List BoxPick) (l : BoxLoom), thr l (a ++ b) = (thr l a).bind fun n => thr n b
 | [],_,_=>rfl
 | p :: a,b,l=>by
  rw [List.cons_append,thr_cons,thr_cons]
  cases oneL l p with
  | none=>rfl
  | some x=>exact thr_append a b x.1
theorem take_succ {α:Type} {xs:List α} {i:Nat} (h:i < xs.length):xs.take (i + 1)=xs.take i ++ [xs[i]]:=by
 rw [List.take_add_one,List.getElem?_eq_getElem h]; rfl
theorem thr_one (l:BoxLoom) (p:BoxPick):thr l [p]=(oneL l p).map (·.1):=by
 unfold thr
 cases oneL l p with
 | none=>rfl
 | some x=>rfl
theorem thr_step {l:BoxLoom} {ps:List BoxPick} {i:Nat} (h:i < ps.length) {n:BoxLoom} (hn:thr l (ps.take i)=some n):thr l (ps.take (i + 1))=(oneL n ps[i]).map (·.1):=by
 rw [take_succ h,thr_append,hn,Option.bind_some,thr_one]
theorem thr_fail {l:BoxLoom} {ps:List BoxPick} {i:Nat} (h:i < ps.length) {n:BoxLoom} (hn:thr l (ps.take i)=some n) (hf:oneL n ps[i]=none):thr l ps=none:=by
 have h1:=thr_step h hn
 rw [hf] at h1
 rw [← List.take_append_drop (i + 1) ps,thr_append,h1]; rfl
theorem thr_ok {ps:List BoxPick}:∀ {l n:BoxLoom},LOk l→(∀ p ∈ ps,okP l.Boxes p=true)→thr l ps=some n→LOk n∧n.Boxes=l.Boxes∧n.Shuttles.length=l.Shuttles.length:=by
 induction ps with
 | nil=>intro l n hl _ h; cases h; exact ⟨hl,rfl,rfl⟩
 | cons p ps ih=>
  intro l n hl hp h
  unfold thr at h
  cases ho:oneL l p with
  | none=>rw [ho] at h; cases h
  | some x=>
   obtain ⟨a,i,m⟩:=x
   rw [ho] at h
   obtain ⟨h1,h2,h3,_⟩:=oneL_ok hl (hp p (by simp)) ho
   obtain ⟨k1,k2,k3⟩:=ih h1 (fun q hq=>by rw [h2]; exact hp q (by simp [hq])) h
   exact ⟨k1,k2.trans h2,k3.trans h3⟩
theorem s54 {l:BoxLoom} (hl:LOk l):Yes (f30 ⟨l⟩ (fun a0 a1=>f61 a0 a1)) (fun r=>Rel r l):=by
 have hf:=hl.few
 unfold f30
 refine Yes.bind (Yes.upto l.Shuttles.length (by omega) (fun n t=>∀ (s b:Nat) (hs:s < 2) (hb:b < 4),(∀ j,j < n→isAt l.Shuttles s b j→t.boxes[s][b]=(j:Int) + 1)∧((∀ j,j < n→¬ isAt l.Shuttles s b j)→t.boxes[s][b]=0)) ?_ (fun i t k hi hI hk=>?_) (fun t k hI=>?_))
 ·intro s b hs hb
  refine ⟨fun j h=>absurd h (Nat.not_lt_zero _),fun _=>?_⟩
  rcases (by omega:s=0 ∨ s=1) with rfl | rfl <;> rcases (by omega:b=0 ∨ b=1 ∨ b=2 ∨ b=3) with rfl | rfl | rfl | rfl <;> rfl
 ·have hok := hl.sh _ (List.getElem_mem hi)
  unfold okS at hok
  simp only [Bool.and_eq_true,btw_iff] at hok
  obtain ⟨⟨⟨_,hs⟩,hb⟩,_⟩:=hok
  obtain ⟨S,hS⟩:∃ S:Nat,l.Shuttles[i].Side=S:=⟨l.Shuttles[i].Side.toNat,by omega⟩
  obtain ⟨B,hB⟩:∃ B:Nat,l.Shuttles[i].Box=B:=⟨l.Shuttles[i].Box.toNat,by omega⟩
  have hS2:S < 2:=by omega
  have hbx:=hl.box hS2
  rw [hS,Int.toNat_natCast] at hb
  have hB4:B < 4:=by omega
  refine qtake (by simp; omega) (Yes.bind (qbind _ (qidx hi) (qbind ((i:Int) + 1) (by show some (w64 ((i:Int) + 1))=_; rw [w64_id (by omega) (by omega)]) ?_)))
  rw [hS,hB]
  refine qbind _ (vidx t.boxes hS2) (qbind _ (vidx _ hB4) (Yes.some (hk _ fun s b hs hb=>?_)))
  show (∀ j,j < i + 1→isAt l.Shuttles s b j→(vmod t.boxes (S:Int) (fun b=>vset b (B:Int) ((i:Int) + 1)))[s][b]=(j:Int) + 1)∧((∀ j,j < i + 1→¬ isAt l.Shuttles s b j)→(vmod t.boxes (S:Int) (fun b=>vset b (B:Int) ((i:Int) + 1)))[s][b]=0)
  have hat:isAt l.Shuttles S B i:=⟨hi,hS,hB⟩
  obtain ⟨o1,o2⟩:=hI s b hs hb
  by_cases hsb:S=s∧B=b
  ·obtain ⟨rfl, rfl⟩ := hsb
   have hv:(vmod t.boxes (S:Int) (fun b=>vset b (B:Int) ((i:Int) + 1)))[S][B]=(i:Int) + 1:=by
    rw [vmod_at hs,if_pos rfl,vset_at hb,if_pos rfl]
   rw [hv]
   exact ⟨fun j _ hj=>by rw [hl.dst.one hj hat],fun h=>absurd hat (h i (by omega))⟩
  ·have hv:(vmod t.boxes (S:Int) (fun b=>vset b (B:Int) ((i:Int) + 1)))[s][b]=t.boxes[s][b]:=by
    by_cases hss:S=s
    ·subst hss
     rw [vmod_at hs,if_pos rfl,vset_at hb,if_neg (fun h=>hsb ⟨rfl,h⟩)]
    ·rw [vmod_at hs,if_neg hss]
   rw [hv]
   refine ⟨fun j hj hja=>?_,fun h=>o2 fun j hj=>h j (by omega)⟩
   rcases Nat.lt_succ_iff_lt_or_eq.1 hj with h | rfl
   ·exact o1 j h hja
   ·have := isAt_same hat hja
    exact absurd ⟨by omega,by omega⟩ hsb
 ·refine qskip (by simp) (Yes.some (qbind _ (at_at hl.len (i := 0) (by omega)) (qbind _ (at_at hl.len (i := 1) (by omega)) (Yes.some ⟨fun s b hs hb => ?_, rfl⟩))))
  obtain ⟨o1,o2⟩:=hI s b hs hb
  show t.boxes[s][b]=_
  rcases inX_cases hl.dst s b with ⟨i,hi,e⟩ | ⟨hi,e⟩
  ·rw [e,o1 i hi.1 hi]
  ·rw [e,o2 fun j _ h=>hi ⟨j,h⟩]; rfl
def plc (x:BoxShuttle):Nat:=x.Side.toNat * 4 + x.Box.toNat
theorem okS_plc {l:BoxLoom} (hl:LOk l) {x:BoxShuttle} (h:x ∈ l.Shuttles):(0 ≤ x.Side∧x.Side ≤ 1)∧(0 ≤ x.Box∧x.Box ≤ 3):=by
 have hok:=hl.sh _ h
 unfold okS at hok
 simp only [Bool.and_eq_true,btw_iff] at hok
 obtain ⟨⟨⟨_,hs⟩,hb⟩,_⟩:=hok
 have:=hl.box (i:=x.Side.toNat) (by omega)
 exact ⟨hs,by omega⟩
theorem plc_lt {l:BoxLoom} (hl:LOk l) {x:BoxShuttle} (h:x ∈ l.Shuttles):plc x < 8:=by
 have:=okS_plc hl h
 unfold plc; omega
theorem isAt_plc {l:BoxLoom} (hl:LOk l) {s c:Int} {i:Nat} (h:isAt l.Shuttles s c i):∃ hi:i < l.Shuttles.length,plc l.Shuttles[i]=s.toNat * 4 + c.toNat:=by
 obtain ⟨hi,h1,h2⟩:=h
 exact ⟨hi,by unfold plc; rw [h1,h2]⟩
theorem plc_isAt {l:BoxLoom} (hl:LOk l) {s c:Nat} (hs:s < 2) (hc:c < 4) {i:Nat} (hi:i < l.Shuttles.length) (h:plc l.Shuttles[i]=s * 4 + c):isAt l.Shuttles s c i:=by
 have:=okS_plc hl (List.getElem_mem hi)
 unfold plc at h
 exact ⟨hi,by omega,by omega⟩
noncomputable def thl : BoxLoom → List BoxPick → List Nat
 | _,[]=>[]
 | l, p :: ps => match oneL l p with
  | some (n,i,_)=>i :: thl n ps
  | none=>[]
noncomputable def mvt : BoxLoom → List BoxPick → Int
 | _,[]=>0
 | l, p :: ps => match oneL l p with
  | some (n,_,m)=>m + mvt n ps
  | none=>0
theorem thl_append : ∀ (a b : List BoxPick) {l n : BoxLoom}, thr l a = some n → thl l (a ++ b) = thl l a ++ thl n b
 | [],b,l,n,h=>by cases h; rfl
 | p :: a,b,l,n,h=>by
  rw [thr_cons] at h
  rw [List.cons_append,thl,thl]
  cases ho:oneL l p with
  | none=>rw [ho] at h; cases h
  | some x=>rw [ho] at h; exact congrArg (List.cons x.2.1) (thl_append a b h)
theorem mvt_append : ∀ (a b : List BoxPick) {l n : BoxLoom}, thr l a = some n → mvt l (a ++ b) = mvt l a + mvt n b
 | [],b,l,n,h=>by cases h; exact (Int.zero_add _).symm
 | p :: a,b,l,n,h=>by
  rw [thr_cons] at h
  rw [List.cons_append,mvt,mvt]
  cases ho:oneL l p with
  | none=>rw [ho] at h; cases h
  | some x=>
   rw [ho] at h
   have:=mvt_append a b h
   show x.2.2 + mvt x.1 (a ++ b)=x.2.2 + mvt x.1 a + mvt n b
   omega
theorem thl_step {l : BoxLoom} {ps : List BoxPick} {i : Nat} (h : i < ps.length) {n a : BoxLoom} {j : Nat} {m : Int} (hn : thr l (ps.take i) = some n) (ho : oneL n ps[i] = some (a, j, m)) :
  thl l (ps.take (i + 1))=thl l (ps.take i) ++ [j]∧mvt l (ps.take (i + 1))=mvt l (ps.take i) + m:=by
 rw [take_succ h,thl_append _ _ hn,mvt_append _ _ hn]
 constructor
 ·rw [thl,ho]; rfl
 ·rw [mvt,ho]; show _ + (m + 0)=_; omega
theorem thl_fail {l:BoxLoom} {ps:List BoxPick} {i:Nat} (h:i < ps.length) {n:BoxLoom} (hn:thr l (ps.take i)=some n) (hf:oneL n ps[i]=none):thl l ps=thl l (ps.take i):=by
 conv=>lhs; rw [← List.take_append_drop i ps,List.drop_eq_getElem_cons h]
 rw [thl_append _ _ hn,thl,hf,List.append_nil]
theorem mvt_bound {l:BoxLoom} (hl:LOk l) {ps:List BoxPick}:(∀ p ∈ ps,okP l.Boxes p=true)→0 ≤ mvt l ps∧mvt l ps ≤ 6 * ps.length:=by
 induction ps generalizing l with
 | nil=>intro _; exact ⟨by rw [mvt]; omega,by rw [mvt]; simp⟩
 | cons p ps ih=>
  intro hp
  rw [mvt]
  cases ho:oneL l p with
  | none=>exact ⟨Int.le_refl _,by simp; omega⟩
  | some x=>
   obtain ⟨n,i,m⟩:=x
   obtain ⟨h1,h2,_,_,h5⟩:=oneL_ok hl (hp p (by simp)) ho
   have:=ih h1 fun q hq=>by rw [h2]; exact hp q (by simp [hq])
   show 0 ≤ m + mvt n ps∧m + mvt n ps ≤ 6 * ((ps.length + 1:Nat):Int)
   omega
end Go.Proofs.YtkfdjkkbnfohjaaGreat
