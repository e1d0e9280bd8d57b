/- Plain laws: box's own check of a loom and of picks. -/
import Derived.Test.YtmpjooneiaiffaaLawB
set_option maxRecDepth 8000
namespace Go.Proofs.Ytmpjooneiaiffaa
open Go.RowKit
open Classical

section
variable {κ ν:Type} [DecidableEq κ]
theorem Rs (k : κ) (v : ν) : ∀ m : List (κ × ν), (Hg m k v).map (·.1) = if k ∈ m.map (·.1) then m.map (·.1) else m.map (·.1) ++ [k]
 | []=>rfl
 | p :: m=>by
  have ih:=Rs k v m
  by_cases hp:p.1=k
  ·rw [show Hg (p :: m) k v=(k,v) :: m from if_pos hp,List.map_cons,List.map_cons,if_pos (by simp [hp])]; simp [hp]
  ·rw [show Hg (p :: m) k v = p :: Hg m k v from if_neg hp, List.map_cons, List.map_cons, ih]
   by_cases hk:k ∈ m.map (·.1)
   ·rw [if_pos hk,if_pos (List.mem_cons_of_mem _ hk)]
   ·rw [if_neg hk,if_neg (by rw [List.mem_cons]; exact fun h=>h.elim (fun h=>hp h.symm) hk)]; rfl
end
def Lz (s:Zv):Vector Int 2:=⟨List.toArray [s.Side,s.Box],rfl⟩
theorem keyV_eq {s t:Zv}:Lz s=Lz t ↔ s.Side=t.Side∧s.Box=t.Box:=by
 constructor
 ·intro h
  have h1:=congrArg (fun v:Vector Int 2=>v.toArray.toList) h
  have h2:[s.Side,s.Box]=[t.Side,t.Box]:=h1
  injection h2 with h3 h4
  injection h4 with h4 _
  exact ⟨h3,h4⟩
 ·rintro ⟨h1, h2⟩
  unfold Lz; simp only [h1,h2]
def ditI (xs:List Zv) (n:Nat) (m:List (Vector Int 2 × Bool)):Prop:=
 (∀ k,k ∈ m.map (·.1) ↔ ∃ j,∃ h:j < xs.length,j < n∧Lz xs[j]=k)∧m.length ≤ n∧(m.length=n ↔ ∀ i j (hi:i < xs.length) (hj:j < xs.length),j < i→i < n→¬ (xs[i].Side=xs[j].Side∧xs[i].Box=xs[j].Box))
theorem dit_step {xs:List Zv} {n:Nat} {m:List (Vector Int 2 × Bool)} (hn:n < xs.length) (h:ditI xs n m):ditI xs (n + 1) (Hg m (Lz xs[n]) true):=by
 obtain ⟨h1,h2,h3⟩:=h
 have hk:=Rs (Lz xs[n]) true m
 have hlen:(Hg m (Lz xs[n]) true).length=((Hg m (Lz xs[n]) true).map (·.1)).length:=by simp
 by_cases hm:Lz xs[n] ∈ m.map (·.1)
 ·rw [if_pos hm] at hk
  have hl:(Hg m (Lz xs[n]) true).length=m.length:=by rw [hlen,hk]; simp
  obtain ⟨j,hj,hjn,he⟩:=(h1 _).1 hm
  refine ⟨fun k=>?_,by omega,⟨fun h=>by omega,fun hd=>absurd (keyV_eq.1 he.symm) (hd n j hn hj hjn (by omega))⟩⟩
  rw [hk,h1]
  constructor
  ·rintro ⟨j,hj,h,he⟩; exact ⟨j,hj,by omega,he⟩
  ·rintro ⟨i, hi, h, he2⟩
   rcases Nat.lt_succ_iff_lt_or_eq.1 h with h | rfl
   ·exact ⟨i,hi,h,he2⟩
   ·exact ⟨j,hj,hjn,he.trans he2⟩
 ·rw [if_neg hm] at hk
  have hl:(Hg m (Lz xs[n]) true).length=m.length + 1:=by rw [hlen,hk]; simp
  refine ⟨fun k=>?_,by omega,⟨fun h i j hi hj hji hin=>?_,fun hd=>?_⟩⟩
  ·rw [hk, List.mem_append, h1, List.mem_singleton]
   constructor
   ·rintro (⟨j, hj, h, he⟩ | rfl)
    ·exact ⟨j,hj,by omega,he⟩
    ·exact ⟨n,hn,by omega,rfl⟩
   ·rintro ⟨i, hi, h, he2⟩
    rcases Nat.lt_succ_iff_lt_or_eq.1 h with h | rfl
    ·exact .inl ⟨i,hi,h,he2⟩
    ·exact .inr he2.symm
  ·rcases Nat.lt_succ_iff_lt_or_eq.1 hin with h' | rfl
   ·exact h3.1 (by omega) i j hi hj hji h'
   ·exact fun he=>hm ((h1 _).2 ⟨j,hj,hji,(keyV_eq.2 he).symm⟩)
  ·have := h3.2 fun i j hi hj hji hin => hd i j hi hj hji (by omega)
   omega
def Fx (l:BoxLoom):Prop:=∀ i,i < 2→Jp l i=true
theorem s85 (l:BoxLoom) (h2:Rn l):f85 ⟨l⟩=some (decide (Fx l)):=by
 refine Yes.eq ?_
 unfold f85
 refine Yes.jn (Yes.upto0 2 (by omega) (fun i=>∀ j,j < i→Jp l j=true) (fun _ h=>absurd h (Nat.not_lt_zero _)) (fun i k hi hI hk=>?_) (fun k hI=>?_))
 ·have hb : i < l.Boxes.length := by rw [h2.1]; exact hi
  have ha:i < l.At.length:=by rw [h2.2]; exact hi
  refine Qr (by simp [h2.1]; omega) (Yes.jn (Gj _ (Wu hb) (Yes.bind (Yes.mono (Q':=fun r=>r=!Jp l i) ?_ fun r hr=>?_))))
  ·refine Gj _ (Sy _ _ _) (Yes.cond (fun hc => Yes.some ?_) (fun hc => ?_))
   ·unfold Jp; rw [← Yj hb]
    have:btw 1 4 l.Boxes[i]=false:=by simpa using hc
    rw [this]; rfl
   ·have h1 : btw 1 4 l.Boxes[i] = true := by simpa using hc
    have h3:=Wl.1 h1
    refine Gj _ (Wu ha) (Gj _ (Sy _ _ _) (Yes.some ?_))
    unfold Jp
    rw [← Yj hb,← Yj ha,h1,Tl (by omega) (by omega)]; rfl
  ·subst hr
   refine Yes.cond (fun hc=>Yes.some ?_) (fun hc=>hk fun j hj=>?_)
   ·exact (decide_eq_false (p:=Fx l) fun hall=>by rw [hall i hi] at hc; cases hc).symm
   ·rcases Nat.lt_succ_iff_lt_or_eq.1 hj with h | rfl
    ·exact hI j h
    ·simpa using hc
 ·exact Tw (by simp [h2.1]) (Yes.some (decide_eq_true (p:=Fx l) hI).symm)
theorem s84 (l:BoxLoom) (h2:Rn l) (hB:∀ i,i < 2→1 ≤ l.Boxes.getD i 0∧l.Boxes.getD i 0 ≤ 4) (s:Zv):f84 ⟨l⟩ s=some (okS l.Boxes s):=by
 refine Yes.eq ?_
 unfold f84
 refine Yes.bind (Gj _ (Sy _ _ _) (Yes.cond (fun c1=>Gj _ (Sy _ _ _) (Yes.cond (fun c2=>?_) (fun c2=>Yes.some (Yes.some ?_)))) (fun c1=>Yes.some (Yes.some ?_))))
 ·have c3 := Wl.1 c2
  obtain ⟨n,hn⟩:∃ n:Nat,s.Side=n:=⟨s.Side.toNat,by omega⟩
  have hn2:n < 2:=by omega
  have hnb:n < l.Boxes.length:=by rw [h2.1]; exact hn2
  have hbn:=hB n hn2
  have hs:l.Boxes.getD s.Side.toNat 0=l.Boxes[n]:=by rw [hn,Int.toNat_natCast,Yj hnb]
  rw [← Yj hnb] at hbn
  refine Gj _ (show idx l.Boxes s.Side=_ by rw [hn]; exact Wu hnb) (Gj _ (Sy _ _ _) ?_)
  rw [Tl (by omega) (by omega)]
  refine Yes.cond (fun c4=>Gj _ (s87 _ _ _ (by simp)) (Yes.cond (fun c5=>Yes.some (Yes.some ?_)) (fun c5=>Yes.some (Yes.some ?_)))) (fun c4=>Yes.some (Yes.some ?_))
  ·unfold okS; rw [hs, c1, c2, c4]
   simp only [List.all_cons,List.all_nil,Bool.and_true,Bool.and_eq_true,Wl] at c5
   rw [Bool.true_and,Bool.true_and,Bool.true_and,decide_eq_decide]; omega
  ·unfold okS; rw [hs, c1, c2, c4]
   have:¬ ((0 ≤ s.Yarn.Low∧s.Yarn.Low ≤ s.Yarn.High)∧s.Yarn.High ≤ 1000):=fun h=>by
    have:([s.Yarn.Low,s.Yarn.High]:List Int).all (btw 0 1000)=true:=by
     simp only [List.all_cons,List.all_nil,Bool.and_true,Bool.and_eq_true,Wl]; omega
    rw [this] at c5; cases c5
   simp [this]
  ·unfold okS; rw [hs,c4]; simp
 ·unfold okS; rw [c2]; simp
 ·unfold okS; rw [c1]; rfl
theorem s51 (l:BoxLoom) (h:Sml l):f51 l=some (⟨l⟩,chk l):=by
 refine Yes.eq ?_
 obtain ⟨q1,q2,q3⟩:=h
 unfold f51
 refine Yes.jn (Gj (decide (¬ Rn l)) (by rw [← len2_b l]; cases ((l.Boxes.length:Int) != (2:Int)) <;> rfl) (Yes.cond (fun hc=>Yes.some ?_) (fun hc=>?_)))
 ·unfold chk; rw [if_pos (by simpa using hc)]
 have h2:Rn l:=by simpa using hc
 refine Gj _ (s85 l h2) (Yes.cond (fun hc=>Yes.some ?_) (fun hc=>?_))
 ·have : ¬ ∀ i, i < 2 → Jp l i = true := show ¬ Fx l by simpa using hc
  unfold chk; rw [if_neg (by simpa using h2),if_pos this]
 have hI:∀ i,i < 2→Jp l i=true:=of_decide_eq_true (p:=Fx l) (by simpa using hc)
 have hB:∀ i,i < 2→1 ≤ l.Boxes.getD i 0∧l.Boxes.getD i 0 ≤ 4:=fun i hi=>by
  have:=hI i hi
  unfold Jp at this
  simp only [Bool.and_eq_true] at this
  exact Wl.1 this.1
 refine Yes.cond (fun hc=>Yes.some ?_) (fun hc=>?_)
 ·unfold chk; rw [if_neg (by simpa using h2),if_neg (fun h=>h hI),if_pos (by have:=of_decide_eq_true hc; omega)]
 have h6:¬ l.Shuttles.length > 6:=by have:=of_decide_eq_false hc; omega
 refine Yes.bind (Yes.mono (Q':=fun r=>r=decide (l.Shuttles.length=0 ∨ ¬ (∀ s ∈ l.Shuttles,okS l.Boxes s=true))) ?_ fun r hr=>?_)
 ·refine Yes.cond (fun hc => Yes.some ?_) (fun hc => ?_)
  ·rw [hc]; exact (decide_eq_true (.inl (len0 hc))).symm
  ·have h0 : ¬ l.Shuttles.length = 0 := fun h => by rw [h] at hc; cases hc
   refine Gj _ (s86 _ _ (fun s=>!okS l.Boxes s) (by omega) fun s _=>by unfold f83; rw [s84 l h2 hB s]; rfl) (Yes.some ?_)
   rw [Bool.eq_iff_iff,List.any_eq_true,decide_eq_true_iff]
   constructor
   ·rintro ⟨s, hs, hn⟩
    exact .inr fun hall=>by rw [hall s hs] at hn; cases hn
   ·rintro (h | h)
    ·exact absurd h h0
    ·refine Classical.byContradiction fun hn => h fun s hs => ?_
     cases hk:okS l.Boxes s
     ·exact absurd ⟨s,hs,by rw [hk]; rfl⟩ hn
     ·rfl
 ·subst hr
  refine Yes.cond (fun hc=>Yes.some ?_) (fun hc=>?_)
  ·unfold chk; rw [if_neg (by simpa using h2),if_neg (fun h=>h hI),if_neg h6,if_pos (of_decide_eq_true hc)]
  have hck:chk l=if ¬ Dst l.Shuttles then 6 else 0:=by
   unfold chk; rw [if_neg (by simpa using h2),if_neg (fun h=>h hI),if_neg h6,if_neg (of_decide_eq_false hc)]
  refine Yes.bind (Yes.upto l.Shuttles.length (by omega) (ditI l.Shuttles) ⟨fun k=>by simp,by simp,by simp⟩ (fun i m k hi hI hk=>?_) (fun m k hI=>?_))
  ·exact Qr (by simp; omega) (Yes.bind (Gj _ (Wu hi) (Yes.some (hk _ (dit_step hi hI)))))
  ·refine Tw (by simp) (Yes.some (Yes.jn (Yes.cond (fun hc => Yes.some ?_) (fun hc => Yes.some ?_))))
   ·have hlt := of_decide_eq_true hc
    rw [hck,if_pos (fun hd=>by have:=hI.2.2.2 fun i j hi hj hji _=>hd i j hi hj hji; omega)]
   ·have hge := of_decide_eq_false hc
    have hle:=hI.2.1
    have:=hI.2.2.1 (by omega)
    rw [hck,if_neg (fun hd=>hd fun i j hi hj hji=>this i j hi hj hji hi)]
end Go.Proofs.Ytmpjooneiaiffaa
/- Plain laws: the error of picks; what is in a box; the race. -/
set_option maxRecDepth 8000
namespace Go.Proofs.Ytmpjooneiaiffaa
open Go.RowKit
open Classical

structure LOk (l : BoxLoom) : Prop where
 len:Rn l
 sd:Fx l
 few:l.Shuttles.length ≤ 6
 some:0 < l.Shuttles.length
 sh:∀ s ∈ l.Shuttles,okS l.Boxes s=true
 dst:Dst l.Shuttles
theorem chk0 {l:BoxLoom}:chk l=0 ↔ LOk l:=by
 unfold chk
 constructor
 ·intro h
  split at h
  ·cases h
  rename_i h1
  split at h
  ·cases h
  rename_i h2
  split at h
  ·cases h
  rename_i h3
  split at h
  ·cases h
  rename_i h4
  split at h
  ·cases h
  rename_i h5
  have h4':=not_or.1 h4
  exact ⟨Classical.not_not.1 h1,Classical.not_not.1 h2,by omega,by omega,Classical.not_not.1 h4'.2,Classical.not_not.1 h5⟩
 ·intro h
  rw [if_neg (fun k=>k h.len),if_neg (fun k=>k h.sd),if_neg (by have:=h.few; omega),if_neg (fun k=>k.elim (fun e=>by have:=h.some; omega) fun e=>e h.sh),if_neg (fun k=>k h.dst)]
theorem LOk.sml {l:BoxLoom} (h:LOk l):Sml l:=⟨by have:=h.len.1; omega,by have:=h.len.2; omega,by have:=h.few; omega⟩
theorem LOk.box {l:BoxLoom} (h:LOk l) {i:Nat} (hi:i < 2):1 ≤ l.Boxes.getD i 0∧l.Boxes.getD i 0 ≤ 4:=by
 have:=h.sd i hi
 unfold Jp at this
 simp only [Bool.and_eq_true] at this
 exact Wl.1 this.1
theorem LOk.at {l:BoxLoom} (h:LOk l) {i:Nat} (hi:i < 2):0 ≤ l.At.getD i 0∧l.At.getD i 0 ≤ l.Boxes.getD i 0 - 1:=by
 have:=h.sd i hi
 unfold Jp at this
 simp only [Bool.and_eq_true] at this
 exact Wl.1 this.2
def okP (B:List Int) (p:Gf):Bool:=btw 0 (B.getD 0 0 - 1) p.Left && btw 0 (B.getD 1 0 - 1) p.Right
theorem Rx {l:BoxLoom} (h:Rn l) {i:Nat} (hi:i < 2):idx l.Boxes (i:Int)=some (l.Boxes.getD i 0):=by
 have hb:i < l.Boxes.length:=by rw [h.1]; exact hi
 rw [Wu hb,Yj hb]
theorem Xu {l:BoxLoom} (h:Rn l) {i:Nat} (hi:i < 2):idx l.At (i:Int)=some (l.At.getD i 0):=by
 have hb:i < l.At.length:=by rw [h.2]; exact hi
 rw [Wu hb,Yj hb]
end Go.Proofs.Ytmpjooneiaiffaa
/- Plain laws: what is in a box; one pick, by the reference. -/
set_option maxRecDepth 8000
namespace Go.Proofs.Ytmpjooneiaiffaa
open Go.RowKit
open Classical

def Hs (xs:List Zv) (s b:Int) (i:Nat):Prop:=∃ h:i < xs.length,xs[i].Side=s∧xs[i].Box=b
noncomputable def inX (xs:List Zv) (s b:Int):Int:=if h:∃ i,Hs xs s b i then ((Classical.choose h:Nat):Int) else -1
theorem Dst.one {xs:List Zv} (hd:Dst xs) {s b:Int} {i j:Nat} (h1:Hs xs s b i) (h2:Hs xs s b j):i=j:=by
 obtain ⟨hi,a1,a2⟩:=h1
 obtain ⟨hj,b1,b2⟩:=h2
 rcases Nat.lt_trichotomy i j with h | h | h
 ·exact absurd ⟨b1.trans a1.symm,b2.trans a2.symm⟩ (hd j i hj hi h)
 ·exact h
 ·exact absurd ⟨a1.trans b1.symm,a2.trans b2.symm⟩ (hd i j hi hj h)
theorem Jg {xs:List Zv} (hd:Dst xs) {s b:Int} {i:Nat} (h:Hs xs s b i):inX xs s b=i:=by
 unfold inX
 have he:∃ i,Hs xs s b i:=⟨i,h⟩
 rw [dif_pos he,hd.one (Classical.choose_spec he) h]
theorem Jk {xs:List Zv} {s b:Int} (h:¬ ∃ i,Hs xs s b i):inX xs s b=-1:=by
 unfold inX; rw [dif_neg h]
theorem Jl {xs:List Zv} (hd:Dst xs) (s b:Int):(∃ i:Nat,Hs xs s b i∧inX xs s b=i) ∨ ((¬ ∃ i,Hs xs s b i)∧inX xs s b=-1):=by
 by_cases h:∃ i,Hs xs s b i
 ·obtain ⟨i,hi⟩:=h; exact .inl ⟨i,hi,Jg hd hi⟩
 ·exact .inr ⟨h,Jk h⟩
theorem s89 (l:BoxLoom) (h:l.Shuttles.length ≤ 1000) (hd:Dst l.Shuttles) (s b:Int):f89 l s b=some (inX l.Shuttles s b):=by
 refine Yes.eq ?_
 unfold f89
 refine Yes.jn (Yes.upto0 l.Shuttles.length (by omega) (fun i=>∀ j,j < i→¬ Hs l.Shuttles s b j) (fun _ h=>absurd h (Nat.not_lt_zero _)) (fun i k hi hI hk=>?_) (fun k hI=>?_))
 ·refine Yes.jn (Qr (by simp; omega) (Yes.jn (Yes.bind (Yes.mono (Q' := fun r => r = decide (Hs l.Shuttles s b i)) ?_ fun r hr => ?_))))
  ·refine Gj _ (Wu hi) (Yes.cond (fun hc => Gj _ (Wu hi) (Yes.some ?_)) (fun hc => Yes.some ?_))
   ·have : l.Shuttles[i].Side = s := by simpa using hc
    by_cases h9:l.Shuttles[i].Box=b
    ·rw [decide_eq_true (p:=Hs l.Shuttles s b i) ⟨hi,this,h9⟩]; simp [h9]
    ·rw [decide_eq_false (p:=Hs l.Shuttles s b i) (fun h=>h9 h.2.2)]; simp [h9]
   ·have : ¬ l.Shuttles[i].Side = s := by simpa using hc
    exact (decide_eq_false (p:=Hs l.Shuttles s b i) (fun h=>this h.2.1)).symm
  ·subst hr
   refine Yes.cond (fun hc=>Yes.some (Jg hd (of_decide_eq_true hc)).symm) (fun hc=>hk fun j hj=>?_)
   rcases Nat.lt_succ_iff_lt_or_eq.1 hj with h | rfl
   ·exact hI j h
   ·exact of_decide_eq_false hc
 ·refine Yes.jn (Tw (by simp) (Yes.some (Jk ?_).symm))
  rintro ⟨j,hj⟩
  exact hI j hj.1 hj
def mv (xs:List Zv) (i:Nat) (s b:Int):List Zv:=xs.modify i fun x=>{ x with Side:=s,Box:=b }
theorem Dl {xs:List Zv} {i:Nat} {s b:Int}:(mv xs i s b).length=xs.length:=by simp [mv]
theorem mv_at {xs:List Zv} {i:Nat} {s b:Int} {j:Nat} (h:j < (mv xs i s b).length) (h':j < xs.length):(mv xs i s b)[j]=if i=j then { xs[j] with Side:=s,Box:=b } else xs[j]:=by
 simp [mv,List.getElem_modify]
theorem mv_isAt {xs:List Zv} {i:Nat} (hi:i < xs.length) {s b s' b':Int} {j:Nat}:Hs (mv xs i s b) s' b' j ↔ (i=j∧s=s'∧b=b') ∨ (i ≠ j∧Hs xs s' b' j):=by
 unfold Hs
 constructor
 ·rintro ⟨h, h1, h2⟩
  have h':j < xs.length:=by rw [Dl] at h; exact h
  rw [mv_at h h'] at h1 h2
  split at h1
  ·rename_i he
   rw [if_pos he] at h2
   exact .inl ⟨he,h1,h2⟩
  ·rename_i he
   rw [if_neg he] at h2
   exact .inr ⟨he,h',h1,h2⟩
 ·rintro (⟨rfl, rfl, rfl⟩ | ⟨he, h, h1, h2⟩)
  ·refine ⟨by rw [Dl]; exact hi, ?_⟩
   rw [mv_at (by rw [Dl]; exact hi) hi,if_pos rfl]; exact ⟨rfl,rfl⟩
  ·refine ⟨by rw [Dl]; exact h, ?_⟩
   rw [mv_at (by rw [Dl]; exact h) h,if_neg he]; exact ⟨h1,h2⟩
theorem dst_iff {xs:List Zv}:Dst xs ↔ ∀ s b i j,Hs xs s b i→Hs xs s b j→i=j:=by
 constructor
 ·intro h s b i j h1 h2; exact h.one h1 h2
 ·intro h i j hi hj hji he
  have:=h _ _ i j ⟨hi,rfl,rfl⟩ ⟨hj,he.1.symm,he.2.symm⟩
  omega
theorem mv_dst {xs:List Zv} (hd:Dst xs) {i:Nat} (hi:i < xs.length) {s b:Int} (hn:¬ ∃ j,Hs xs s b j):Dst (mv xs i s b):=by
 rw [dst_iff] at hd ⊢
 intro s' b' j k h1 h2
 rw [mv_isAt hi] at h1 h2
 rcases h1 with ⟨rfl,rfl,rfl⟩ | ⟨hj,h1⟩
 ·rcases h2 with ⟨rfl, _⟩ | ⟨_, h2⟩
  ·rfl
  ·exact absurd ⟨_,h2⟩ hn
 ·rcases h2 with ⟨rfl, rfl, rfl⟩ | ⟨_, h2⟩
  ·exact absurd ⟨_,h1⟩ hn
  ·exact hd _ _ _ _ h1 h2
def mvs (l:BoxLoom) (p:Gf):Int:=(max p.Left (l.At.getD 0 0) - min p.Left (l.At.getD 0 0)) + (max p.Right (l.At.getD 1 0) - min p.Right (l.At.getD 1 0))
noncomputable def Ka (l:BoxLoom) (p:Gf):Option (BoxLoom × Nat × Int):=
 if h:(inX l.Shuttles 0 p.Left < 0) ↔ (inX l.Shuttles 1 p.Right < 0) then none
 else if 0 ≤ inX l.Shuttles 0 p.Left then some (⟨l.Boxes,[p.Left,p.Right],mv l.Shuttles (inX l.Shuttles 0 p.Left).toNat 1 p.Right⟩,(inX l.Shuttles 0 p.Left).toNat,mvs l p)
 else some (⟨l.Boxes,[p.Left,p.Right],mv l.Shuttles (inX l.Shuttles 1 p.Right).toNat 0 p.Left⟩,(inX l.Shuttles 1 p.Right).toNat,mvs l p)
theorem Uu {B:List Int} {p:Gf}:okP B p=true ↔ (0 ≤ p.Left∧p.Left ≤ B.getD 0 0 - 1)∧(0 ≤ p.Right∧p.Right ≤ B.getD 1 0 - 1):=by
 unfold okP; rw [Bool.and_eq_true,Wl,Wl]
theorem set_set {xs : List Zv} {i : Nat} (hi : i < xs.length) (s b : Int) :
  (xs.set i { xs[i] with Side:=s }).set i { { xs[i] with Side:=s } with Box:=b }=mv xs i s b:=by
 unfold mv
 rw [List.set_set]
 apply List.ext_getElem (by simp)
 intro n h1 h2
 rw [List.getElem_set,List.getElem_modify]
 split
 ·rename_i he; subst he; rfl
 ·rfl
theorem Nn {a b c d : Int} (ha : 0 ≤ a ∧ a ≤ 1000) (hb : 0 ≤ b ∧ b ≤ 1000) (hc : 0 ≤ c ∧ c ≤ 1000) (hd : 0 ≤ d ∧ d ≤ 1000) :
  w64 (w64 (w64 (Wk a b - Wm a b) + Wk c d) - Wm c d)=(max a b - min a b) + (max c d - min c d):=by
 simp only [Fy,Sq]
 rw [Tl (n:=max a b - min a b) (by omega) (by omega),Tl (n:=max a b - min a b + max c d) (by omega) (by omega),Tl (by omega) (by omega)]
 omega
theorem s61 {l : BoxLoom} (hl : LOk l) {p : Gf} (hp : okP l.Boxes p = true) :
  f61 l p=some (match Ka l p with | some (n,i,m)=>(n,(i:Int),m,true) | none=>(l,0,0,false)):=by
 have hd:=hl.dst
 have hf:=hl.few
 have hp':=Uu.1 hp
 have b0:=hl.box (i:=0) (by omega)
 have b1:=hl.box (i:=1) (by omega)
 have a0:=hl.at (i:=0) (by omega)
 have a1:=hl.at (i:=1) (by omega)
 refine Yes.eq ?_
 unfold f61
 refine Gj _ (s89 l (by omega) hd 0 p.Left) (Gj _ (s89 l (by omega) hd 1 p.Right) (Yes.jn ?_))
 have hmv:w64 (w64 (w64 (Wk p.Left (l.At.getD 0 0) - Wm p.Left (l.At.getD 0 0)) + Wk p.Right (l.At.getD 1 0)) - Wm p.Right (l.At.getD 1 0))=mvs l p:=
  Nn (by omega) (by omega) (by omega) (by omega)
 rcases Jl hd 0 p.Left with ⟨i,hi,ei⟩ | ⟨hi,ei⟩ <;> rcases Jl hd 1 p.Right with ⟨j,hj,ej⟩ | ⟨hj,ej⟩ <;> rw [ei,ej]
 ·refine Gj true (by rw [decide_eq_true (p := (i : Int) ≥ 0) (by omega), decide_eq_true (p := (j : Int) ≥ 0) (by omega)]; rfl) (Yes.some ?_)
  unfold Ka; rw [ei,ej,dif_pos (by omega)]
 ·refine Gj false (by rw [decide_eq_true (p := (i : Int) ≥ 0) (by omega), decide_eq_false (p := (-1 : Int) ≥ 0) (by omega), decide_eq_false (p := (i : Int) < 0) (by omega)]; rfl) ?_
  refine Gj _ (s50 l hl.sml) (Yes.bind ?_)
  refine Qr (by simp) (Gj _ (Wu hi.1) (Gj { l.Shuttles[i]'hi.1 with Side:=1 } ?_ (Yes.some ?_)))
  ·rw [Int.toNat_natCast]
   show idx (l.Shuttles.set i _) (i:Int)=_
   rw [Wu (by rw [List.length_set]; exact hi.1),List.getElem_set_self]
  ·refine Gj _ (Xu hl.len (i := 0) (by omega)) (Gj _ (Xu hl.len (i := 0) (by omega)) (Gj _ (Xu hl.len (i := 1) (by omega)) (Gj _ (Xu hl.len (i := 1) (by omega)) (Yes.some ?_))))
   rw [hmv]
   unfold Ka; rw [ei,ej,dif_neg (by omega),if_pos (by omega)]
   simp only [Int.toNat_natCast]
   rw [← set_set hi.1]
 ·refine Gj false (by rw [decide_eq_true (p := (-1 : Int) < 0) (by omega), decide_eq_false (p := (-1 : Int) ≥ 0) (by omega), decide_eq_false (p := (j : Int) < 0) (by omega)]; rfl) ?_
  refine Gj _ (s50 l hl.sml) (Yes.bind ?_)
  refine Tw (by simp) (Gj _ (Wu hj.1) (Gj { l.Shuttles[j]'hj.1 with Side:=0 } ?_ (Yes.some ?_)))
  ·rw [Int.toNat_natCast]
   show idx (l.Shuttles.set j _) (j:Int)=_
   rw [Wu (by rw [List.length_set]; exact hj.1),List.getElem_set_self]
  ·refine Gj _ (Xu hl.len (i := 0) (by omega)) (Gj _ (Xu hl.len (i := 0) (by omega)) (Gj _ (Xu hl.len (i := 1) (by omega)) (Gj _ (Xu hl.len (i := 1) (by omega)) (Yes.some ?_))))
   rw [hmv]
   unfold Ka; rw [ei,ej,dif_neg (by omega),if_neg (by omega)]
   simp only [Int.toNat_natCast]
   rw [← set_set hj.1]
 ·refine Gj true (by rw [decide_eq_true (p := (-1 : Int) < 0) (by omega), decide_eq_false (p := (-1 : Int) ≥ 0) (by omega)]; rfl) (Yes.some ?_)
  unfold Ka; rw [ei,ej,dif_pos (by omega)]
end Go.Proofs.Ytmpjooneiaiffaa
