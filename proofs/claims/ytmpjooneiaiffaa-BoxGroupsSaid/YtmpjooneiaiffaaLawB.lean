/- Plain laws: the error of a loom and of picks. -/
import Derived.Test.YtmpjooneiaiffaaLawA
set_option maxRecDepth 8000
namespace Go.Proofs.Ytmpjooneiaiffaa
open Go.RowKit
open Classical

def okS (B:List Int) (s:Zv):Bool:=btw 0 9 s.Colour && btw 0 1 s.Side && btw 0 (B.getD s.Side.toNat 0 - 1) s.Box && decide ((0 ≤ s.Yarn.Low∧s.Yarn.Low ≤ s.Yarn.High)∧s.Yarn.High ≤ 1000)
def sideOk (l:BoxLoom) (i:Nat):Bool:=btw 1 4 (l.Boxes.getD i 0) && btw 0 (l.Boxes.getD i 0 - 1) (l.At.getD i 0)
def Dst (xs:List Zv):Prop:=∀ i j (hi:i < xs.length) (hj:j < xs.length),j < i→¬ (xs[i].Side=xs[j].Side∧xs[i].Box=xs[j].Box)
def len2 (l:BoxLoom):Prop:=l.Boxes.length=2∧l.At.length=2
noncomputable def chk (l : BoxLoom) : Int := if ¬ len2 l then 4 else if ¬ (∀ i, i < 2 → sideOk l i = true) then 3 else if l.Shuttles.length > 6 then 5
 else if l.Shuttles.length=0 ∨ ¬ (∀ s ∈ l.Shuttles,okS l.Boxes s=true) then 2 else if ¬ Dst l.Shuttles then 6 else 0
theorem len2_b (l:BoxLoom):(bif ((l.Boxes.length:Int) != (2:Int)) then some true else some ((l.At.length:Int) != (2:Int)))=some (decide (¬ len2 l)):=by
 unfold len2
 by_cases h1:l.Boxes.length=2
 ·have e : ((l.Boxes.length : Int) != 2) = false := by simp; omega
  by_cases h2:l.At.length=2
  ·have e2 : ((l.At.length : Int) != 2) = false := by simp; omega
   rw [e,e2]; simp [h1,h2]
  ·have e2 : ((l.At.length : Int) != 2) = true := by simp; omega
   rw [e,e2]; simp [h1,h2]
 ·have e : ((l.Boxes.length : Int) != 2) = true := by simp; omega
  rw [e]; simp [h1]
theorem len0 {α:Type} {xs:List α} (h:((xs.length:Int) == 0)=true):xs.length=0:=by
 have:(xs.length:Int)=0:=by simpa using h
 omega
theorem getD_at {xs:List Int} {i:Nat} (h:i < xs.length):xs[i]=xs.getD i 0:=by simp [List.getD,List.getElem?_eq_getElem h]
theorem side_b {l:BoxLoom} (h:len2 l) {i:Nat} (hi:i < 2):Yes ((idx l.Boxes (i:Int)).bind fun o9=>(f59 o9 (1:Int) (4:Int)).bind fun u7=>bif (!u7) then some true else (idx l.At (i:Int)).bind fun xB=>(idx l.Boxes (i:Int)).bind fun lA=>(f59 xB (0:Int) (w64 (lA - (1:Int)))).bind fun t9=>some (!t9)) (fun r=>r=!sideOk l i):=by
 have hb:i < l.Boxes.length:=by rw [h.1]; exact hi
 have ha:i < l.At.length:=by rw [h.2]; exact hi
 refine Gp _ (qidx hb) (Gp _ (s59 _ _ _) (Yes.cond (fun hc=>Yes.some ?_) (fun hc=>?_)))
 ·unfold sideOk; rw [← getD_at hb]
  have:btw 1 4 l.Boxes[i]=false:=by simpa using hc
  rw [this]; rfl
 ·have h1 : btw 1 4 l.Boxes[i] = true := by simpa using hc
  have h2:=btw_iff.1 h1
  refine Gp _ (qidx ha) (Gp _ (qidx hb) (Gp _ (s59 _ _ _) (Yes.some ?_)))
  unfold sideOk
  rw [← getD_at hb,← getD_at ha,h1,Wi (by omega) (by omega)]; rfl
theorem s20 (l:BoxLoom) (h:Sml l):f20 l=some (chk l):=by
 refine Yes.eq ?_
 obtain ⟨q1,q2,q3⟩:=h
 unfold f20
 refine Yes.jn (Gp _ (len2_b l) (Yes.cond (fun hc=>Yes.some ?_) (fun hc=>?_)))
 ·unfold chk; rw [if_pos (by simpa using hc)]
 have h2:len2 l:=by simpa using hc
 refine Yes.jn (Yes.upto0 2 (by omega) (fun i=>∀ j,j < i→sideOk l j=true) (fun _ h=>absurd h (Nat.not_lt_zero _)) (fun i k hi hI hk=>?_) (fun k hI=>?_))
 ·refine Yes.jn (Qw (by simp; omega) (Yes.jn (Yes.bind ((side_b h2 hi).mono fun r hr => ?_))))
  subst hr
  refine Yes.cond (fun hc=>Yes.some ?_) (fun hc=>hk fun j hj=>?_)
  ·unfold chk
   rw [if_neg (by simpa using h2),if_pos (fun hall=>by rw [hall i hi] at hc; cases hc)]
  ·rcases Nat.lt_succ_iff_lt_or_eq.1 hj with h | rfl
   ·exact hI j h
   ·simpa using hc
 refine Yes.jn (Qi (by simp) (Yes.jn (Yes.cond (fun hc=>Yes.some ?_) (fun hc=>?_))))
 ·unfold chk; rw [if_neg (by simpa using h2),if_neg (by simpa using hI),if_pos (by have:=of_decide_eq_true hc; omega)]
 have h6:¬ l.Shuttles.length > 6:=by have:=of_decide_eq_false hc; omega
 have hB:∀ i,i < 2→1 ≤ l.Boxes.getD i 0∧l.Boxes.getD i 0 ≤ 4:=fun i hi=>by
  have:=hI i hi
  unfold sideOk at this
  simp only [Bool.and_eq_true] at this
  exact btw_iff.1 this.1
 refine Yes.jn (Yes.upto0 l.Shuttles.length (by omega) (fun i=>∀ j (hj:j < l.Shuttles.length),j < i→okS l.Boxes l.Shuttles[j]=true) (fun _ _ h=>absurd h (Nat.not_lt_zero _)) (fun i k hi hI2 hk=>?_) (fun k hI2=>?_))
 ·refine Yes.jn (Qw (by simp; omega) (Yes.jn (Gp _ (qidx hi) (Yes.bind (Yes.mono (Q' := fun r => r = !okS l.Boxes l.Shuttles[i]) ?_ fun r hr => ?_)))))
  ·generalize l.Shuttles[i] = s
   refine Gp _ (s59 _ _ _) (Yes.cond (fun hc=>Yes.some ?_) (fun hc=>Gp _ (s59 _ _ _) (Yes.cond (fun hc2=>Yes.some ?_) (fun hc2=>?_))))
   ·unfold okS; have : btw 0 9 s.Colour = false := by simpa using hc
    rw [this]; rfl
   ·unfold okS; have : btw 0 1 s.Side = false := by simpa using hc2
    rw [this]; simp
   have c1:btw 0 9 s.Colour=true:=by simpa using hc
   have c2:btw 0 1 s.Side=true:=by simpa using hc2
   have c3:=btw_iff.1 c2
   obtain ⟨n,hn⟩:∃ n:Nat,s.Side=n:=⟨s.Side.toNat,by omega⟩
   have hn2:n < 2:=by omega
   have hnb:n < l.Boxes.length:=by rw [h2.1]; exact hn2
   have hbn:=hB n hn2
   have hs:l.Boxes.getD s.Side.toNat 0=l.Boxes[n]:=by rw [hn,Int.toNat_natCast,getD_at hnb]
   rw [← getD_at hnb] at hbn
   refine Gp _ (by rw [hn]; exact qidx hnb) (Gp _ (s59 _ _ _) (Yes.cond (fun hc3=>Yes.some ?_) (fun hc3=>Gp _ (s59 _ _ _) (Yes.cond (fun hc4=>Yes.some ?_) (fun hc4=>Yes.some ?_)))))
   ·rw [Wi (by omega) (by omega)] at hc3
    have:btw 0 (l.Boxes[n] - 1) s.Box=false:=by simpa using hc3
    unfold okS; rw [hs,this]; simp
   ·have : btw 0 s.Yarn.High s.Yarn.Low = false := by simpa using hc4
    have h5:¬ (0 ≤ s.Yarn.Low∧s.Yarn.Low ≤ s.Yarn.High):=fun h=>by rw [btw_iff.2 h] at this; cases this
    unfold okS; simp [h5]
   ·rw [Wi (by omega) (by omega)] at hc3
    have c4:btw 0 (l.Boxes[n] - 1) s.Box=true:=by simpa using hc3
    have c5:btw 0 s.Yarn.High s.Yarn.Low=true:=by simpa using hc4
    have h5:=btw_iff.1 c5
    unfold okS; rw [hs,c1,c2,c4]
    by_cases h7:s.Yarn.High > 1000
    ·have : ¬ s.Yarn.High ≤ 1000 := by omega
     simp [h7,this]
    ·have : s.Yarn.High ≤ 1000 := by omega
     simp [h7,this,h5]
  ·subst hr
   refine Yes.cond (fun hc=>Yes.some ?_) (fun hc=>hk fun j hj hji=>?_)
   ·unfold chk
    rw [if_neg (by simpa using h2),if_neg (by simpa using hI),if_neg h6,if_pos (.inr fun hall=>by rw [hall _ (List.getElem_mem hi)] at hc; cases hc)]
   ·rcases Nat.lt_succ_iff_lt_or_eq.1 hji with h | rfl
    ·exact hI2 j hj h
    ·simpa using hc
 have hall:∀ s ∈ l.Shuttles,okS l.Boxes s=true:=fun s hs=>by
  obtain ⟨j,hj,rfl⟩:=List.mem_iff_getElem.1 hs
  exact hI2 j hj hj
 refine Yes.jn (Qi (by simp) (Yes.jn (Yes.cond (fun hc=>Yes.some ?_) (fun hc=>?_))))
 ·unfold chk; rw [if_neg (by simpa using h2),if_neg (by simpa using hI),if_neg h6,if_pos (.inl (len0 hc))]
 have h0:¬ l.Shuttles.length=0:=fun h=>by rw [h] at hc; cases hc
 have hck:chk l=if ¬ Dst l.Shuttles then 6 else 0:=by
  unfold chk; rw [if_neg (by simpa using h2),if_neg (by simpa using hI),if_neg h6,if_neg (fun h=>h.elim h0 (fun h=>h hall))]
 refine Yes.jn (Yes.upto0 l.Shuttles.length (by omega) (fun n=>∀ i j (hi:i < l.Shuttles.length) (hj:j < l.Shuttles.length),j < i→i < n→¬ (l.Shuttles[i].Side=l.Shuttles[j].Side∧l.Shuttles[i].Box=l.Shuttles[j].Box)) (fun _ _ _ _ _ h=>absurd h (Nat.not_lt_zero _)) (fun i k hi hI3 hk=>?_) (fun k hI3=>?_))
 ·refine Yes.jn (Qw (by simp; omega) (Yes.jn ?_))
  refine Yes.upto0 i (by omega) (fun m=>∀ j (hj:j < l.Shuttles.length),j < m→¬ (l.Shuttles[i].Side=l.Shuttles[j].Side∧l.Shuttles[i].Box=l.Shuttles[j].Box)) (fun _ _ h=>absurd h (Nat.not_lt_zero _)) (fun j k2 hj hI4 hk2=>?_) (fun k2 hI4=>?_)
  ·have hj2 : j < l.Shuttles.length := by omega
   refine Yes.jn (Qw (by simp; omega) (Yes.jn (Yes.bind (Yes.mono (Q':=fun r=>r=decide (l.Shuttles[i].Side=l.Shuttles[j].Side∧l.Shuttles[i].Box=l.Shuttles[j].Box)) ?_ fun r hr=>?_))))
   ·refine Gp _ (qidx hi) (Gp _ (qidx hj2) (Yes.cond (fun hc => Gp _ (qidx hi) (Gp _ (qidx hj2) (Yes.some ?_))) (fun hc => Yes.some ?_)))
    ·have : l.Shuttles[i].Side = l.Shuttles[j].Side := by simpa using hc
     by_cases h9:l.Shuttles[i].Box=l.Shuttles[j].Box <;> simp [this,h9]
    ·have : ¬ l.Shuttles[i].Side = l.Shuttles[j].Side := by simpa using hc
     simp [this]
   ·subst hr
    refine Yes.cond (fun hc=>Yes.some ?_) (fun hc=>hk2 fun m hm hmj=>?_)
    ·rw [hck,if_pos (fun hd=>hd i j hi hj2 hj (of_decide_eq_true hc))]
    ·rcases Nat.lt_succ_iff_lt_or_eq.1 hmj with h | rfl
     ·exact hI4 m hm h
     ·exact of_decide_eq_false hc
  ·refine Yes.jn (Qi (by simp) (hk fun a b ha hb hba han => ?_))
   rcases Nat.lt_succ_iff_lt_or_eq.1 han with h | rfl
   ·exact hI3 a b ha hb hba h
   ·exact hI4 b hb hba
 ·refine Yes.jn (Qi (by simp) (Yes.some ?_))
  rw [hck,if_neg (fun hd=>hd fun i j hi hj hji=>hI3 i j hi hj hji hi)]
end Go.Proofs.Ytmpjooneiaiffaa
