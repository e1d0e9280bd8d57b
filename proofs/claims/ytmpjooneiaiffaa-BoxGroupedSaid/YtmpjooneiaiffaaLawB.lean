import Derived.Test.YtmpjooneiaiffaaCode5
import Derived.Test.YtmpjooneiaiffaaAp
set_option maxRecDepth 8000
set_option maxHeartbeats 4000000
namespace Go.Proofs.Ytmpjooneiaiffaa
open Go.RowKit
end Go.Proofs.Ytmpjooneiaiffaa
/- All functions of this text. -/
/- What a plain function returns: total correctness, step by step. No program is named here. -/
namespace Go.Proofs.Ytmpjooneiaiffaa
open Go.RowKit

def Yes {α:Type} (x:Option α) (Q:α→Prop):Prop:=∃ r,x=some r∧Q r
namespace Yes
variable {α β σ ρ:Type} {Q:α→Prop}
theorem some {a:α} (h:Q a):Yes (Option.some a) Q:=⟨a,rfl,h⟩
theorem bind {x:Option β} {f:β→Option α} (h:Yes x fun b=>Yes (f b) Q):Yes (x.bind f) Q:=by
 obtain ⟨b,rfl,a,ha,hq⟩:=h; exact ⟨a,ha,hq⟩
theorem cond {c:Bool} {x y:Option α} (h1:c=true→Yes x Q) (h2:c=false→Yes y Q):Yes (bif c then x else y) Q:=by
 cases c
 ·exact h2 rfl
 ·exact h1 rfl
theorem jn {k:σ→Option α} {f:(σ→Option α)→Option α} (h:Yes (f k) Q):Yes (Go.Proofs.Ytmpjooneiaiffaa.jn k f) Q:=h
theorem mono {x:Option α} {Q':α→Prop} (h:Yes x Q') (k:∀ a,Q' a→Q a):Yes x Q:=let ⟨a,ha,hq⟩:=h; ⟨a,ha,k a hq⟩
theorem lp_lt {body : (σ → Option α) → σ → Option α} (I : σ → Prop) (μ : σ → Nat)
  (h:∀ s (k:σ→Option α),I s→(∀ s',I s'→μ s' < μ s→Yes (k s') Q)→Yes (body k s) Q):∀ (n:Nat) (s:σ),I s→μ s < n→Yes (Go.Proofs.Ytmpjooneiaiffaa.lp body n s) Q
 | 0,_,_,hm=>absurd hm (Nat.not_lt_zero _)
 | n + 1,s,hi,hm=>by
  rw [Md]
  exact h s _ hi fun s' hi' hm'=>lp_lt I μ h n s' hi' (by omega)
theorem lp {body : (σ → Option α) → σ → Option α} {s : σ} (I : σ → Prop) (μ : σ → Nat) (h0 : I s) (hm : μ s < 18446744073709551616)
  (h:∀ s (k:σ→Option α),I s→(∀ s',I s'→μ s' < μ s→Yes (k s') Q)→Yes (body k s) Q):Yes (Go.Proofs.Ytmpjooneiaiffaa.lp body big s) Q:=lp_lt I μ h _ s h0 (Sa _ hm)
theorem idx {xs:List α} {i:Int} {n:Nat} (hi:i=n) (hl:n < xs.length) (h:Q xs[n]):Yes (Go.Proofs.Ytmpjooneiaiffaa.idx xs i) Q:=by
 subst hi
 refine ⟨xs[n],?_,h⟩
 unfold Go.Proofs.Ytmpjooneiaiffaa.idx
 rw [if_pos (Int.natCast_nonneg n)]
 exact List.getElem?_eq_getElem hl
theorem apnd {b:Nat} {xs ys:List α} {Q:List α→Prop} (hb:(xs.length + ys.length) * b ≤ 140737488355328) (hl:xs.length + ys.length ≤ 9223372036854775807) (h:Q (xs ++ ys)):Yes (Go.Proofs.Ytmpjooneiaiffaa.apnd b xs ys) Q:=by
 refine ⟨_,?_,h⟩
 unfold Go.Proofs.Ytmpjooneiaiffaa.apnd
 rw [if_pos ⟨hb,hl⟩]
theorem eq {x:Option α} {a:α} (h:Yes x fun r=>r=a):x=Option.some a:=by obtain ⟨r,hr,rfl⟩:=h; exact hr
theorem of {x:Option α} {a:α} (h:x=Option.some a) (hq:Q a):Yes x Q:=⟨a,h,hq⟩
end Yes
theorem Tl {n:Int} (h1:-9223372036854775808 ≤ n) (h2:n ≤ 9223372036854775807):w64 n=n:=by
 unfold w64; rw [IntKind.wrap_i64]; omega
theorem Yes.upto {σ α : Type} {Q : α → Prop} {body : (σ × Int → Option α) → σ × Int → Option α} {s0 : σ} (n : Nat) (hn : n < 9223372036854775807) (I : Nat → σ → Prop) (h0 : I 0 s0)
  (hb:∀ (i:Nat) (s:σ) (k:σ × Int→Option α),i < n→I i s→(∀ s',I (i + 1) s'→Yes (k (s',w64 ((i:Int) + 1))) Q)→Yes (body k (s,(i:Int))) Q)
  (he:∀ (s:σ) (k:σ × Int→Option α),I n s→Yes (body k (s,(n:Int))) Q):Yes (Go.Proofs.Ytmpjooneiaiffaa.lp body big (s0,0)) Q:=by
 refine Yes.lp (fun s=>∃ i:Nat,s.2=i∧i ≤ n∧I i s.1) (fun s=>n - s.2.toNat) ⟨0,rfl,Nat.zero_le _,h0⟩ (by simp; omega) ?_
 rintro ⟨s,j⟩ k ⟨i,hi,hle,hI⟩ hk
 simp only at hi hI
 subst hi
 by_cases hlt:i < n
 ·refine hb i s k hlt hI fun s' hs' => ?_
  rw [Tl (by omega) (by omega)]
  refine hk _ ⟨i + 1,by simp,hlt,hs'⟩ ?_
  simp only [Int.toNat_natCast]
  omega
 ·obtain rfl : i = n := by omega
  exact he s k hI
theorem Yes.upto0 {α : Type} {Q : α → Prop} {body : (Int → Option α) → Int → Option α} (n : Nat) (hn : n < 9223372036854775807) (I : Nat → Prop) (h0 : I 0)
  (hb:∀ (i:Nat) (k:Int→Option α),i < n→I i→(I (i + 1)→Yes (k (w64 ((i:Int) + 1))) Q)→Yes (body k (i:Int)) Q)
  (he:∀ (k:Int→Option α),I n→Yes (body k (n:Int)) Q):Yes (Go.Proofs.Ytmpjooneiaiffaa.lp body big 0) Q:=by
 refine Yes.lp (fun s=>∃ i:Nat,s=i∧i ≤ n∧I i) (fun s=>n - s.toNat) ⟨0,rfl,Nat.zero_le _,h0⟩ (by simp; omega) ?_
 rintro s k ⟨i,rfl,hle,hI⟩ hk
 by_cases hlt:i < n
 ·refine hb i k hlt hI fun hs' => ?_
  rw [Tl (by omega) (by omega)]
  refine hk _ ⟨i + 1,by simp,hlt,hs'⟩ ?_
  simp only [Int.toNat_natCast]
  omega
 ·obtain rfl : i = n := by omega
  exact he k hI
theorem Lb {α : Type} (xs : List α) (φ : α → Option Bool) (p : α → Bool) (hl : xs.length < 9223372036854775807) (h : ∀ a ∈ xs, φ a = some (p a)) :
  Yes (Go.Proofs.Ytmpjooneiaiffaa.jn (σ := Unit) (fun _ => some (-1 : Int)) fun k18 => Go.Proofs.Ytmpjooneiaiffaa.lp (σ := Int) (fun k19 s8 => bif decide (s8 < (xs.length : Int)) then
   Go.Proofs.Ytmpjooneiaiffaa.jn (σ:=Unit) (fun _=>k19 (w64 (s8 + (1:Int)))) fun k28=>(Go.Proofs.Ytmpjooneiaiffaa.idx xs s8).bind fun y=>(φ y).bind fun b=>bif b then some s8 else k28 ()
   else k18 ()) big (0:Int)) (fun r=>(∃ i:Nat,r=i∧∃ h:i < xs.length,p xs[i]=true∧∀ j (hj:j < i),p (xs[j]'(by omega))=false) ∨ (r=-1∧∀ a ∈ xs,p a=false)):=by
 refine Yes.jn (Yes.upto0 xs.length hl (fun i=>∀ j (hj:j < xs.length),j < i→p xs[j]=false) (fun _ _ h=>absurd h (Nat.not_lt_zero _)) (fun i k hi hI hk=>?_) (fun k hI=>?_))
 ·refine Yes.cond (fun _ => Yes.jn (Yes.bind (Yes.idx rfl hi (Yes.bind (Yes.of (h _ (List.getElem_mem hi)) (Yes.cond (fun hp => Yes.some ?_) (fun hp => hk ?_))))))) (fun h => absurd h (by simp; omega))
  ·exact .inl ⟨i,rfl,hi,hp,fun j hj=>hI j (by omega) hj⟩
  ·intro j hj hji
   rcases Nat.lt_succ_iff_lt_or_eq.1 hji with h | rfl
   ·exact hI j hj h
   ·exact hp
 ·refine Yes.cond (fun h => absurd h (by simp)) (fun _ => Yes.some (.inr ⟨rfl, fun a ha => ?_⟩))
  obtain ⟨j,hj,rfl⟩:=List.getElem_of_mem ha
  exact hI j hj hj
theorem Rm {α:Type} {xs:List α} {p:α→Bool} {r:Int} (h:(∃ i:Nat,r=i∧∃ h:i < xs.length,p xs[i]=true∧∀ j (hj:j < i),p (xs[j]'(by omega))=false) ∨ (r=-1∧∀ a ∈ xs,p a=false)):decide (r ≥ (0:Int))=xs.any p:=by
 rcases h with ⟨i,rfl,hi,hp,_⟩ | ⟨rfl,h⟩
 ·have : xs.any p = true := List.any_eq_true.2 ⟨_, List.getElem_mem hi, hp⟩
  rw [this]; simp
 ·have : xs.any p = false := List.any_eq_false.2 fun a ha => by simp [h a ha]
  rw [this]; rfl
end Go.Proofs.Ytmpjooneiaiffaa
/- Plain laws: comparisons, copies, integers between others. -/
set_option maxRecDepth 8000
namespace Go.Proofs.Ytmpjooneiaiffaa
open Go.RowKit
open Classical

theorem Tw {α:Type} {Q:α→Prop} {c:Bool} {X Y:Option α} (hc:c=false) (h:Yes Y Q):Yes (bif c then X else Y) Q:=by rw [hc]; exact h
theorem Qr {α:Type} {Q:α→Prop} {c:Bool} {X Y:Option α} (hc:c=true) (h:Yes X Q):Yes (bif c then X else Y) Q:=by rw [hc]; exact h
theorem Gj {α β:Type} {Q:β→Prop} {x:Option α} {f:α→Option β} (a:α) (h:x=some a) (k:Yes (f a) Q):Yes (x.bind f) Q:=by rw [h]; exact k
theorem Wu {α:Type} {xs:List α} {i:Nat} (h:i < xs.length):idx xs (i:Int)=some xs[i]:=by unfold idx; rw [if_pos (Int.natCast_nonneg i)]; exact List.getElem?_eq_getElem h
theorem quo_nn {a b:Int} (ha:0 ≤ a) (ha2:a ≤ 9223372036854775807) (hb:0 < b):Af a b=some (a / b):=by
 unfold Af
 rw [if_neg (by omega),Int.tdiv_eq_ediv_of_nonneg ha,Tl]
 ·have:=Int.ediv_nonneg ha (Int.le_of_lt hb); omega
 ·exact Int.le_trans (Int.ediv_le_self b ha) ha2
theorem Sq (a b:Int):Wm a b=min a b:=by unfold Wm; omega
theorem Fy (a b:Int):Wk a b=max a b:=by unfold Wk; omega

/-! ### Comparisons and copies -/
def Sml (l:BoxLoom):Prop:=l.Boxes.length ≤ 10∧l.At.length ≤ 10∧l.Shuttles.length ≤ 10
theorem s50 (l:BoxLoom) (h:Sml l):f50 l=some l:=by
 obtain ⟨h1,h2,h3⟩:=h
 unfold f50
 rw [show apnd 8 ([]:List Int) l.Boxes=some l.Boxes from by unfold apnd; rw [if_pos (by simp; omega)]; rfl,
  Option.bind_some,show apnd 8 ([]:List Int) l.At=some l.At from by unfold apnd; rw [if_pos (by simp; omega)]; rfl,
  Option.bind_some,show apnd 40 ([]:List Zv) l.Shuttles=some l.Shuttles from by unfold apnd; rw [if_pos (by simp; omega)]; rfl]
 rfl
theorem s15 (l:BoxLoom) (h:Sml l):f15 l=some l:=by unfold f15; rw [s50 l h]; rfl
/-! ### Between two others -/
def btw (a b x:Int):Bool:=decide (a ≤ x∧x ≤ b)
theorem Wl {a b x:Int}:btw a b x=true ↔ a ≤ x∧x ≤ b:=by simp [btw]
theorem s59 (x a b:Int):f59 x a b=some (btw a b x):=by unfold f59 btw; by_cases h1:x ≥ a <;> by_cases h2:x ≤ b <;> simp [h1,h2] <;> omega
theorem s104 (x a b:Int):f104 x a b=some (!btw a b x):=by unfold f104 btw; by_cases h1:x < a <;> by_cases h2:x > b <;> simp [h1,h2] <;> omega
theorem s103 (xs:List Int) (φ:Int→Option Bool) (p:Int→Bool) (hl:xs.length < 9223372036854775807) (h:∀ a ∈ xs,φ a=some (p a)):f103 xs φ=some (xs.any p):=
 Yes.eq (Yes.bind (Yes.mono (Lb xs φ p hl h) fun _ hr=>Yes.some (Rm hr)))
theorem s86 (xs:List Zv) (φ:Zv→Option Bool) (p:Zv→Bool) (hl:xs.length < 9223372036854775807) (h:∀ a ∈ xs,φ a=some (p a)):f86 xs φ=some (xs.any p):=
 Yes.eq (Yes.bind (Yes.mono (Lb xs φ p hl h) fun _ hr=>Yes.some (Rm hr)))
theorem s87 (a b:Int) (xs:List Int) (hl:xs.length < 9223372036854775807):f87 a b xs=some (xs.all (btw a b)):=by
 unfold f87
 rw [s103 xs _ (fun x=>!btw a b x) hl fun x _=>s104 x a b]
 simp [List.all_eq_not_any_not]
theorem Sy (a b x:Int):f87 a b [x]=some (btw a b x):=by rw [s87 _ _ _ (by simp)]; simp
end Go.Proofs.Ytmpjooneiaiffaa
/- Plain laws: the error of a loom and of picks. -/
set_option maxRecDepth 8000
namespace Go.Proofs.Ytmpjooneiaiffaa
open Go.RowKit
open Classical

def okS (B:List Int) (s:Zv):Bool:=btw 0 9 s.Colour && btw 0 1 s.Side && btw 0 (B.getD s.Side.toNat 0 - 1) s.Box && decide ((0 ≤ s.Yarn.Low∧s.Yarn.Low ≤ s.Yarn.High)∧s.Yarn.High ≤ 1000)
def Jp (l:BoxLoom) (i:Nat):Bool:=btw 1 4 (l.Boxes.getD i 0) && btw 0 (l.Boxes.getD i 0 - 1) (l.At.getD i 0)
def Dst (xs:List Zv):Prop:=∀ i j (hi:i < xs.length) (hj:j < xs.length),j < i→¬ (xs[i].Side=xs[j].Side∧xs[i].Box=xs[j].Box)
def Rn (l:BoxLoom):Prop:=l.Boxes.length=2∧l.At.length=2
noncomputable def chk (l : BoxLoom) : Int := if ¬ Rn l then 4 else if ¬ (∀ i, i < 2 → Jp l i = true) then 3 else if l.Shuttles.length > 6 then 5
 else if l.Shuttles.length=0 ∨ ¬ (∀ s ∈ l.Shuttles,okS l.Boxes s=true) then 2 else if ¬ Dst l.Shuttles then 6 else 0
theorem len2_b (l:BoxLoom):(bif ((l.Boxes.length:Int) != (2:Int)) then some true else some ((l.At.length:Int) != (2:Int)))=some (decide (¬ Rn l)):=by
 unfold Rn
 by_cases h1:l.Boxes.length=2
 ·have e : ((l.Boxes.length : Int) != 2) = false := by simp; omega
  by_cases h2:l.At.length=2
  ·have e2 : ((l.At.length : Int) != 2) = false := by simp; omega
   rw [e,e2]; simp [h1,h2]
  ·have e2 : ((l.At.length : Int) != 2) = true := by simp; omega
   rw [e,e2]; simp [h1,h2]
 ·have e : ((l.Boxes.length : Int) != 2) = true := by simp; omega
  rw [e]; simp [h1]
theorem len0 {α:Type} {xs:List α} (h:((xs.length:Int) == 0)=true):xs.length=0:=by
 have:(xs.length:Int)=0:=by simpa using h
 omega
theorem Yj {xs:List Int} {i:Nat} (h:i < xs.length):xs[i]=xs.getD i 0:=by simp [List.getD,List.getElem?_eq_getElem h]
theorem side_b {l:BoxLoom} (h:Rn l) {i:Nat} (hi:i < 2):Yes ((idx l.Boxes (i:Int)).bind fun o9=>(f59 o9 (1:Int) (4:Int)).bind fun u7=>bif (!u7) then some true else (idx l.At (i:Int)).bind fun xB=>(idx l.Boxes (i:Int)).bind fun lA=>(f59 xB (0:Int) (w64 (lA - (1:Int)))).bind fun t9=>some (!t9)) (fun r=>r=!Jp l i):=by
 have hb:i < l.Boxes.length:=by rw [h.1]; exact hi
 have ha:i < l.At.length:=by rw [h.2]; exact hi
 refine Gj _ (Wu hb) (Gj _ (s59 _ _ _) (Yes.cond (fun hc=>Yes.some ?_) (fun hc=>?_)))
 ·unfold Jp; rw [← Yj hb]
  have:btw 1 4 l.Boxes[i]=false:=by simpa using hc
  rw [this]; rfl
 ·have h1 : btw 1 4 l.Boxes[i] = true := by simpa using hc
  have h2:=Wl.1 h1
  refine Gj _ (Wu ha) (Gj _ (Wu hb) (Gj _ (s59 _ _ _) (Yes.some ?_)))
  unfold Jp
  rw [← Yj hb,← Yj ha,h1,Tl (by omega) (by omega)]; rfl
theorem s20 (l:BoxLoom) (h:Sml l):f20 l=some (chk l):=by
 refine Yes.eq ?_
 obtain ⟨q1,q2,q3⟩:=h
 unfold f20
 refine Yes.jn (Gj _ (len2_b l) (Yes.cond (fun hc=>Yes.some ?_) (fun hc=>?_)))
 ·unfold chk; rw [if_pos (by simpa using hc)]
 have h2:Rn l:=by simpa using hc
 refine Yes.jn (Yes.upto0 2 (by omega) (fun i=>∀ j,j < i→Jp l j=true) (fun _ h=>absurd h (Nat.not_lt_zero _)) (fun i k hi hI hk=>?_) (fun k hI=>?_))
 ·refine Yes.jn (Qr (by simp; omega) (Yes.jn (Yes.bind ((side_b h2 hi).mono fun r hr => ?_))))
  subst hr
  refine Yes.cond (fun hc=>Yes.some ?_) (fun hc=>hk fun j hj=>?_)
  ·unfold chk
   rw [if_neg (by simpa using h2),if_pos (fun hall=>by rw [hall i hi] at hc; cases hc)]
  ·rcases Nat.lt_succ_iff_lt_or_eq.1 hj with h | rfl
   ·exact hI j h
   ·simpa using hc
 refine Yes.jn (Tw (by simp) (Yes.jn (Yes.cond (fun hc=>Yes.some ?_) (fun hc=>?_))))
 ·unfold chk; rw [if_neg (by simpa using h2),if_neg (by simpa using hI),if_pos (by have:=of_decide_eq_true hc; omega)]
 have h6:¬ l.Shuttles.length > 6:=by have:=of_decide_eq_false hc; omega
 have hB:∀ i,i < 2→1 ≤ l.Boxes.getD i 0∧l.Boxes.getD i 0 ≤ 4:=fun i hi=>by
  have:=hI i hi
  unfold Jp at this
  simp only [Bool.and_eq_true] at this
  exact Wl.1 this.1
 refine Yes.jn (Yes.upto0 l.Shuttles.length (by omega) (fun i=>∀ j (hj:j < l.Shuttles.length),j < i→okS l.Boxes l.Shuttles[j]=true) (fun _ _ h=>absurd h (Nat.not_lt_zero _)) (fun i k hi hI2 hk=>?_) (fun k hI2=>?_))
 ·refine Yes.jn (Qr (by simp; omega) (Yes.jn (Gj _ (Wu hi) (Yes.bind (Yes.mono (Q' := fun r => r = !okS l.Boxes l.Shuttles[i]) ?_ fun r hr => ?_)))))
  ·generalize l.Shuttles[i] = s
   refine Gj _ (s59 _ _ _) (Yes.cond (fun hc=>Yes.some ?_) (fun hc=>Gj _ (s59 _ _ _) (Yes.cond (fun hc2=>Yes.some ?_) (fun hc2=>?_))))
   ·unfold okS; have : btw 0 9 s.Colour = false := by simpa using hc
    rw [this]; rfl
   ·unfold okS; have : btw 0 1 s.Side = false := by simpa using hc2
    rw [this]; simp
   have c1:btw 0 9 s.Colour=true:=by simpa using hc
   have c2:btw 0 1 s.Side=true:=by simpa using hc2
   have c3:=Wl.1 c2
   obtain ⟨n,hn⟩:∃ n:Nat,s.Side=n:=⟨s.Side.toNat,by omega⟩
   have hn2:n < 2:=by omega
   have hnb:n < l.Boxes.length:=by rw [h2.1]; exact hn2
   have hbn:=hB n hn2
   have hs:l.Boxes.getD s.Side.toNat 0=l.Boxes[n]:=by rw [hn,Int.toNat_natCast,Yj hnb]
   rw [← Yj hnb] at hbn
   refine Gj _ (by rw [hn]; exact Wu hnb) (Gj _ (s59 _ _ _) (Yes.cond (fun hc3=>Yes.some ?_) (fun hc3=>Gj _ (s59 _ _ _) (Yes.cond (fun hc4=>Yes.some ?_) (fun hc4=>Yes.some ?_)))))
   ·rw [Tl (by omega) (by omega)] at hc3
    have:btw 0 (l.Boxes[n] - 1) s.Box=false:=by simpa using hc3
    unfold okS; rw [hs,this]; simp
   ·have : btw 0 s.Yarn.High s.Yarn.Low = false := by simpa using hc4
    have h5:¬ (0 ≤ s.Yarn.Low∧s.Yarn.Low ≤ s.Yarn.High):=fun h=>by rw [Wl.2 h] at this; cases this
    unfold okS; simp [h5]
   ·rw [Tl (by omega) (by omega)] at hc3
    have c4:btw 0 (l.Boxes[n] - 1) s.Box=true:=by simpa using hc3
    have c5:btw 0 s.Yarn.High s.Yarn.Low=true:=by simpa using hc4
    have h5:=Wl.1 c5
    unfold okS; rw [hs,c1,c2,c4]
    by_cases h7:s.Yarn.High > 1000
    ·have : ¬ s.Yarn.High ≤ 1000 := by omega
     simp [h7,this]
    ·have : s.Yarn.High ≤ 1000 := by omega
     simp [h7,this,h5]
  ·subst hr
   refine Yes.cond (fun hc=>Yes.some ?_) (fun hc=>hk fun j hj hji=>?_)
   ·unfold chk
    rw [if_neg (by simpa using h2),if_neg (by simpa using hI),if_neg h6,if_pos (.inr fun hall=>by rw [hall _ (List.getElem_mem hi)] at hc; cases hc)]
   ·rcases Nat.lt_succ_iff_lt_or_eq.1 hji with h | rfl
    ·exact hI2 j hj h
    ·simpa using hc
 have hall:∀ s ∈ l.Shuttles,okS l.Boxes s=true:=fun s hs=>by
  obtain ⟨j,hj,rfl⟩:=List.mem_iff_getElem.1 hs
  exact hI2 j hj hj
 refine Yes.jn (Tw (by simp) (Yes.jn (Yes.cond (fun hc=>Yes.some ?_) (fun hc=>?_))))
 ·unfold chk; rw [if_neg (by simpa using h2),if_neg (by simpa using hI),if_neg h6,if_pos (.inl (len0 hc))]
 have h0:¬ l.Shuttles.length=0:=fun h=>by rw [h] at hc; cases hc
 have hck:chk l=if ¬ Dst l.Shuttles then 6 else 0:=by
  unfold chk; rw [if_neg (by simpa using h2),if_neg (by simpa using hI),if_neg h6,if_neg (fun h=>h.elim h0 (fun h=>h hall))]
 refine Yes.jn (Yes.upto0 l.Shuttles.length (by omega) (fun n=>∀ i j (hi:i < l.Shuttles.length) (hj:j < l.Shuttles.length),j < i→i < n→¬ (l.Shuttles[i].Side=l.Shuttles[j].Side∧l.Shuttles[i].Box=l.Shuttles[j].Box)) (fun _ _ _ _ _ h=>absurd h (Nat.not_lt_zero _)) (fun i k hi hI3 hk=>?_) (fun k hI3=>?_))
 ·refine Yes.jn (Qr (by simp; omega) (Yes.jn ?_))
  refine Yes.upto0 i (by omega) (fun m=>∀ j (hj:j < l.Shuttles.length),j < m→¬ (l.Shuttles[i].Side=l.Shuttles[j].Side∧l.Shuttles[i].Box=l.Shuttles[j].Box)) (fun _ _ h=>absurd h (Nat.not_lt_zero _)) (fun j k2 hj hI4 hk2=>?_) (fun k2 hI4=>?_)
  ·have hj2 : j < l.Shuttles.length := by omega
   refine Yes.jn (Qr (by simp; omega) (Yes.jn (Yes.bind (Yes.mono (Q':=fun r=>r=decide (l.Shuttles[i].Side=l.Shuttles[j].Side∧l.Shuttles[i].Box=l.Shuttles[j].Box)) ?_ fun r hr=>?_))))
   ·refine Gj _ (Wu hi) (Gj _ (Wu hj2) (Yes.cond (fun hc => Gj _ (Wu hi) (Gj _ (Wu hj2) (Yes.some ?_))) (fun hc => Yes.some ?_)))
    ·have : l.Shuttles[i].Side = l.Shuttles[j].Side := by simpa using hc
     by_cases h9:l.Shuttles[i].Box=l.Shuttles[j].Box <;> simp [this,h9]
    ·have : ¬ l.Shuttles[i].Side = l.Shuttles[j].Side := by simpa using hc
     simp [this]
   ·subst hr
    refine Yes.cond (fun hc=>Yes.some ?_) (fun hc=>hk2 fun m hm hmj=>?_)
    ·rw [hck,if_pos (fun hd=>hd i j hi hj2 hj (of_decide_eq_true hc))]
    ·rcases Nat.lt_succ_iff_lt_or_eq.1 hmj with h | rfl
     ·exact hI4 m hm h
     ·exact of_decide_eq_false hc
  ·refine Yes.jn (Tw (by simp) (hk fun a b ha hb hba han => ?_))
   rcases Nat.lt_succ_iff_lt_or_eq.1 han with h | rfl
   ·exact hI3 a b ha hb hba h
   ·exact hI4 b hb hba
 ·refine Yes.jn (Tw (by simp) (Yes.some ?_))
  rw [hck,if_neg (fun hd=>hd fun i j hi hj hji=>hI3 i j hi hj hji hi)]
end Go.Proofs.Ytmpjooneiaiffaa
