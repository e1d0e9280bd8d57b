/- All functions of this text. -/
import Derived.Test.YtmpjooneiaiffaaCode5
import Derived.Test.YtmpjooneiaiffaaAp
/- What a plain function returns: total correctness, step by step. No program is named here. -/
namespace Go.Proofs.Ytmpjooneiaiffaa
open Go.RowKit

def Yes {α:Type} (x:Option α) (Q:α→Prop):Prop:=∃ r,x=some r∧Q r
namespace Yes
variable {α β σ ρ:Type} {Q:α→Prop}
theorem some {a:α} (h:Q a):Yes (Option.some a) Q:=⟨a,rfl,h⟩
theorem bind {x:Option β} {f:β→Option α} (h:Yes x fun b=>Yes (f b) Q):Yes (x.bind f) Q:=by
 obtain ⟨b,rfl,a,ha,hq⟩:=h; exact ⟨a,ha,hq⟩
theorem cond {c:Bool} {x y:Option α} (h1:c=true→Yes x Q) (h2:c=false→Yes y Q):Yes (bif c then x else y) Q:=by
 cases c
 ·exact h2 rfl
 ·exact h1 rfl
theorem jn {k:σ→Option α} {f:(σ→Option α)→Option α} (h:Yes (f k) Q):Yes (Go.Proofs.Ytmpjooneiaiffaa.jn k f) Q:=h
theorem mono {x:Option α} {Q':α→Prop} (h:Yes x Q') (k:∀ a,Q' a→Q a):Yes x Q:=let ⟨a,ha,hq⟩:=h; ⟨a,ha,k a hq⟩
theorem lp_lt {body : (σ → Option α) → σ → Option α} (I : σ → Prop) (μ : σ → Nat)
  (h:∀ s (k:σ→Option α),I s→(∀ s',I s'→μ s' < μ s→Yes (k s') Q)→Yes (body k s) Q):∀ (n:Nat) (s:σ),I s→μ s < n→Yes (Go.Proofs.Ytmpjooneiaiffaa.lp body n s) Q
 | 0,_,_,hm=>absurd hm (Nat.not_lt_zero _)
 | n + 1,s,hi,hm=>by
  rw [lp_succ]
  exact h s _ hi fun s' hi' hm'=>lp_lt I μ h n s' hi' (by omega)
theorem lp {body : (σ → Option α) → σ → Option α} {s : σ} (I : σ → Prop) (μ : σ → Nat) (h0 : I s) (hm : μ s < 18446744073709551616)
  (h:∀ s (k:σ→Option α),I s→(∀ s',I s'→μ s' < μ s→Yes (k s') Q)→Yes (body k s) Q):Yes (Go.Proofs.Ytmpjooneiaiffaa.lp body big s) Q:=lp_lt I μ h _ s h0 (big_pos _ hm)
theorem idx {xs:List α} {i:Int} {n:Nat} (hi:i=n) (hl:n < xs.length) (h:Q xs[n]):Yes (Go.Proofs.Ytmpjooneiaiffaa.idx xs i) Q:=by
 subst hi
 refine ⟨xs[n],?_,h⟩
 unfold Go.Proofs.Ytmpjooneiaiffaa.idx
 rw [if_pos (Int.natCast_nonneg n)]
 exact List.getElem?_eq_getElem hl
theorem apnd {b:Nat} {xs ys:List α} {Q:List α→Prop} (hb:(xs.length + ys.length) * b ≤ 140737488355328) (hl:xs.length + ys.length ≤ 9223372036854775807) (h:Q (xs ++ ys)):Yes (Go.Proofs.Ytmpjooneiaiffaa.apnd b xs ys) Q:=by
 refine ⟨_,?_,h⟩
 unfold Go.Proofs.Ytmpjooneiaiffaa.apnd
 rw [if_pos ⟨hb,hl⟩]
theorem eq {x:Option α} {a:α} (h:Yes x fun r=>r=a):x=Option.some a:=by obtain ⟨r,hr,rfl⟩:=h; exact hr
theorem of {x:Option α} {a:α} (h:x=Option.some a) (hq:Q a):Yes x Q:=⟨a,h,hq⟩
end Yes
theorem Wi {n:Int} (h1:-9223372036854775808 ≤ n) (h2:n ≤ 9223372036854775807):w64 n=n:=by
 unfold w64; rw [IntKind.wrap_i64]; omega
theorem Yes.upto {σ α : Type} {Q : α → Prop} {body : (σ × Int → Option α) → σ × Int → Option α} {s0 : σ} (n : Nat) (hn : n < 9223372036854775807) (I : Nat → σ → Prop) (h0 : I 0 s0)
  (hb:∀ (i:Nat) (s:σ) (k:σ × Int→Option α),i < n→I i s→(∀ s',I (i + 1) s'→Yes (k (s',w64 ((i:Int) + 1))) Q)→Yes (body k (s,(i:Int))) Q)
  (he:∀ (s:σ) (k:σ × Int→Option α),I n s→Yes (body k (s,(n:Int))) Q):Yes (Go.Proofs.Ytmpjooneiaiffaa.lp body big (s0,0)) Q:=by
 refine Yes.lp (fun s=>∃ i:Nat,s.2=i∧i ≤ n∧I i s.1) (fun s=>n - s.2.toNat) ⟨0,rfl,Nat.zero_le _,h0⟩ (by simp; omega) ?_
 rintro ⟨s,j⟩ k ⟨i,hi,hle,hI⟩ hk
 simp only at hi hI
 subst hi
 by_cases hlt:i < n
 ·refine hb i s k hlt hI fun s' hs' => ?_
  rw [Wi (by omega) (by omega)]
  refine hk _ ⟨i + 1,by simp,hlt,hs'⟩ ?_
  simp only [Int.toNat_natCast]
  omega
 ·obtain rfl : i = n := by omega
  exact he s k hI
theorem Yes.upto0 {α : Type} {Q : α → Prop} {body : (Int → Option α) → Int → Option α} (n : Nat) (hn : n < 9223372036854775807) (I : Nat → Prop) (h0 : I 0)
  (hb:∀ (i:Nat) (k:Int→Option α),i < n→I i→(I (i + 1)→Yes (k (w64 ((i:Int) + 1))) Q)→Yes (body k (i:Int)) Q)
  (he:∀ (k:Int→Option α),I n→Yes (body k (n:Int)) Q):Yes (Go.Proofs.Ytmpjooneiaiffaa.lp body big 0) Q:=by
 refine Yes.lp (fun s=>∃ i:Nat,s=i∧i ≤ n∧I i) (fun s=>n - s.toNat) ⟨0,rfl,Nat.zero_le _,h0⟩ (by simp; omega) ?_
 rintro s k ⟨i,rfl,hle,hI⟩ hk
 by_cases hlt:i < n
 ·refine hb i k hlt hI fun hs' => ?_
  rw [Wi (by omega) (by omega)]
  refine hk _ ⟨i + 1,by simp,hlt,hs'⟩ ?_
  simp only [Int.toNat_natCast]
  omega
 ·obtain rfl : i = n := by omega
  exact he k hI
theorem index_is {α : Type} (xs : List α) (φ : α → Option Bool) (p : α → Bool) (hl : xs.length < 9223372036854775807) (h : ∀ a ∈ xs, φ a = some (p a)) :
  Yes (Go.Proofs.Ytmpjooneiaiffaa.jn (σ := Unit) (fun _ => some (-1 : Int)) fun k18 => Go.Proofs.Ytmpjooneiaiffaa.lp (σ := Int) (fun k19 s8 => bif decide (s8 < (xs.length : Int)) then
   Go.Proofs.Ytmpjooneiaiffaa.jn (σ:=Unit) (fun _=>k19 (w64 (s8 + (1:Int)))) fun k28=>(Go.Proofs.Ytmpjooneiaiffaa.idx xs s8).bind fun y=>(φ y).bind fun b=>bif b then some s8 else k28 ()
   else k18 ()) big (0:Int)) (fun r=>(∃ i:Nat,r=i∧∃ h:i < xs.length,p xs[i]=true∧∀ j (hj:j < i),p (xs[j]'(by omega))=false) ∨ (r=-1∧∀ a ∈ xs,p a=false)):=by
 refine Yes.jn (Yes.upto0 xs.length hl (fun i=>∀ j (hj:j < xs.length),j < i→p xs[j]=false) (fun _ _ h=>absurd h (Nat.not_lt_zero _)) (fun i k hi hI hk=>?_) (fun k hI=>?_))
 ·refine Yes.cond (fun _ => Yes.jn (Yes.bind (Yes.idx rfl hi (Yes.bind (Yes.of (h _ (List.getElem_mem hi)) (Yes.cond (fun hp => Yes.some ?_) (fun hp => hk ?_))))))) (fun h => absurd h (by simp; omega))
  ·exact .inl ⟨i,rfl,hi,hp,fun j hj=>hI j (by omega) hj⟩
  ·intro j hj hji
   rcases Nat.lt_succ_iff_lt_or_eq.1 hji with h | rfl
   ·exact hI j hj h
   ·exact hp
 ·refine Yes.cond (fun h => absurd h (by simp)) (fun _ => Yes.some (.inr ⟨rfl, fun a ha => ?_⟩))
  obtain ⟨j,hj,rfl⟩:=List.getElem_of_mem ha
  exact hI j hj hj
theorem index_any {α:Type} {xs:List α} {p:α→Bool} {r:Int} (h:(∃ i:Nat,r=i∧∃ h:i < xs.length,p xs[i]=true∧∀ j (hj:j < i),p (xs[j]'(by omega))=false) ∨ (r=-1∧∀ a ∈ xs,p a=false)):decide (r ≥ (0:Int))=xs.any p:=by
 rcases h with ⟨i,rfl,hi,hp,_⟩ | ⟨rfl,h⟩
 ·have : xs.any p = true := List.any_eq_true.2 ⟨_, List.getElem_mem hi, hp⟩
  rw [this]; simp
 ·have : xs.any p = false := List.any_eq_false.2 fun a ha => by simp [h a ha]
  rw [this]; rfl
end Go.Proofs.Ytmpjooneiaiffaa
/- Plain laws: comparisons, copies, integers between others. -/
set_option maxRecDepth 8000
namespace Go.Proofs.Ytmpjooneiaiffaa
open Go.RowKit
open Classical

theorem Qi {α:Type} {Q:α→Prop} {c:Bool} {X Y:Option α} (hc:c=false) (h:Yes Y Q):Yes (bif c then X else Y) Q:=by rw [hc]; exact h
theorem Qw {α:Type} {Q:α→Prop} {c:Bool} {X Y:Option α} (hc:c=true) (h:Yes X Q):Yes (bif c then X else Y) Q:=by rw [hc]; exact h
theorem Gp {α β:Type} {Q:β→Prop} {x:Option α} {f:α→Option β} (a:α) (h:x=some a) (k:Yes (f a) Q):Yes (x.bind f) Q:=by rw [h]; exact k
theorem qidx {α:Type} {xs:List α} {i:Nat} (h:i < xs.length):idx xs (i:Int)=some xs[i]:=by unfold idx; rw [if_pos (Int.natCast_nonneg i)]; exact List.getElem?_eq_getElem h
theorem min64_eq (a b:Int):min64 a b=min a b:=by unfold min64; omega
theorem max64_eq (a b:Int):Wj a b=max a b:=by unfold Wj; omega

/-! ### Comparisons and copies -/
theorem cmp_loop {α : Type} [DecidableEq α] (x0 x1 : List α) (ne : α → α → Bool) (hne : ∀ a b, ne a b = !decide (a = b)) (hl : x0.length < 9223372036854775807) :
  Yes (jn (σ:=Unit) (fun _=>
   jn (σ:=Unit) (fun _=>some true) fun k53=>
   lp (σ:=Int) (fun k54 s5=>
    jn (σ:=Unit) (fun _=>
     jn (σ:=Unit) (fun _=>k54 ((w64 (s5 + (1:Int))))) fun k80=>
     (idx x0 s5).bind fun y81=>(idx x1 s5).bind fun y84=>
     bif ne y81 y84 then some false else k80 ()) fun k57=>
    bif (decide (s5 < ((x0).length:Int))) then k57 () else k53 ()) big ((0:Int))) fun k2=>
  bif (((x0).length:Int) != ((x1).length:Int)) then some false else k2 ()) (fun r=>r=decide (x0=x1)):=by
 refine Yes.jn (Yes.cond (fun h=>Yes.some ?_) (fun h=>Yes.jn ?_))
 ·have h1 : x0.length ≠ x1.length := by simp at h; omega
  have:x0 ≠ x1:=fun e=>h1 (by rw [e])
  simp [this]
 ·have h1 : x0.length = x1.length := by simp at h; omega
  refine Yes.upto0 x0.length hl (fun i=>∀ n (h1:n < x0.length) (h2:n < x1.length),n < i→x0[n]=x1[n]) (fun _ _ _ h=>absurd h (Nat.not_lt_zero _)) (fun i k hi hI hk=>?_) (fun k hI=>?_)
  ·refine Yes.jn (Yes.cond (fun _ => Yes.jn (Yes.bind (Yes.idx rfl hi (Yes.bind (Yes.idx rfl (by omega) (Yes.cond (fun h => Yes.some ?_) (fun h => hk ?_))))))) (fun h => absurd h (by simp; omega)))
   ·rw [hne] at h
    have hn:x0[i] ≠ x1[i]:=by simpa using h
    have:x0 ≠ x1:=fun e=>hn (by simp only [e])
    simp [this]
   ·rw [hne] at h
    have he:x0[i]=x1[i]:=by simpa using h
    intro n hn1 hn2 hni
    rcases Nat.lt_succ_iff_lt_or_eq.1 hni with h | rfl
    ·exact hI n hn1 hn2 h
    ·exact he
  ·refine Yes.jn (Yes.cond (fun h => absurd h (by simp)) (fun _ => Yes.some ?_))
   have:x0=x1:=List.ext_getElem h1 fun n hn1 hn2=>hI n hn1 hn2 hn1
   simp [this]

theorem s19 (a b:List Int) (ha:a.length < 9223372036854775807):f19 a b=some (decide (a=b)):=by
 unfold f19; exact Yes.eq (cmp_loop a b (fun x y=>x != y) (fun x y=>by by_cases h:x=y <;> simp [h]) ha)
def Sml (l:BoxLoom):Prop:=l.Boxes.length ≤ 10∧l.At.length ≤ 10∧l.Shuttles.length ≤ 10
theorem s13 (l:BoxLoom):f13 l=some (decide (¬ Sml l)):=by
 unfold f13
 by_cases h1:l.Boxes.length > 10
 ·have e : decide ((l.Boxes.length : Int) > 10) = true := by simp; omega
  have:¬ Sml l:=fun h=>by have:=h.1; omega
  simp [e,this]
 ·have e : decide ((l.Boxes.length : Int) > 10) = false := by simp; omega
  by_cases h2:l.At.length > 10
  ·have e2 : decide ((l.At.length : Int) > 10) = true := by simp; omega
   have:¬ Sml l:=fun h=>by have:=h.2.1; omega
   simp [e,e2,this]
  ·have e2 : decide ((l.At.length : Int) > 10) = false := by simp; omega
   have e3:decide ((l.Shuttles.length:Int) > 10)=decide (¬ Sml l):=by rw [decide_eq_decide]; unfold Sml; omega
   simp [e,e2,e3]
theorem s50 (l:BoxLoom) (h:Sml l):f50 l=some l:=by
 obtain ⟨h1,h2,h3⟩:=h
 unfold f50
 rw [show apnd 8 ([]:List Int) l.Boxes=some l.Boxes from by unfold apnd; rw [if_pos (by simp; omega)]; rfl,
  Option.bind_some,show apnd 8 ([]:List Int) l.At=some l.At from by unfold apnd; rw [if_pos (by simp; omega)]; rfl,
  Option.bind_some,show apnd 40 ([]:List Zv) l.Shuttles=some l.Shuttles from by unfold apnd; rw [if_pos (by simp; omega)]; rfl]
 rfl
theorem s15 (l:BoxLoom) (h:Sml l):f15 l=some l:=by unfold f15; rw [s50 l h]; rfl
theorem s18r (l:BoxLoom) (h:Sml l):f18 l l=some true:=by
 obtain ⟨h1,h2,h3⟩:=h
 refine Yes.eq ?_
 unfold f18
 refine Yes.jn (Yes.bind (Gp _ (s19 _ _ (by omega)) (Qi (by simp) (Gp _ (s19 _ _ (by omega)) (Qi (by simp) (Yes.some (Qi (by simp) (Yes.jn ?_))))))))
 refine Yes.upto0 l.Shuttles.length (by omega) (fun _=>True) trivial (fun i k hi _ hk=>?_) (fun k _=>?_)
 ·exact Yes.jn (Qw (by simp; omega) (Yes.jn (Yes.bind (Yes.idx rfl hi (Yes.bind (Yes.idx rfl hi (Qi (by simp) (hk trivial))))))))
 ·exact Yes.jn (Qi (by simp) (Yes.some (by simp)))
/-! ### Between two others -/
def btw (a b x:Int):Bool:=decide (a ≤ x∧x ≤ b)
theorem btw_iff {a b x:Int}:btw a b x=true ↔ a ≤ x∧x ≤ b:=by simp [btw]
theorem s59 (x a b:Int):f59 x a b=some (btw a b x):=by unfold f59 btw; by_cases h1:x ≥ a <;> by_cases h2:x ≤ b <;> simp [h1,h2] <;> omega
theorem s104 (x a b:Int):f104 x a b=some (!btw a b x):=by unfold f104 btw; by_cases h1:x < a <;> by_cases h2:x > b <;> simp [h1,h2] <;> omega
theorem s103 (xs:List Int) (φ:Int→Option Bool) (p:Int→Bool) (hl:xs.length < 9223372036854775807) (h:∀ a ∈ xs,φ a=some (p a)):f103 xs φ=some (xs.any p):=
 Yes.eq (Yes.bind (Yes.mono (index_is xs φ p hl h) fun _ hr=>Yes.some (index_any hr)))
theorem s86 (xs:List Zv) (φ:Zv→Option Bool) (p:Zv→Bool) (hl:xs.length < 9223372036854775807) (h:∀ a ∈ xs,φ a=some (p a)):f86 xs φ=some (xs.any p):=
 Yes.eq (Yes.bind (Yes.mono (index_is xs φ p hl h) fun _ hr=>Yes.some (index_any hr)))
theorem s87 (a b:Int) (xs:List Int) (hl:xs.length < 9223372036854775807):f87 a b xs=some (xs.all (btw a b)):=by
 unfold f87
 rw [s103 xs _ (fun x=>!btw a b x) hl fun x _=>s104 x a b]
 simp [List.all_eq_not_any_not]
theorem s87_one (a b x:Int):f87 a b [x]=some (btw a b x):=by rw [s87 _ _ _ (by simp)]; simp
end Go.Proofs.Ytmpjooneiaiffaa
