import Derived.Test.YtmpjooneiaiffaaCode5
import Derived.Test.YtmpjooneiaiffaaAp
set_option maxRecDepth 8000
set_option maxHeartbeats 4000000
namespace Go.Proofs.Ytmpjooneiaiffaa
open Go.RowKit
end Go.Proofs.Ytmpjooneiaiffaa
/- All functions of this text. -/
/- What a plain function returns: total correctness, step by step. No program is named here. -/
namespace Go.Proofs.Ytmpjooneiaiffaa
open Go.RowKit

def Yes {α:Type} (x:Option α) (Q:α→Prop):Prop:=∃ r,x=some r∧Q r
namespace Yes
variable {α β σ ρ:Type} {Q:α→Prop}
theorem some {a:α} (h:Q a):Yes (Option.some a) Q:=⟨a,rfl,h⟩
theorem bind {x:Option β} {f:β→Option α} (h:Yes x fun b=>Yes (f b) Q):Yes (x.bind f) Q:=by
 obtain ⟨b,rfl,a,ha,hq⟩:=h; exact ⟨a,ha,hq⟩
theorem cond {c:Bool} {x y:Option α} (h1:c=true→Yes x Q) (h2:c=false→Yes y Q):Yes (bif c then x else y) Q:=by
 cases c
 ·exact h2 rfl
 ·exact h1 rfl
theorem jn {k:σ→Option α} {f:(σ→Option α)→Option α} (h:Yes (f k) Q):Yes (Go.Proofs.Ytmpjooneiaiffaa.jn k f) Q:=h
theorem mono {x:Option α} {Q':α→Prop} (h:Yes x Q') (k:∀ a,Q' a→Q a):Yes x Q:=let ⟨a,ha,hq⟩:=h; ⟨a,ha,k a hq⟩
theorem lp_lt {body : (σ → Option α) → σ → Option α} (I : σ → Prop) (μ : σ → Nat)
  (h:∀ s (k:σ→Option α),I s→(∀ s',I s'→μ s' < μ s→Yes (k s') Q)→Yes (body k s) Q):∀ (n:Nat) (s:σ),I s→μ s < n→Yes (Go.Proofs.Ytmpjooneiaiffaa.lp body n s) Q
 | 0,_,_,hm=>absurd hm (Nat.not_lt_zero _)
 | n + 1,s,hi,hm=>by
  rw [lp_succ]
  exact h s _ hi fun s' hi' hm'=>lp_lt I μ h n s' hi' (by omega)
theorem lp {body : (σ → Option α) → σ → Option α} {s : σ} (I : σ → Prop) (μ : σ → Nat) (h0 : I s) (hm : μ s < 18446744073709551616)
  (h:∀ s (k:σ→Option α),I s→(∀ s',I s'→μ s' < μ s→Yes (k s') Q)→Yes (body k s) Q):Yes (Go.Proofs.Ytmpjooneiaiffaa.lp body big s) Q:=lp_lt I μ h _ s h0 (big_pos _ hm)
theorem idx {xs:List α} {i:Int} {n:Nat} (hi:i=n) (hl:n < xs.length) (h:Q xs[n]):Yes (Go.Proofs.Ytmpjooneiaiffaa.idx xs i) Q:=by
 subst hi
 refine ⟨xs[n],?_,h⟩
 unfold Go.Proofs.Ytmpjooneiaiffaa.idx
 rw [if_pos (Int.natCast_nonneg n)]
 exact List.getElem?_eq_getElem hl
theorem apnd {b:Nat} {xs ys:List α} {Q:List α→Prop} (hb:(xs.length + ys.length) * b ≤ 140737488355328) (hl:xs.length + ys.length ≤ 9223372036854775807) (h:Q (xs ++ ys)):Yes (Go.Proofs.Ytmpjooneiaiffaa.apnd b xs ys) Q:=by
 refine ⟨_,?_,h⟩
 unfold Go.Proofs.Ytmpjooneiaiffaa.apnd
 rw [if_pos ⟨hb,hl⟩]
theorem eq {x:Option α} {a:α} (h:Yes x fun r=>r=a):x=Option.some a:=by obtain ⟨r,hr,rfl⟩:=h; exact hr
theorem of {x:Option α} {a:α} (h:x=Option.some a) (hq:Q a):Yes x Q:=⟨a,h,hq⟩
end Yes
theorem w64_id {n:Int} (h1:-9223372036854775808 ≤ n) (h2:n ≤ 9223372036854775807):w64 n=n:=by
 unfold w64; rw [IntKind.wrap_i64]; omega
theorem Yes.upto {σ α : Type} {Q : α → Prop} {body : (σ × Int → Option α) → σ × Int → Option α} {s0 : σ} (n : Nat) (hn : n < 9223372036854775807) (I : Nat → σ → Prop) (h0 : I 0 s0)
  (hb:∀ (i:Nat) (s:σ) (k:σ × Int→Option α),i < n→I i s→(∀ s',I (i + 1) s'→Yes (k (s',w64 ((i:Int) + 1))) Q)→Yes (body k (s,(i:Int))) Q)
  (he:∀ (s:σ) (k:σ × Int→Option α),I n s→Yes (body k (s,(n:Int))) Q):Yes (Go.Proofs.Ytmpjooneiaiffaa.lp body big (s0,0)) Q:=by
 refine Yes.lp (fun s=>∃ i:Nat,s.2=i∧i ≤ n∧I i s.1) (fun s=>n - s.2.toNat) ⟨0,rfl,Nat.zero_le _,h0⟩ (by simp; omega) ?_
 rintro ⟨s,j⟩ k ⟨i,hi,hle,hI⟩ hk
 simp only at hi hI
 subst hi
 by_cases hlt:i < n
 ·refine hb i s k hlt hI fun s' hs' => ?_
  rw [w64_id (by omega) (by omega)]
  refine hk _ ⟨i + 1,by simp,hlt,hs'⟩ ?_
  simp only [Int.toNat_natCast]
  omega
 ·obtain rfl : i = n := by omega
  exact he s k hI
theorem Yes.upto0 {α : Type} {Q : α → Prop} {body : (Int → Option α) → Int → Option α} (n : Nat) (hn : n < 9223372036854775807) (I : Nat → Prop) (h0 : I 0)
  (hb:∀ (i:Nat) (k:Int→Option α),i < n→I i→(I (i + 1)→Yes (k (w64 ((i:Int) + 1))) Q)→Yes (body k (i:Int)) Q)
  (he:∀ (k:Int→Option α),I n→Yes (body k (n:Int)) Q):Yes (Go.Proofs.Ytmpjooneiaiffaa.lp body big 0) Q:=by
 refine Yes.lp (fun s=>∃ i:Nat,s=i∧i ≤ n∧I i) (fun s=>n - s.toNat) ⟨0,rfl,Nat.zero_le _,h0⟩ (by simp; omega) ?_
 rintro s k ⟨i,rfl,hle,hI⟩ hk
 by_cases hlt:i < n
 ·refine hb i k hlt hI fun hs' => ?_
  rw [w64_id (by omega) (by omega)]
  refine hk _ ⟨i + 1,by simp,hlt,hs'⟩ ?_
  simp only [Int.toNat_natCast]
  omega
 ·obtain rfl : i = n := by omega
  exact he k hI
theorem index_is {α : Type} (xs : List α) (φ : α → Option Bool) (p : α → Bool) (hl : xs.length < 9223372036854775807) (h : ∀ a ∈ xs, φ a = some (p a)) :
  Yes (Go.Proofs.Ytmpjooneiaiffaa.jn (σ := Unit) (fun _ => some (-1 : Int)) fun k18 => Go.Proofs.Ytmpjooneiaiffaa.lp (σ := Int) (fun k19 s8 => bif decide (s8 < (xs.length : Int)) then
   Go.Proofs.Ytmpjooneiaiffaa.jn (σ:=Unit) (fun _=>k19 (w64 (s8 + (1:Int)))) fun k28=>(Go.Proofs.Ytmpjooneiaiffaa.idx xs s8).bind fun y=>(φ y).bind fun b=>bif b then some s8 else k28 ()
   else k18 ()) big (0:Int)) (fun r=>(∃ i:Nat,r=i∧∃ h:i < xs.length,p xs[i]=true∧∀ j (hj:j < i),p (xs[j]'(by omega))=false) ∨ (r=-1∧∀ a ∈ xs,p a=false)):=by
 refine Yes.jn (Yes.upto0 xs.length hl (fun i=>∀ j (hj:j < xs.length),j < i→p xs[j]=false) (fun _ _ h=>absurd h (Nat.not_lt_zero _)) (fun i k hi hI hk=>?_) (fun k hI=>?_))
 ·refine Yes.cond (fun _ => Yes.jn (Yes.bind (Yes.idx rfl hi (Yes.bind (Yes.of (h _ (List.getElem_mem hi)) (Yes.cond (fun hp => Yes.some ?_) (fun hp => hk ?_))))))) (fun h => absurd h (by simp; omega))
  ·exact .inl ⟨i,rfl,hi,hp,fun j hj=>hI j (by omega) hj⟩
  ·intro j hj hji
   rcases Nat.lt_succ_iff_lt_or_eq.1 hji with h | rfl
   ·exact hI j hj h
   ·exact hp
 ·refine Yes.cond (fun h => absurd h (by simp)) (fun _ => Yes.some (.inr ⟨rfl, fun a ha => ?_⟩))
  obtain ⟨j,hj,rfl⟩:=List.getElem_of_mem ha
  exact hI j hj hj
theorem index_any {α:Type} {xs:List α} {p:α→Bool} {r:Int} (h:(∃ i:Nat,r=i∧∃ h:i < xs.length,p xs[i]=true∧∀ j (hj:j < i),p (xs[j]'(by omega))=false) ∨ (r=-1∧∀ a ∈ xs,p a=false)):decide (r ≥ (0:Int))=xs.any p:=by
 rcases h with ⟨i,rfl,hi,hp,_⟩ | ⟨rfl,h⟩
 ·have : xs.any p = true := List.any_eq_true.2 ⟨_, List.getElem_mem hi, hp⟩
  rw [this]; simp
 ·have : xs.any p = false := List.any_eq_false.2 fun a ha => by simp [h a ha]
  rw [this]; rfl
end Go.Proofs.Ytmpjooneiaiffaa
/- Plain laws: comparisons, copies, integers between others. -/
set_option maxRecDepth 8000
namespace Go.Proofs.Ytmpjooneiaiffaa
open Go.RowKit
open Classical

theorem qskip {α:Type} {Q:α→Prop} {c:Bool} {X Y:Option α} (hc:c=false) (h:Yes Y Q):Yes (bif c then X else Y) Q:=by rw [hc]; exact h
theorem qtake {α:Type} {Q:α→Prop} {c:Bool} {X Y:Option α} (hc:c=true) (h:Yes X Q):Yes (bif c then X else Y) Q:=by rw [hc]; exact h
theorem qbind {α β:Type} {Q:β→Prop} {x:Option α} {f:α→Option β} (a:α) (h:x=some a) (k:Yes (f a) Q):Yes (x.bind f) Q:=by rw [h]; exact k
theorem qidx {α:Type} {xs:List α} {i:Nat} (h:i < xs.length):idx xs (i:Int)=some xs[i]:=by unfold idx; rw [if_pos (Int.natCast_nonneg i)]; exact List.getElem?_eq_getElem h
theorem quo_nn {a b:Int} (ha:0 ≤ a) (ha2:a ≤ 9223372036854775807) (hb:0 < b):quo64 a b=some (a / b):=by
 unfold quo64
 rw [if_neg (by omega),Int.tdiv_eq_ediv_of_nonneg ha,w64_id]
 ·have:=Int.ediv_nonneg ha (Int.le_of_lt hb); omega
 ·exact Int.le_trans (Int.ediv_le_self b ha) ha2
theorem min64_eq (a b:Int):min64 a b=min a b:=by unfold min64; omega
theorem max64_eq (a b:Int):max64 a b=max a b:=by unfold max64; omega

/-! ### Comparisons and copies -/
def Sml (l:BoxLoom):Prop:=l.Boxes.length ≤ 10∧l.At.length ≤ 10∧l.Shuttles.length ≤ 10
theorem s50 (l:BoxLoom) (h:Sml l):f50 l=some l:=by
 obtain ⟨h1,h2,h3⟩:=h
 unfold f50
 rw [show apnd 8 ([]:List Int) l.Boxes=some l.Boxes from by unfold apnd; rw [if_pos (by simp; omega)]; rfl,
  Option.bind_some,show apnd 8 ([]:List Int) l.At=some l.At from by unfold apnd; rw [if_pos (by simp; omega)]; rfl,
  Option.bind_some,show apnd 40 ([]:List BoxShuttle) l.Shuttles=some l.Shuttles from by unfold apnd; rw [if_pos (by simp; omega)]; rfl]
 rfl
theorem s15 (l:BoxLoom) (h:Sml l):f15 l=some l:=by unfold f15; rw [s50 l h]; rfl
theorem s28 (p:List BoxPick) (h:p.length ≤ 1000):f28 p=some p:=by
 unfold f28
 rw [show apnd 16 ([]:List BoxPick) p=some p from by unfold apnd; rw [if_pos (by simp; omega)]; rfl]; rfl
/-! ### Between two others -/
def btw (a b x:Int):Bool:=decide (a ≤ x∧x ≤ b)
theorem btw_iff {a b x:Int}:btw a b x=true ↔ a ≤ x∧x ≤ b:=by simp [btw]
theorem s104 (x a b:Int):f104 x a b=some (!btw a b x):=by unfold f104 btw; by_cases h1:x < a <;> by_cases h2:x > b <;> simp [h1,h2] <;> omega
theorem s103 (xs:List Int) (φ:Int→Option Bool) (p:Int→Bool) (hl:xs.length < 9223372036854775807) (h:∀ a ∈ xs,φ a=some (p a)):f103 xs φ=some (xs.any p):=
 Yes.eq (Yes.bind (Yes.mono (index_is xs φ p hl h) fun _ hr=>Yes.some (index_any hr)))
theorem s86 (xs:List BoxShuttle) (φ:BoxShuttle→Option Bool) (p:BoxShuttle→Bool) (hl:xs.length < 9223372036854775807) (h:∀ a ∈ xs,φ a=some (p a)):f86 xs φ=some (xs.any p):=
 Yes.eq (Yes.bind (Yes.mono (index_is xs φ p hl h) fun _ hr=>Yes.some (index_any hr)))
theorem s96 (xs:List BoxPick) (φ:BoxPick→Option Bool) (p:BoxPick→Bool) (hl:xs.length < 9223372036854775807) (h:∀ a ∈ xs,φ a=some (p a)):f96 xs φ=some (xs.any p):=
 Yes.eq (Yes.bind (Yes.mono (index_is xs φ p hl h) fun _ hr=>Yes.some (index_any hr)))
theorem s87 (a b:Int) (xs:List Int) (hl:xs.length < 9223372036854775807):f87 a b xs=some (xs.all (btw a b)):=by
 unfold f87
 rw [s103 xs _ (fun x=>!btw a b x) hl fun x _=>s104 x a b]
 simp [List.all_eq_not_any_not]
theorem s87_one (a b x:Int):f87 a b [x]=some (btw a b x):=by rw [s87 _ _ _ (by simp)]; simp
end Go.Proofs.Ytmpjooneiaiffaa
/- Plain laws: the error of a loom and of picks. -/
set_option maxRecDepth 8000
namespace Go.Proofs.Ytmpjooneiaiffaa
open Go.RowKit
open Classical

def okS (B:List Int) (s:BoxShuttle):Bool:=btw 0 9 s.Colour && btw 0 1 s.Side && btw 0 (B.getD s.Side.toNat 0 - 1) s.Box && decide ((0 ≤ s.Yarn.Low∧s.Yarn.Low ≤ s.Yarn.High)∧s.Yarn.High ≤ 1000)
def sideOk (l:BoxLoom) (i:Nat):Bool:=btw 1 4 (l.Boxes.getD i 0) && btw 0 (l.Boxes.getD i 0 - 1) (l.At.getD i 0)
def Dst (xs:List BoxShuttle):Prop:=∀ i j (hi:i < xs.length) (hj:j < xs.length),j < i→¬ (xs[i].Side=xs[j].Side∧xs[i].Box=xs[j].Box)
def len2 (l:BoxLoom):Prop:=l.Boxes.length=2∧l.At.length=2
noncomputable def chk (l : BoxLoom) : Int := if ¬ len2 l then 4 else if ¬ (∀ i, i < 2 → sideOk l i = true) then 3 else if l.Shuttles.length > 6 then 5
 else if l.Shuttles.length=0 ∨ ¬ (∀ s ∈ l.Shuttles,okS l.Boxes s=true) then 2 else if ¬ Dst l.Shuttles then 6 else 0
theorem len2_b (l:BoxLoom):(bif ((l.Boxes.length:Int) != (2:Int)) then some true else some ((l.At.length:Int) != (2:Int)))=some (decide (¬ len2 l)):=by
 unfold len2
 by_cases h1:l.Boxes.length=2
 ·have e : ((l.Boxes.length : Int) != 2) = false := by simp; omega
  by_cases h2:l.At.length=2
  ·have e2 : ((l.At.length : Int) != 2) = false := by simp; omega
   rw [e,e2]; simp [h1,h2]
  ·have e2 : ((l.At.length : Int) != 2) = true := by simp; omega
   rw [e,e2]; simp [h1,h2]
 ·have e : ((l.Boxes.length : Int) != 2) = true := by simp; omega
  rw [e]; simp [h1]
theorem len0 {α:Type} {xs:List α} (h:((xs.length:Int) == 0)=true):xs.length=0:=by
 have:(xs.length:Int)=0:=by simpa using h
 omega
theorem getD_at {xs:List Int} {i:Nat} (h:i < xs.length):xs[i]=xs.getD i 0:=by simp [List.getD,List.getElem?_eq_getElem h]
end Go.Proofs.Ytmpjooneiaiffaa
