/- All functions of this text. -/
import Derived.Test.YtkfdjkkbnfohjaaGreatDoorCode2
import Derived.Test.YtkfdjkkbnfohjaaGreatDoorAp
/- What a plain function returns: total correctness, step by step. No program is named here. -/
namespace Go.Proofs.YtkfdjkkbnfohjaaGreatDoor
open Go.RowKit

def Yes {α:Type} (x:Option α) (Q:α→Prop):Prop:=∃ r,x=some r∧Q r
namespace Yes
variable {α β σ ρ:Type} {Q:α→Prop}
theorem some {a:α} (h:Q a):Yes (Option.some a) Q:=⟨a,rfl,h⟩
theorem bind {x:Option β} {f:β→Option α} (h:Yes x fun b=>Yes (f b) Q):Yes (x.bind f) Q:=by
 obtain ⟨b,rfl,a,ha,hq⟩:=h; exact ⟨a,ha,hq⟩
theorem cond {c:Bool} {x y:Option α} (h1:c=true→Yes x Q) (h2:c=false→Yes y Q):Yes (bif c then x else y) Q:=by
 cases c
 ·exact h2 rfl
 ·exact h1 rfl
theorem jn {k:σ→Option α} {f:(σ→Option α)→Option α} (h:Yes (f k) Q):Yes (Go.Proofs.YtkfdjkkbnfohjaaGreatDoor.jn k f) Q:=h
theorem mono {x:Option α} {Q':α→Prop} (h:Yes x Q') (k:∀ a,Q' a→Q a):Yes x Q:=let ⟨a,ha,hq⟩:=h; ⟨a,ha,k a hq⟩
theorem lp_lt {body : (σ → Option α) → σ → Option α} (I : σ → Prop) (μ : σ → Nat)
  (h:∀ s (k:σ→Option α),I s→(∀ s',I s'→μ s' < μ s→Yes (k s') Q)→Yes (body k s) Q):∀ (n:Nat) (s:σ),I s→μ s < n→Yes (Go.Proofs.YtkfdjkkbnfohjaaGreatDoor.lp body n s) Q
 | 0,_,_,hm=>absurd hm (Nat.not_lt_zero _)
 | n + 1,s,hi,hm=>by
  rw [lp_succ]
  exact h s _ hi fun s' hi' hm'=>lp_lt I μ h n s' hi' (by omega)
theorem lp {body : (σ → Option α) → σ → Option α} {s : σ} (I : σ → Prop) (μ : σ → Nat) (h0 : I s) (hm : μ s < 18446744073709551616)
  (h:∀ s (k:σ→Option α),I s→(∀ s',I s'→μ s' < μ s→Yes (k s') Q)→Yes (body k s) Q):Yes (Go.Proofs.YtkfdjkkbnfohjaaGreatDoor.lp body big s) Q:=lp_lt I μ h _ s h0 (big_pos _ hm)
theorem idx {xs:List α} {i:Int} {n:Nat} (hi:i=n) (hl:n < xs.length) (h:Q xs[n]):Yes (Go.Proofs.YtkfdjkkbnfohjaaGreatDoor.idx xs i) Q:=by
 subst hi
 refine ⟨xs[n],?_,h⟩
 unfold Go.Proofs.YtkfdjkkbnfohjaaGreatDoor.idx
 rw [if_pos (Int.natCast_nonneg n)]
 exact List.getElem?_eq_getElem hl
theorem apnd {b:Nat} {xs ys:List α} {Q:List α→Prop} (hb:(xs.length + ys.length) * b ≤ 140737488355328) (hl:xs.length + ys.length ≤ 9223372036854775807) (h:Q (xs ++ ys)):Yes (Go.Proofs.YtkfdjkkbnfohjaaGreatDoor.apnd b xs ys) Q:=by
 refine ⟨_,?_,h⟩
 unfold Go.Proofs.YtkfdjkkbnfohjaaGreatDoor.apnd
 rw [if_pos ⟨hb,hl⟩]
theorem eq {x:Option α} {a:α} (h:Yes x fun r=>r=a):x=Option.some a:=by obtain ⟨r,hr,rfl⟩:=h; exact hr
theorem of {x:Option α} {a:α} (h:x=Option.some a) (hq:Q a):Yes x Q:=⟨a,h,hq⟩
end Yes
theorem w64_id {n:Int} (h1:-9223372036854775808 ≤ n) (h2:n ≤ 9223372036854775807):w64 n=n:=by
 unfold w64; rw [IntKind.wrap_i64]; omega
theorem Yes.upto {σ α : Type} {Q : α → Prop} {body : (σ × Int → Option α) → σ × Int → Option α} {s0 : σ} (n : Nat) (hn : n < 9223372036854775807) (I : Nat → σ → Prop) (h0 : I 0 s0)
  (hb:∀ (i:Nat) (s:σ) (k:σ × Int→Option α),i < n→I i s→(∀ s',I (i + 1) s'→Yes (k (s',w64 ((i:Int) + 1))) Q)→Yes (body k (s,(i:Int))) Q)
  (he:∀ (s:σ) (k:σ × Int→Option α),I n s→Yes (body k (s,(n:Int))) Q):Yes (Go.Proofs.YtkfdjkkbnfohjaaGreatDoor.lp body big (s0,0)) Q:=by
 refine Yes.lp (fun s=>∃ i:Nat,s.2=i∧i ≤ n∧I i s.1) (fun s=>n - s.2.toNat) ⟨0,rfl,Nat.zero_le _,h0⟩ (by simp; omega) ?_
 rintro ⟨s,j⟩ k ⟨i,hi,hle,hI⟩ hk
 simp only at hi hI
 subst hi
 by_cases hlt:i < n
 ·refine hb i s k hlt hI fun s' hs' => ?_
  rw [w64_id (by omega) (by omega)]
  refine hk _ ⟨i + 1,by simp,hlt,hs'⟩ ?_
  simp only [Int.toNat_natCast]
  omega
 ·obtain rfl : i = n := by omega
  exact he s k hI
theorem Yes.upto2 {σ τ α : Type} {Q : α → Prop} {body : (σ × τ × Int → Option α) → σ × τ × Int → Option α} {s0 : σ} {t0 : τ} (n : Nat) (hn : n < 9223372036854775807) (I : Nat → σ → τ → Prop) (h0 : I 0 s0 t0)
  (hb:∀ (i:Nat) (s:σ) (t:τ) (k:σ × τ × Int→Option α),i < n→I i s t→(∀ s' t',I (i + 1) s' t'→Yes (k (s',t',w64 ((i:Int) + 1))) Q)→Yes (body k (s,t,(i:Int))) Q)
  (he:∀ (s:σ) (t:τ) (k:σ × τ × Int→Option α),I n s t→Yes (body k (s,t,(n:Int))) Q):Yes (Go.Proofs.YtkfdjkkbnfohjaaGreatDoor.lp body big (s0,t0,0)) Q:=by
 refine Yes.lp (fun s=>∃ i:Nat,s.2.2=i∧i ≤ n∧I i s.1 s.2.1) (fun s=>n - s.2.2.toNat) ⟨0,rfl,Nat.zero_le _,h0⟩ (by simp; omega) ?_
 rintro ⟨s,t,j⟩ k ⟨i,hi,hle,hI⟩ hk
 simp only at hi hI
 subst hi
 by_cases hlt:i < n
 ·refine hb i s t k hlt hI fun s' t' hs' => ?_
  rw [w64_id (by omega) (by omega)]
  refine hk _ ⟨i + 1,by simp,hlt,hs'⟩ ?_
  simp only [Int.toNat_natCast]
  omega
 ·obtain rfl : i = n := by omega
  exact he s t k hI
theorem Yes.upto0 {α : Type} {Q : α → Prop} {body : (Int → Option α) → Int → Option α} (n : Nat) (hn : n < 9223372036854775807) (I : Nat → Prop) (h0 : I 0)
  (hb:∀ (i:Nat) (k:Int→Option α),i < n→I i→(I (i + 1)→Yes (k (w64 ((i:Int) + 1))) Q)→Yes (body k (i:Int)) Q)
  (he:∀ (k:Int→Option α),I n→Yes (body k (n:Int)) Q):Yes (Go.Proofs.YtkfdjkkbnfohjaaGreatDoor.lp body big 0) Q:=by
 refine Yes.lp (fun s=>∃ i:Nat,s=i∧i ≤ n∧I i) (fun s=>n - s.toNat) ⟨0,rfl,Nat.zero_le _,h0⟩ (by simp; omega) ?_
 rintro s k ⟨i,rfl,hle,hI⟩ hk
 by_cases hlt:i < n
 ·refine hb i k hlt hI fun hs' => ?_
  rw [w64_id (by omega) (by omega)]
  refine hk _ ⟨i + 1,by simp,hlt,hs'⟩ ?_
  simp only [Int.toNat_natCast]
  omega
 ·obtain rfl : i = n := by omega
  exact he k hI
theorem index_is {α : Type} (xs : List α) (φ : α → Option Bool) (p : α → Bool) (hl : xs.length < 9223372036854775807) (h : ∀ a ∈ xs, φ a = some (p a)) :
  Yes (Go.Proofs.YtkfdjkkbnfohjaaGreatDoor.jn (σ := Unit) (fun _ => some (-1 : Int)) fun k18 => Go.Proofs.YtkfdjkkbnfohjaaGreatDoor.lp (σ := Int) (fun k19 s8 => bif decide (s8 < (xs.length : Int)) then
   Go.Proofs.YtkfdjkkbnfohjaaGreatDoor.jn (σ:=Unit) (fun _=>k19 (w64 (s8 + (1:Int)))) fun k28=>(Go.Proofs.YtkfdjkkbnfohjaaGreatDoor.idx xs s8).bind fun y=>(φ y).bind fun b=>bif b then some s8 else k28 ()
   else k18 ()) big (0:Int)) (fun r=>(∃ i:Nat,r=i∧∃ h:i < xs.length,p xs[i]=true∧∀ j (hj:j < i),p (xs[j]'(by omega))=false) ∨ (r=-1∧∀ a ∈ xs,p a=false)):=by
 refine Yes.jn (Yes.upto0 xs.length hl (fun i=>∀ j (hj:j < xs.length),j < i→p xs[j]=false) (fun _ _ h=>absurd h (Nat.not_lt_zero _)) (fun i k hi hI hk=>?_) (fun k hI=>?_))
 ·refine Yes.cond (fun _ => Yes.jn (Yes.bind (Yes.idx rfl hi (Yes.bind (Yes.of (h _ (List.getElem_mem hi)) (Yes.cond (fun hp => Yes.some ?_) (fun hp => hk ?_))))))) (fun h => absurd h (by simp; omega))
  ·exact .inl ⟨i,rfl,hi,hp,fun j hj=>hI j (by omega) hj⟩
  ·intro j hj hji
   rcases Nat.lt_succ_iff_lt_or_eq.1 hji with h | rfl
   ·exact hI j hj h
   ·exact hp
 ·refine Yes.cond (fun h => absurd h (by simp)) (fun _ => Yes.some (.inr ⟨rfl, fun a ha => ?_⟩))
  obtain ⟨j,hj,rfl⟩:=List.getElem_of_mem ha
  exact hI j hj hj
theorem index_any {α:Type} {xs:List α} {p:α→Bool} {r:Int} (h:(∃ i:Nat,r=i∧∃ h:i < xs.length,p xs[i]=true∧∀ j (hj:j < i),p (xs[j]'(by omega))=false) ∨ (r=-1∧∀ a ∈ xs,p a=false)):decide (r ≥ (0:Int))=xs.any p:=by
 rcases h with ⟨i,rfl,hi,hp,_⟩ | ⟨rfl,h⟩
 ·have : xs.any p = true := List.any_eq_true.2 ⟨_, List.getElem_mem hi, hp⟩
  rw [this]; simp
 ·have : xs.any p = false := List.any_eq_false.2 fun a ha => by simp [h a ha]
  rw [this]; rfl
end Go.Proofs.YtkfdjkkbnfohjaaGreatDoor
/- Laws of plain functions, part 1. -/
set_option maxRecDepth 8000
namespace Go.Proofs.YtkfdjkkbnfohjaaGreatDoor
open Go.RowKit
open Classical
theorem qskip {α:Type} {Q:α→Prop} {c:Bool} {X Y:Option α} (hc:c=false) (h:Yes Y Q):Yes (bif c then X else Y) Q:=by rw [hc]; exact h
theorem qtake {α:Type} {Q:α→Prop} {c:Bool} {X Y:Option α} (hc:c=true) (h:Yes X Q):Yes (bif c then X else Y) Q:=by rw [hc]; exact h
theorem qbind {α β:Type} {Q:β→Prop} {x:Option α} {f:α→Option β} (a:α) (h:x=some a) (k:Yes (f a) Q):Yes (x.bind f) Q:=by rw [h]; exact k
theorem qidx {α:Type} {xs:List α} {i:Nat} (h:i < xs.length):idx xs (i:Int)=some xs[i]:=by unfold idx; rw [if_pos (Int.natCast_nonneg i)]; exact List.getElem?_eq_getElem h
theorem rem_nn {a b:Int} (ha:0 ≤ a) (hb:0 < b):rem64 a b=some (a % b):=by
 unfold rem64; rw [if_neg (by omega),Int.tmod_eq_emod_of_nonneg ha]
theorem take_succ {α:Type} {xs:List α} {i:Nat} (h:i < xs.length):xs.take (i + 1)=xs.take i ++ [xs[i]]:=by
 rw [List.take_add_one,List.getElem?_eq_getElem h]; rfl
def btw (a b x:Int):Bool:=decide (a ≤ x∧x ≤ b)
theorem btw_iff {a b x:Int}:btw a b x=true ↔ a ≤ x∧x ≤ b:=by simp [btw]
theorem c165 (xs:List Int) (φ:Int→Option Bool) (p:Int→Bool) (hl:xs.length < 9223372036854775807) (h:∀ a ∈ xs,φ a=some (p a)):f46 xs φ=some (xs.any p):=
 Yes.eq (Yes.bind (Yes.mono (index_is xs φ p hl h) fun _ hr=>Yes.some (index_any hr)))
theorem c250 (xs:List ChainCard) (φ:ChainCard→Option Bool) (p:ChainCard→Bool) (hl:xs.length < 9223372036854775807) (h:∀ a ∈ xs,φ a=some (p a)):f66 xs φ=some (xs.any p):=
 Yes.eq (Yes.bind (Yes.mono (index_is xs φ p hl h) fun _ hr=>Yes.some (index_any hr)))
theorem b192 (x a b:Int):f47 x a b=some (!btw a b x):=by unfold f47 btw; by_cases h1:x < a <;> by_cases h2:x > b <;> simp [h1,h2] <;> omega
theorem c112 (a b:Int) (xs:List Int) (hl:xs.length < 9223372036854775807) (h:∀ x ∈ xs,a ≤ x∧x ≤ b):f26 a b xs=some true:=by
 unfold f26
 rw [c165 xs _ (fun x=>!btw a b x) hl fun x _=>b192 x a b]
 simp only [Option.bind_some,Option.some.injEq,Bool.not_eq_true',List.any_eq_false]
 exact fun x hx=>by rw [btw_iff.2 (h x hx)]; simp
theorem b179 (x a b:Int):f69 x a b=some (!btw a b x):=by unfold f69 btw; by_cases h1:x < a <;> by_cases h2:x > b <;> simp [h1,h2] <;> omega
theorem c103 (a b:Int) (xs:List Int) (hl:xs.length < 9223372036854775807) (h:∀ x ∈ xs,a ≤ x∧x ≤ b):f49 a b xs=some true:=by
 unfold f49
 rw [c165 xs _ (fun x=>!btw a b x) hl fun x _=>b179 x a b]
 simp only [Option.bind_some,Option.some.injEq,Bool.not_eq_true',List.any_eq_false]
 exact fun x hx=>by rw [btw_iff.2 (h x hx)]; simp
theorem b241 (x a b:Int):f61 x a b=some (!btw a b x):=by unfold f61 btw; by_cases h1:x < a <;> by_cases h2:x > b <;> simp [h1,h2] <;> omega
theorem c184 (a b:Int) (xs:List Int) (hl:xs.length < 9223372036854775807) (h:∀ x ∈ xs,a ≤ x∧x ≤ b):f42 a b xs=some true:=by
 unfold f42
 rw [c165 xs _ (fun x=>!btw a b x) hl fun x _=>b241 x a b]
 simp only [Option.bind_some,Option.some.injEq,Bool.not_eq_true',List.any_eq_false]
 exact fun x hx=>by rw [btw_iff.2 (h x hx)]; simp
theorem shl_small {n:Nat} (h:n ≤ 24):shl64 (1:Int) (n:Int)=some ((2 ^ n:Nat):Int):=by
 unfold shl64
 rw [if_neg (by omega),Int.toNat_natCast,show min n 64=n by omega]
 have h1:2 ^ n ≤ 16777216:=Nat.pow_le_pow_right (n:=2) (by omega) h
 have h2:(1:Int) * 2 ^ n=((2 ^ n:Nat):Int):=by rw [Int.one_mul]; norm_cast
 rw [h2]
 generalize 2 ^ n=b at h1 ⊢
 rw [w64_id (by omega) (by omega)]
theorem wu_id {n:Int} (h1:0 ≤ n) (h2:n ≤ 9223372036854775807):wu64 n=n:=by
 unfold wu64 IntKind.wrap
 simp only [IntKind.bits,IntKind.signed]
 first
  | omega
  | (simp; omega)
theorem and_rng (a:Int) {m:Nat} (hm:m < 9223372036854775808):0 ≤ bit64 .and a (m:Int)∧bit64 .and a (m:Int) ≤ m:=by
 unfold bit64
 simp only
 have h1:(BitVec.ofInt 64 a &&& BitVec.ofInt 64 (m:Int)).toNat ≤ m:=by
  rw [BitVec.toNat_and]
  refine Nat.le_trans Nat.and_le_right ?_
  rw [BitVec.toNat_ofInt]
  omega
 rw [w64_id (by omega) (by omega)]
 omega
theorem pow_rng {H:Nat} (h:H ≤ 12):1 ≤ 2 ^ H∧2 ^ H ≤ 4096:=⟨Nat.one_le_two_pow,Nat.pow_le_pow_right (n:=2) (by omega) h⟩
def hk (x:Loom):Nat:=1 + x.Hooks.toNat % 12
theorem hk_rng (x:Loom):1 ≤ hk x∧hk x ≤ 12:=by unfold hk; omega
theorem hk_eq (x:Loom):rem64 (x.Hooks.toNat:Int) 12=some ((x.Hooks.toNat:Int) % 12)∧w64 ((1:Int) + (x.Hooks.toNat:Int) % 12)=(hk x:Int):=by
 have:=x.Hooks.toNat_lt
 refine ⟨rem_nn (by omega) (by omega),?_⟩
 rw [w64_id (by omega) (by omega)]
 unfold hk
 omega
def HOk (H:Nat) (h:TieHarness):Prop:=h.Hooks=H∧(1 ≤ h.Warps.length∧h.Warps.length ≤ 96)∧∀ a ∈ h.Warps,0 ≤ a∧a ≤ (H:Int) - 1
def DOk (H:Nat) (d:Design):Prop:=d.Hooks=H∧(1 ≤ d.Rows.length∧d.Rows.length ≤ 30)∧∀ r ∈ d.Rows,0 ≤ r∧r < ((2 ^ H:Nat):Int)
theorem first (i n m:Nat) (hi:i < max 1 (min n m)):(bif ((i:Int) == (0:Int)) then some (true) else bif (decide ((i:Int) < (n:Int))) then some ((decide ((i:Int) < (m:Int)))) else some (false))=some true:=by
 refine Yes.eq (Yes.cond (fun _=>Yes.some rfl) (fun hc=>?_))
 have h0:¬ (i:Int)=0:=by simpa using hc
 exact qtake (decide_eq_true (by omega)) (Yes.some (decide_eq_true (by omega)))
theorem last (n m:Nat) (hm:1 ≤ m):(bif (((max 1 (min n m):Nat):Int) == (0:Int)) then some (true) else bif (decide (((max 1 (min n m):Nat):Int) < (n:Int))) then some ((decide (((max 1 (min n m):Nat):Int) < (m:Int)))) else some (false))=some false:=by
 refine Yes.eq (qskip (beq_eq_false_iff_ne.2 (by omega)) (Yes.cond (fun hc=>?_) (fun _=>Yes.some rfl)))
 have:=of_decide_eq_true hc
 exact Yes.some (decide_eq_false (by omega))
theorem p54 (x:Loom) (hl:x.Warps.length ≤ 9223372036854775807):Yes (f4 x) (HOk (hk x)):=by
 have hH:=hk_rng x
 unfold f4
 refine qbind _ (hk_eq x).1 ?_
 rw [(hk_eq x).2]
 generalize hk x=H at hH ⊢
 refine Yes.bind (Yes.mono (Q':=HOk H) ?_ fun d hd=>Yes.some hd)
 refine Yes.upto (max 1 (min x.Warps.length 30)) (by omega) (fun i d=>d.Hooks=H∧d.Warps.length=i∧∀ a ∈ d.Warps,0 ≤ a∧a ≤ (H:Int) - 1) ⟨rfl,rfl,by simp⟩ (fun i d k hi hI hk=>?_) (fun d k hI=>?_)
 ·obtain ⟨i1, i2, i3⟩ := hI
  refine Yes.jn (qbind true (first i _ 30 hi) (qtake rfl (Yes.bind (Yes.bind (Yes.mono (Q':=fun r=>0 ≤ r∧r ≤ (H:Int) - 1) ?_ fun r hr=>?_)))))
  ·refine Yes.cond (fun hc => ?_) (fun _ => Yes.some (by omega))
   have hlt:i < x.Warps.length:=by have:=of_decide_eq_true hc; omega
   refine qbind _ (qidx hlt) ?_
   rw [i1]
   refine qbind _ (rem_nn (by omega) (by omega)) (Yes.some ?_)
   have h1:=Int.emod_nonneg (x.Warps[i].toNat:Int) (show (H:Int) ≠ 0 by omega)
   have h2:=Int.emod_lt_of_pos (x.Warps[i].toNat:Int) (show (0:Int) < H by omega)
   omega
  ·refine Yes.bind (Yes.apnd (by rw [i2]; simp; omega) (by rw [i2]; simp; omega) (Yes.some (hk _ ⟨i1, by simp [i2], fun a ha => ?_⟩)))
   rcases List.mem_append.1 ha with ha | ha
   ·exact i3 a ha
   ·rw [List.mem_singleton.1 ha]; exact hr
 ·obtain ⟨i1, i2, i3⟩ := hI
  exact Yes.jn (qbind false (last _ 30 (by omega)) (qskip rfl (Yes.some ⟨i1,by omega,i3⟩)))
theorem p55 (x:Loom) (hl:x.Rows.length ≤ 9223372036854775807):Yes (f5 x) (fun d=>DOk (hk x) d∧d.Rows.length ≤ 10):=by
 have hH:=hk_rng x
 unfold f5
 refine qbind _ (hk_eq x).1 ?_
 rw [(hk_eq x).2]
 generalize hk x=H at hH ⊢
 have hp:=pow_rng hH.2
 refine Yes.bind (Yes.mono (Q':=fun d=>DOk H d∧d.Rows.length ≤ 10) ?_ fun d hd=>Yes.some hd)
 refine Yes.upto (max 1 (min x.Rows.length 10)) (by omega) (fun i d=>d.Hooks=H∧d.Rows.length=i∧∀ r ∈ d.Rows,0 ≤ r∧r < ((2 ^ H:Nat):Int)) ⟨rfl,rfl,by simp⟩ (fun i d k hi hI hk=>?_) (fun d k hI=>?_)
 ·obtain ⟨i1, i2, i3⟩ := hI
  refine Yes.jn (qbind true (first i _ 10 hi) (qtake rfl (Yes.bind (Yes.bind (Yes.mono (Q':=fun _=>True) ?_ fun r _=>?_)))))
  ·refine Yes.cond (fun hc => ?_) (fun _ => Yes.some trivial)
   have hlt:i < x.Rows.length:=by have:=of_decide_eq_true hc; omega
   exact qbind _ (qidx hlt) (Yes.some trivial)
  ·rw [i1, wu_id (by omega) (by omega)]
   refine qbind _ (shl_small (by omega)) ?_
   have hb:=and_rng r (m:=2 ^ H - 1) (by omega)
   rw [w64_id (n:=((2 ^ H:Nat):Int) - 1) (by omega) (by omega),show ((2 ^ H:Nat):Int) - 1=((2 ^ H - 1:Nat):Int) by omega]
   refine Yes.bind (Yes.apnd (by rw [i2]; simp; omega) (by rw [i2]; simp; omega) (Yes.some (hk _ ⟨rfl,by simp [i2],fun a ha=>?_⟩)))
   rcases List.mem_append.1 ha with ha | ha
   ·exact i3 a ha
   ·rw [List.mem_singleton.1 ha]; omega
 ·obtain ⟨i1, i2, i3⟩ := hI
  exact Yes.jn (qbind false (last _ 10 (by omega)) (qskip rfl (Yes.some ⟨⟨i1,by omega,i3⟩,by omega⟩)))
theorem c11 (xs:List Int) (h:xs.length ≤ 1000):f13 xs=some xs:=by
 refine Yes.eq ?_
 unfold f13
 exact Yes.bind (Yes.apnd (by simp; omega) (by simp; omega) (Yes.some rfl))
theorem c31 {H:Nat} {d:Design} (h:DOk H d):f9 d=some d:=by
 unfold f9; rw [c11 _ (by have:=h.2.1; omega)]; rfl
theorem c30 {H:Nat} {h:TieHarness} (hh:HOk H h):f15 h=some h:=by
 unfold f15; rw [c11 _ (by have:=hh.2.1; omega)]; rfl
theorem c105 {H:Nat} {h:TieHarness} (hH:1 ≤ H∧H ≤ 12) (hk:HOk H h):f29 h=some 0:=by
 obtain ⟨k1,k2,k3⟩:=hk
 refine Yes.eq ?_
 unfold f29
 refine Yes.jn (qbind true (c184 _ _ _ (by simp) fun a ha=>by rw [List.mem_singleton.1 ha,k1]; omega) (qskip rfl (qskip (decide_eq_false (by omega)) (qskip (beq_eq_false_iff_ne.2 (by omega)) (qbind true (c184 _ _ _ (by omega) fun a ha=>?_) (qskip rfl (Yes.some rfl)))))))
 rw [k1,w64_id (by omega) (by omega)]; exact k3 a ha
theorem c102 {H:Nat} {d:Design} (hH:1 ≤ H∧H ≤ 12) (hd:DOk H d):f30 d=some 0:=by
 obtain ⟨k1,k2,k3⟩:=hd
 have hp:=pow_rng hH.2
 refine Yes.eq ?_
 unfold f30
 refine Yes.jn (qbind true (c103 _ _ _ (by simp) fun a ha=>by rw [List.mem_singleton.1 ha,k1]; omega) (qskip rfl (qskip (decide_eq_false (by omega)) (qskip (beq_eq_false_iff_ne.2 (by omega)) ?_))))
 rw [k1]
 refine qbind _ (shl_small (by omega)) (qbind true (c103 _ _ _ (by omega) fun a ha=>?_) (qskip rfl (Yes.some rfl)))
 rw [w64_id (by omega) (by omega)]
 have:=k3 a ha
 omega
theorem c13 {xs:List Int} (h:xs.length ≤ 1000):f18 xs xs=some true:=by
 refine Yes.eq ?_
 unfold f18
 refine Yes.jn (qskip (by simp) (Yes.jn ?_))
 refine Yes.lp (fun s=>∃ i:Nat,s=i∧i ≤ xs.length) (fun s=>xs.length - s.toNat) ⟨0,rfl,by omega⟩ (by omega) ?_
 rintro _ k ⟨i,rfl,hi⟩ hk
 refine Yes.jn (Yes.cond (fun hc=>?_) (fun _=>Yes.some rfl))
 have hc:(i:Int) < (xs.length:Int):=of_decide_eq_true hc
 refine Yes.jn (qbind _ (qidx (by omega)) (qbind _ (qidx (by omega)) (qskip (by simp) (hk _ ⟨i + 1,?_,by omega⟩ ?_))))
 ·rw [w64_id (by omega) (by omega)]; simp
 ·rw [w64_id (by omega) (by omega)]; omega
theorem c32 {xs:List Str} (h:xs.length ≤ 1000):f20 xs xs=some true:=by
 refine Yes.eq ?_
 unfold f20
 refine Yes.jn (qskip (by simp) (Yes.jn ?_))
 refine Yes.lp (fun s=>∃ i:Nat,s=i∧i ≤ xs.length) (fun s=>xs.length - s.toNat) ⟨0,rfl,by omega⟩ (by omega) ?_
 rintro _ k ⟨i,rfl,hi⟩ hk
 refine Yes.jn (Yes.cond (fun hc=>?_) (fun _=>Yes.some rfl))
 have hc:(i:Int) < (xs.length:Int):=of_decide_eq_true hc
 refine Yes.jn (qbind _ (qidx (by omega)) (qbind _ (qidx (by omega)) (qskip (by simp) (hk _ ⟨i + 1,?_,by omega⟩ ?_))))
 ·rw [w64_id (by omega) (by omega)]; simp
 ·rw [w64_id (by omega) (by omega)]; omega
def crd (rs:List Int):List ChainCard:=rs.mapIdx fun i r=>⟨i,r,false⟩
theorem crd_len (rs:List Int):(crd rs).length=rs.length:=by simp [crd]
theorem crd_at {rs:List Int} {i:Nat} (h:i < (crd rs).length) (h':i < rs.length):(crd rs)[i]=⟨i,rs[i],false⟩:=by simp [crd]
theorem crd_snoc (rs:List Int) (r:Int):crd (rs ++ [r])=crd rs ++ [⟨rs.length,r,false⟩]:=by unfold crd; rw [List.mapIdx_concat]
theorem c109 {H:Nat} (h:1 ≤ H∧H ≤ 12):f23 (H:Int)=some true:=by
 unfold f23
 rw [c112 _ _ _ (by simp) fun a ha=>by rw [List.mem_singleton.1 ha]; omega]
 rfl
theorem c110 {H:Nat} (h:1 ≤ H∧H ≤ 12) {xs:List Int} (hl:xs.length ≤ 1000) (hx:∀ r ∈ xs,0 ≤ r∧r < ((2 ^ H:Nat):Int)):f24 (H:Int) xs=some true:=by
 have hp:=pow_rng h.2
 refine Yes.eq ?_
 unfold f24
 refine qbind _ (shl_small (by omega)) (qbind true (c112 _ _ _ (by omega) fun a ha=>?_) (Yes.some rfl))
 rw [w64_id (by omega) (by omega)]
 have:=hx a ha
 omega
theorem p42 {H:Nat} (hH:1 ≤ H∧H ≤ 12) {d:Design} (hd:DOk H d):f8 d=some (⟨d.Hooks,crd d.Rows⟩,0):=by
 obtain ⟨h1,h2,h3⟩:=hd
 refine Yes.eq ?_
 unfold f8
 refine Yes.jn (qbind true (by rw [h1]; exact c109 hH) (qskip rfl (qskip (decide_eq_false (by omega)) (qskip (beq_eq_false_iff_ne.2 (by omega)) (qbind true (by rw [h1]; exact c110 hH (by omega) h3) (qskip rfl ?_))))))
 refine Yes.bind (Yes.mono (Q':=fun m=>m=⟨d.Hooks,crd d.Rows⟩) ?_ fun m hm=>Yes.some (by rw [hm]))
 refine Yes.upto d.Rows.length (by omega) (fun i m=>m=⟨d.Hooks,crd (d.Rows.take i)⟩) rfl (fun i m k hi hI hk=>?_) (fun m k hI=>qskip (decide_eq_false (by omega)) (Yes.some (by rw [hI,List.take_length])))
 subst hI
 have hl:(crd (d.Rows.take i)).length=i:=by rw [crd_len]; simp; omega
 refine qtake (decide_eq_true (by omega)) (Yes.bind (qbind _ (qidx hi) (Yes.bind (Yes.apnd (by simp only [hl]; simp; omega) (by simp only [hl]; simp; omega) (Yes.some (hk _ ?_))))))
 rw [take_succ hi,crd_snoc,List.length_take,show min i d.Rows.length=i by omega]
def BOk (H:Nat) (b:ChainBelt):Prop:=b.Hooks=H∧(1 ≤ b.Cards.length∧b.Cards.length ≤ 10)∧∀ c ∈ b.Cards,(0 ≤ c.Number∧c.Number ≤ 59)∧0 ≤ c.Row∧c.Row < ((2 ^ H:Nat):Int)
theorem c59 {H:Nat} {b:ChainBelt} (h:BOk H b):f12 b=some b:=by
 have:=h.2.1
 refine Yes.eq ?_
 unfold f12
 exact Yes.bind (Yes.apnd (by simp; omega) (by simp; omega) (Yes.some rfl))
theorem c111 {H:Nat} (hH:1 ≤ H∧H ≤ 12) {b:ChainBelt} (h:BOk H b):f25 b=some (⟨b,b.Hooks⟩,0):=by
 obtain ⟨h1,h2,h3⟩:=h
 refine Yes.eq ?_
 unfold f25
 have t1:∀ x y z:Int,x ≤ z→z ≤ y→∀ a ∈ ([z]:List Int),x ≤ a∧a ≤ y:=fun x y z h1 h2 a ha=>by rw [List.mem_singleton.1 ha]; exact ⟨h1,h2⟩
 have h249:∀ c ∈ b.Cards,f65 c (H:Int)=some false:=fun c hc=>by
  have hc:=h3 c hc
  refine Yes.eq ?_
  unfold f65
  refine Yes.bind (qbind true (c112 _ _ _ (by simp) (t1 _ _ _ (by omega) (by omega))) (qskip rfl (qbind true (c110 hH (by simp) fun r hr=>?_) (Yes.some (Yes.some rfl)))))
  rw [List.mem_singleton.1 hr]; exact hc.2
 have h191:f45 (H:Int) b.Cards=some true:=by
  refine Yes.eq ?_
  unfold f45
  refine Yes.bind (qtake (decide_eq_true (by omega)) (qbind _ (c250 b.Cards _ (fun _=>false) (by omega) h249) (Yes.some (Yes.some ?_))))
  simp
 refine Yes.jn (qbind true (by rw [h1]; exact c109 hH) (qskip rfl (qskip (decide_eq_false (by omega)) (qbind true (by rw [h1]; exact h191) (qskip rfl (Yes.some rfl))))))
def un (c:ChainCard):ChainCard:={ c with Turned:=false }
theorem crd_un (rs:List Int):(crd rs).map un=crd rs:=by
 apply List.ext_getElem (by simp)
 intro i h1 h2
 have h3:i < rs.length:=by rw [crd_len] at h2; exact h2
 rw [List.getElem_map,crd_at h2 h3]; rfl
theorem p57 (by_:List UInt8) (hl:by_.length ≤ 9223372036854775807) {i:Int} (hi:0 ≤ i):Yes (f10 by_ i) (fun k=>0 ≤ k∧k ≤ 255):=by
 unfold f10
 refine Yes.jn (Yes.cond (fun _=>Yes.some (by omega)) (fun hc=>?_))
 have h0:¬ (by_.length:Int)=0:=by simpa using hc
 obtain ⟨n,rfl⟩:=Int.eq_ofNat_of_zero_le hi
 have hlt:n % by_.length < by_.length:=Nat.mod_lt _ (by omega)
 refine qbind _ (rem_nn (by omega) (by omega)) ?_
 rw [show (n:Int) % (by_.length:Int)=((n % by_.length:Nat):Int) from (Int.natCast_emod n by_.length).symm]
 refine qbind _ (qidx hlt) (Yes.some ?_)
 have:=(by_[n % by_.length]).toNat_lt
 omega
theorem bok_of {H:Nat} {rs:List Int} (hl:1 ≤ rs.length∧rs.length ≤ 10) (hr:∀ r ∈ rs,0 ≤ r∧r < ((2 ^ H:Nat):Int)) {b:ChainBelt} (h1:b.Hooks=H) (hp:(b.Cards.map un).Perm (crd rs)):BOk H b:=by
 have hlen:b.Cards.length=rs.length:=by have:=hp.length_eq; rw [List.length_map,crd_len] at this; exact this
 refine ⟨h1,by omega,fun c hc=>?_⟩
 have hm:un c ∈ crd rs:=hp.mem_iff.1 (List.mem_map_of_mem hc)
 obtain ⟨i,hi,he⟩:=List.getElem_of_mem hm
 have hi':i < rs.length:=by rw [crd_len] at hi; exact hi
 rw [crd_at hi hi'] at he
 have e1:c.Number=(i:Int):=congrArg ChainCard.Number he.symm
 have e2:c.Row=rs[i]:=congrArg ChainCard.Row he.symm
 rw [e1,e2]
 exact ⟨by omega,hr _ (List.getElem_mem hi')⟩
end Go.Proofs.YtkfdjkkbnfohjaaGreatDoor
