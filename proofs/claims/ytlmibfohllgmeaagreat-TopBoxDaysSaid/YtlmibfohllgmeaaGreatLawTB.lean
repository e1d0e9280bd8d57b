/- TopBoxDays: the orders that are left out. -/
import Derived.Test.YtlmibfohllgmeaaGreatLmQ2
set_option maxRecDepth 8000
namespace Go.Proofs.YtlmibfohllgmeaaGreat
open Go.RowKit
open Classical

theorem s90 (x y:Int):f66 x y=some (if x < y then -1 else if x > y then 1 else 0):=by
 unfold f66 f110
 by_cases h1:x < y <;> by_cases h2:x > y <;> simp [jn,h1,h2]
def Mn (x y:List Int):Prop:=∃ (i:Nat) (a b:Int),x[i]?=some a∧y[i]?=some b∧a < b∧∀ j,j < i→x[j]?=y[j]?
theorem lexL_irr {x:List Int}:¬ Mn x x:=by
 rintro ⟨i,a,b,h1,h2,h3,_⟩
 rw [h1] at h2; cases h2; omega
theorem lexL_asym {x y:List Int} (h:Mn x y):¬ Mn y x:=by
 obtain ⟨i,a,b,h1,h2,h3,h4⟩:=h
 rintro ⟨i',a',b',k1,k2,k3,k4⟩
 rcases Nat.lt_trichotomy i i' with h | rfl | h
 ·have:=k4 i h; rw [h1,h2] at this; cases this; omega
 ·rw [h1] at k2; rw [h2] at k1; cases k1; cases k2; omega
 ·have:=h4 i' h; rw [k1,k2] at this; cases this; omega
theorem lexL_at {x y:List Int} {i:Nat} {a b:Int} (h1:x[i]?=some a) (h2:y[i]?=some b) (hne:a ≠ b) (h4:∀ j,j < i→x[j]?=y[j]?):Mn x y ↔ a < b:=by
 constructor
 ·rintro ⟨i', a', b', k1, k2, k3, k4⟩
  rcases Nat.lt_trichotomy i i' with h | rfl | h
  ·have:=k4 i h; rw [h1,h2] at this; cases this; exact absurd rfl hne
  ·rw [h1] at k1; rw [h2] at k2; cases k1; cases k2; exact k3
  ·have:=h4 i' h; rw [k1,k2] at this; cases this; omega
 ·exact fun h=>⟨i,a,b,h1,h2,h,h4⟩
theorem same_pre {x y:List Int} (hl:x.length=y.length) (h:∀ j,j < x.length→x[j]?=y[j]?):x=y:=by
 apply List.ext_getElem?
 intro i
 by_cases hi:i < x.length
 ·exact h i hi
 ·rw [List.getElem?_eq_none (by omega),List.getElem?_eq_none (by omega)]
theorem lexL_or {x y:List Int} (hl:x.length=y.length) (hne:x ≠ y):Mn x y ∨ Mn y x:=by
 have key:∀ n,n ≤ x.length→(∀ j,j < n→x[j]?=y[j]?) ∨ Mn x y ∨ Mn y x:=by
  intro n
  induction n with
  | zero=>exact fun _=>.inl fun j h=>absurd h (Nat.not_lt_zero _)
  | succ n ih=>
   intro hn
   rcases ih (by omega) with h | h
   ·have h1 : x[n]? = some x[n] := List.getElem?_eq_getElem (by omega)
    have h2:y[n]?=some (y[n]'(by omega)):=List.getElem?_eq_getElem (by omega)
    rcases Int.lt_trichotomy x[n] (y[n]'(by omega)) with h3 | h3 | h3
    ·exact .inr (.inl ⟨n,_,_,h1,h2,h3,h⟩)
    ·refine .inl fun j hj => ?_
     rcases Nat.lt_succ_iff_lt_or_eq.1 hj with h' | rfl
     ·exact h j h'
     ·rw [h1,h2,h3]
    ·exact .inr (.inr ⟨n,_,_,h2,h1,h3,fun j hj=>(h j hj).symm⟩)
   ·exact .inr h
 rcases key x.length (Nat.le_refl _) with h | h
 ·exact absurd (same_pre hl h) hne
 ·exact h
theorem Xw {x:List Int} {i:Nat} (h:i < x.length):x[i]?=some x[i]:=List.getElem?_eq_getElem h
theorem s85 {x y:List Int} (hx:x.length < 1000) (he:x.length=y.length):Yes (f95 x y) fun r=>(r > 0 ↔ Mn y x):=by
 unfold f95
 refine Yes.jn ?_
 refine Yes.upto0 x.length (by omega) (fun i=>∀ j,j < i→x[j]?=y[j]?) (fun _ h=>absurd h (Nat.not_lt_zero _)) (fun i k hi hI hk=>?_) (fun k hI=>?_)
 ·have h1 : decide ((i : Int) < (x.length : Int)) = true := decide_eq_true (Int.ofNat_lt.2 hi)
  have h2:decide ((i:Int) ≥ (y.length:Int))=false:=decide_eq_false (by omega)
  rw [h1,cond_true]
  refine Yes.jn ?_
  rw [Oa hi,Option.bind_some]
  refine Yes.jn ?_
  rw [h2,cond_false]
  dsimp only
  rw [Oa (show i < y.length by omega),Option.bind_some,s90,Option.bind_some]
  by_cases h3:x[i] < y[i]'(by omega)
  ·rw [if_pos h3]
   refine Yes.some ⟨fun h=>absurd h (by decide),fun h=>?_⟩
   rw [lexL_at (Xw (show i < y.length by omega)) (Xw hi) (by omega) (fun j hj=>(hI j hj).symm)] at h
   omega
  ·rw [if_neg h3]
   by_cases h4:x[i] > y[i]'(by omega)
   ·rw [if_pos h4]
    refine Yes.some ⟨fun _=>?_,fun _=>by decide⟩
    rw [lexL_at (Xw (show i < y.length by omega)) (Xw hi) (by omega) (fun j hj=>(hI j hj).symm)]
    exact h4
   ·rw [if_neg h4]
    refine hk fun j hj=>?_
    rcases Nat.lt_succ_iff_lt_or_eq.1 hj with h' | rfl
    ·exact hI j h'
    ·rw [Xw hi, Xw (show j < y.length by omega)]
     congr 1; omega
 ·have h1 : decide ((x.length : Int) < (x.length : Int)) = false := by simp
  have h2:decide ((x.length:Int) < (y.length:Int))=false:=decide_eq_false (by omega)
  rw [h1,cond_false]
  refine Yes.jn ?_
  rw [h2,cond_false]
  have:x=y:=same_pre he hI
  refine Yes.some ⟨fun h=>absurd h (by decide),fun h=>?_⟩
  rw [this] at h; exact absurd h lexL_irr
def Yd (a b:Nat):Prop:=(Kq a).length < (Kq b).length ∨ (Kq a).length=(Kq b).length∧Mn (Kq a) (Kq b)
noncomputable def Ve (P : Nat → Prop) : Nat → Option Nat
 | 0=>none
 | i + 1=>if P i∧(∀ b,Ve P i=some b→Yd i b) then some i else Ve P i
theorem nums_len (a:Nat):(Kq a).length ≤ 62:=by
 unfold Kq
 rw [List.length_map]
 have:=List.length_filter_le (fun i=>a.testBit i) (List.range 62)
 rw [List.length_range] at this; exact this
theorem nums_inj {a b:Nat} (ha:a < 2 ^ 62) (hb:b < 2 ^ 62) (h:Kq a=Kq b):a=b:=by
 apply Nat.eq_of_testBit_eq
 intro i
 rw [Bool.eq_iff_iff,← mem_nums ha,← mem_nums hb,h]
theorem best_lt {P:Nat→Prop} {i b:Nat} (h:Ve P i=some b):b < i∧P b:=by
 induction i with
 | zero=>cases h
 | succ i ih=>
  unfold Ve at h
  split at h
  ·rename_i hc
   cases h; exact ⟨by omega,hc.1⟩
  ·have:=ih h; exact ⟨by omega,this.2⟩
theorem Nc {P:Nat→Prop} {i:Nat} (h:Ve P i=none):∀ s,s < i→¬ P s:=by
 induction i with
 | zero=>exact fun s hs=>absurd hs (Nat.not_lt_zero _)
 | succ i ih=>
  unfold Ve at h
  split at h
  ·cases h
  ·rename_i hc
   intro s hs hp
   rcases Nat.lt_succ_iff_lt_or_eq.1 hs with h' | rfl
   ·exact ih h s h' hp
   ·exact hc ⟨hp,fun b hb=>by rw [h] at hb; cases hb⟩
theorem best_min {P:Nat→Prop} {i b:Nat} (h:Ve P i=some b):∀ s,s < i→P s→(Kq b).length ≤ (Kq s).length:=by
 induction i generalizing b with
 | zero=>cases h
 | succ i ih=>
  unfold Ve at h
  split at h
  ·rename_i hc
   cases h
   intro s hs hp
   rcases Nat.lt_succ_iff_lt_or_eq.1 hs with h' | rfl
   ·cases hb : Ve P i with
    | none=>exact absurd hp (Nc hb s h')
    | some b=>
     have h1:=hc.2 b hb
     have h2:=ih hb s h' hp
     unfold Yd at h1; omega
   ·omega
  ·rename_i hc
   intro s hs hp
   rcases Nat.lt_succ_iff_lt_or_eq.1 hs with h' | rfl
   ·exact ih h s h' hp
   ·have h1 : ¬ Yd s b := fun h2 => hc ⟨hp, fun b' hb' => by rw [h] at hb'; cases hb'; exact h2⟩
    unfold Yd at h1; omega
def bp : Option Nat → List Int × Bool
 | none=>([],false)
 | some b=>(Kq b,true)
theorem lt_pow62 {n s:Nat} (hn:n ≤ 7) (hs:s < 2 ^ n):s < 2 ^ 62:=Kc (lt128 hn hs)
theorem s55 {n:Nat} (hn:n ≤ 7) {φ:Int→Option Bool} {P:Nat→Prop} (hφ:∀ s:Nat,s < 2 ^ n→φ (s:Int)=some (decide (P s))):f49 (n:Int) φ=some (bp (Ve P (2 ^ n))):=by
 have hp:=pow7 hn
 refine Yes.eq ?_
 unfold f49
 refine Yes.bind ?_
 rw [Ss (by omega),Option.bind_some]
 refine Yes.rng (fun (s:List Int × Bool) i=>(s.1,s.2,(i:Int))) 0 (2 ^ n) (fun i s=>s=bp (Ve P i)) _ rfl (Nat.zero_le _) (by omega) rfl (fun i s k _ hi hI hk=>?_) (fun s k hI=>?_)
 ·obtain ⟨u, v⟩ := s
  have h1:decide ((i:Int) < ((2 ^ n:Nat):Int))=true:=decide_eq_true (Int.ofNat_lt.2 hi)
  have hi62:=lt_pow62 hn hi
  have hlen:=nums_len i
  dsimp only
  rw [h1,cond_true,s59 hi62]
  simp only [Option.bind_some,jn,Uw (show i < 4611686018427387904 by omega),hφ i hi]
  refine Yes.bind ?_
  cases hb:Ve P i with
  | none=>
   rw [hb] at hI
   cases hI
   simp only [cond_false,Option.bind_some]
   have hbs:Ve P (i + 1)=if P i then some i else none:=by
    unfold Ve; rw [hb]; simp
   by_cases hp:P i
   ·rw [decide_eq_true hp]
    refine Yes.some (hk _ ?_)
    rw [hbs,if_pos hp]; rfl
   ·rw [decide_eq_false hp]
    refine Yes.some (hk _ ?_)
    rw [hbs,if_neg hp]; rfl
  | some b=>
   have hbl:=best_lt hb
   have hb62:b < 2 ^ 62:=by omega
   have hlb:=nums_len b
   have hne:Kq i ≠ Kq b:=fun e=>by have:=nums_inj hi62 hb62 e; omega
   rw [hb] at hI
   cases hI
   simp only [cond_true]
   have hbs:Ve P (i + 1)=if P i∧Yd i b then some i else some b:=by
    rw [Ve,hb]
    have:(∀ b',some b=some b'→Yd i b') ↔ Yd i b:=⟨fun h=>h b rfl,fun h b' e=>by cases e; exact h⟩
    simp only [this]
   have hgo:Yes (some (bif decide (P i∧Yd i b) then (Kq i,true) else (Kq b,true))) fun r=>Yes (k (r.1,r.2,((i + 1:Nat):Int))) fun r=>Yes (some (r.1,r.2)) fun r=>r=bp (Ve P (2 ^ n)):=by
    by_cases hc:P i∧Yd i b
    ·rw [decide_eq_true hc]
     refine Yes.some (hk _ ?_)
     rw [hbs,if_pos hc]; rfl
    ·rw [decide_eq_false hc]
     refine Yes.some (hk _ ?_)
     rw [hbs,if_neg hc]; rfl
   have hrest:(P i∧Yd i b ↔ P i∧Yd i b):=Iff.rfl
   by_cases h2:(Kq i).length > (Kq b).length
   ·have h3 : decide (((Kq i).length : Int) > ((Kq b).length : Int)) = true := decide_eq_true (by omega)
    rw [h3]
    have:¬ (P i∧Yd i b):=fun h=>by have:=h.2; unfold Yd at this; omega
    rw [decide_eq_false this] at hgo
    exact hgo
   ·have h3 : decide (((Kq i).length : Int) > ((Kq b).length : Int)) = false := decide_eq_false (by omega)
    rw [h3]
    by_cases h4:(Kq i).length=(Kq b).length
    ·have h5 : (((Kq i).length : Int) == ((Kq b).length : Int)) = true := by rw [h4]; simp
     rw [h5]
     obtain ⟨c,hc,hci⟩:=s85 (x:=Kq i) (y:=Kq b) (by omega) h4
     simp only [cond_false,cond_true,hc,Option.bind_some]
     have hls:Yd i b ↔ ¬ c > 0:=by
      rw [hci]
      unfold Yd
      constructor
      ·rintro (h | h)
       ·omega
       ·exact lexL_asym h.2
      ·intro h
       exact .inr ⟨h4,(lexL_or h4 hne).resolve_right h⟩
     by_cases h6:c > 0
     ·have : ¬ (P i ∧ Yd i b) := fun h => hls.1 h.2 h6
      rw [decide_eq_false this] at hgo
      rw [decide_eq_true h6]
      exact hgo
     ·rw [decide_eq_false h6]
      by_cases hp:P i
      ·rw [decide_eq_true (⟨hp, hls.2 h6⟩ : P i ∧ Yd i b)] at hgo
       rw [decide_eq_true hp]
       exact hgo
      ·rw [decide_eq_false (fun h => hp h.1 : ¬ (P i ∧ Yd i b))] at hgo
       rw [decide_eq_false hp]
       exact hgo
    ·have h5 : (((Kq i).length : Int) == ((Kq b).length : Int)) = false := by rw [beq_eq_false_iff_ne]; omega
     rw [h5]
     have hls:Yd i b:=.inl (by omega)
     by_cases hp:P i
     ·rw [decide_eq_true (⟨hp, hls⟩ : P i ∧ Yd i b)] at hgo
      rw [decide_eq_true hp]
      exact hgo
     ·rw [decide_eq_false (fun h => hp h.1 : ¬ (P i ∧ Yd i b))] at hgo
      rw [decide_eq_false hp]
      exact hgo
 ·subst hI
  have h1:decide (((2 ^ n:Nat):Int) < ((2 ^ n:Nat):Int))=false:=by simp
  dsimp only
  rw [h1,cond_false]
  exact Yes.some (Yes.some rfl)
def LfP (m:LoomMill) (l:List Gf) (s:Nat):Prop:=Ud m l ng (allL m) (dif (2 ^ l.length - 1) s)
theorem sub_dif {n s:Nat} (hn:n ≤ 7) (hs:s < 2 ^ n):2 ^ n - 1 - s=dif (2 ^ n - 1) s:=by
 have hp:=pow7 hn
 apply Nat.eq_of_testBit_eq
 intro i
 rw [Ol (Kc (by omega)) (Kc (by omega)),show 2 ^ n - 1 - s=2 ^ n - (s + 1) by omega,Nat.testBit_two_pow_sub_succ hs,all_bit]
theorem lf_all {m:LoomMill} {l:List Gf} (g:Xu m l):LfP m l (2 ^ l.length - 1):=by
 have hp:=pow7 g.l7
 unfold LfP
 rw [← sub_dif g.l7 (by omega),Nat.sub_self]
 exact ⟨fun _=>0,fun _=>0,fun i hi=>absurd hi (by simp),fun i _ hi=>absurd hi (by simp)⟩
theorem lf_some {m:LoomMill} {l:List Gf} (g:Xu m l):∃ s,Ve (LfP m l) (2 ^ l.length)=some s:=by
 cases h:Ve (LfP m l) (2 ^ l.length) with
 | some s=>exact ⟨s,rfl⟩
 | none=>exact absurd (lf_all g) (Nc h _ (by have:=(pow7 g.l7).2; omega))
theorem s24 (m:LoomMill) (l:List Gf):f12 m l=some (if Dp m l ≠ 0 then ([],Dp m l) else ((bp (Ve (LfP m l) (2 ^ l.length))).1,0)):=by
 unfold f12
 rw [s50,Option.bind_some]
 by_cases hc:Dp m l=0
 ·have g := good_of hc
  have hp:=pow7 g.l7
  have hor:De m l=(⟨m,l⟩,0):=by simp [De,hc]
  rw [hor,if_neg (by simp [hc])]
  have h0:((0:Int) != 0)=false:=rfl
  simp only [jn,h0,cond_false,s52 g,Option.bind_some]
  have:=s51a g
  unfold allL at this
  rw [this,Option.bind_some,s55 g.l7 (P:=LfP m l) (fun s hs=>?_),Option.bind_some]
  ·have hdl := Aq (2 ^ l.length - 1) s
   unfold f50
   rw [s53 g,Option.bind_some,andn64 (Kc (by omega)) (Kc (by omega)),Ed (by omega),Option.bind_some]
   rfl
 ·have hor : De m l = (⟨⟨[], 0⟩, []⟩, Dp m l) := by simp [De, hc]
  have h0:(Dp m l != 0)=true:=by simp [hc]
  rw [hor,if_pos hc]
  simp only [jn,h0,cond_true]
theorem chk_good {m:LoomMill} {l:List Gf} (g:Xu m l):Dp m l=0:=by
 have h1:=g.w1
 have h2:=g.w3
 have h3:=g.l7
 unfold Dp
 rw [if_neg (by omega),if_pos]
 refine ⟨by omega,List.all_eq_true.2 fun x hx=>Xa.2 (g.w x hx),Xa.2 g.c,List.all_eq_true.2 fun x hx=>?_⟩
 have:=g.o x hx
 simp only [Xv,Bool.and_eq_true,Xa]
 omega
theorem left_le {m' : LoomMill} {l' : List Gf} (g' : Xu m' l') {t s' : Nat} (hs : s' < 2 ^ l'.length) (hL : LfP m' l' s') (hn : (Kq s').length ≤ (Kq t).length) :
  ∃ t',Ve (LfP m' l') (2 ^ l'.length)=some t'∧(Kq t').length ≤ (Kq t).length:=by
 obtain ⟨t',ht'⟩:=lf_some g'
 exact ⟨t',ht',Nat.le_trans (best_min ht' s' hs hL) hn⟩
theorem s24g {m:LoomMill} {l:List Gf} (g:Xu m l) {t:Nat} (ht:Ve (LfP m l) (2 ^ l.length)=some t):f12 m l=some (Kq t,0):=by
 have h:=s24 m l
 rw [chk_good g] at h
 simpa [ht,bp] using h
end Go.Proofs.YtlmibfohllgmeaaGreat
