/- The fewest numbers of a set for which something is so. -/
import Derived.Test.YtnfjhdagbknlbaaLawY
set_option maxRecDepth 8000
namespace Go.Proofs.Ytnfjhdagbknlbaa
open Go.RowKit
open Classical

def lexL (x y : List Int) : Prop := ∃ (i : Nat) (a b : Int), x[i]? = some a ∧ y[i]? = some b ∧ a < b ∧ ∀ j, j < i → x[j]? = y[j]?
theorem lexL_irr {x : List Int} : ¬ lexL x x := by
 rintro ⟨i, a, b, h1, h2, h3, _⟩
 rw [h1] at h2; cases h2; omega
theorem lexL_asym {x y : List Int} (h : lexL x y) : ¬ lexL y x := by
 obtain ⟨i, a, b, h1, h2, h3, h4⟩ := h
 rintro ⟨i', a', b', k1, k2, k3, k4⟩
 rcases Nat.lt_trichotomy i i' with h | rfl | h
 ·have := k4 i h; rw [h1, h2] at this; cases this; omega
 ·rw [h1] at k2; rw [h2] at k1; cases k1; cases k2; omega
 ·have := h4 i' h; rw [k1, k2] at this; cases this; omega
theorem lexL_at {x y : List Int} {i : Nat} {a b : Int} (h1 : x[i]? = some a) (h2 : y[i]? = some b) (hne : a ≠ b) (h4 : ∀ j, j < i → x[j]? = y[j]?) : lexL x y ↔ a < b := by
 constructor
 ·rintro ⟨i', a', b', k1, k2, k3, k4⟩
  rcases Nat.lt_trichotomy i i' with h | rfl | h
  ·have := k4 i h; rw [h1, h2] at this; cases this; exact absurd rfl hne
  ·rw [h1] at k1; rw [h2] at k2; cases k1; cases k2; exact k3
  ·have := h4 i' h; rw [k1, k2] at this; cases this; omega
 ·exact fun h => ⟨i, a, b, h1, h2, h, h4⟩
theorem same_pre {x y : List Int} (hl : x.length = y.length) (h : ∀ j, j < x.length → x[j]? = y[j]?) : x = y := by
 apply List.ext_getElem?
 intro i
 by_cases hi : i < x.length
 ·exact h i hi
 ·rw [List.getElem?_eq_none (by omega), List.getElem?_eq_none (by omega)]
theorem lexL_or {x y : List Int} (hl : x.length = y.length) (hne : x ≠ y) : lexL x y ∨ lexL y x := by
 have key : ∀ n, n ≤ x.length → (∀ j, j < n → x[j]? = y[j]?) ∨ lexL x y ∨ lexL y x := by
  intro n
  induction n with
  | zero => exact fun _ => .inl fun j h => absurd h (Nat.not_lt_zero _)
  | succ n ih =>
   intro hn
   rcases ih (by omega) with h | h
   ·have h1 : x[n]? = some x[n] := List.getElem?_eq_getElem (by omega)
    have h2 : y[n]? = some (y[n]'(by omega)) := List.getElem?_eq_getElem (by omega)
    rcases Int.lt_trichotomy x[n] (y[n]'(by omega)) with h3 | h3 | h3
    ·exact .inr (.inl ⟨n, _, _, h1, h2, h3, h⟩)
    ·refine .inl fun j hj => ?_
     rcases Nat.lt_succ_iff_lt_or_eq.1 hj with h' | rfl
     ·exact h j h'
     ·rw [h1, h2, h3]
    ·exact .inr (.inr ⟨n, _, _, h2, h1, h3, fun j hj => (h j hj).symm⟩)
   ·exact .inr h
 rcases key x.length (Nat.le_refl _) with h | h
 ·exact absurd (same_pre hl h) hne
 ·exact h
theorem get_some {x : List Int} {i : Nat} (h : i < x.length) : x[i]? = some x[i] := List.getElem?_eq_getElem h
theorem s85 {x y : List Int} (hx : x.length < 1000) (he : x.length = y.length) : Yes (f85 x y) fun r => (r > 0 ↔ lexL y x) := by
 unfold f85
 refine Yes.jn ?_
 refine Yes.upto0 x.length (by omega) (fun i => ∀ j, j < i → x[j]? = y[j]?) (fun _ h => absurd h (Nat.not_lt_zero _)) (fun i k hi hI hk => ?_) (fun k hI => ?_)
 ·have h1 : decide ((i : Int) < (x.length : Int)) = true := decide_eq_true (Int.ofNat_lt.2 hi)
  have h2 : decide ((i : Int) ≥ (y.length : Int)) = false := decide_eq_false (by omega)
  rw [h1, cond_true]
  refine Yes.jn ?_
  rw [idx_at hi, Option.bind_some]
  refine Yes.jn ?_
  rw [h2, cond_false]
  dsimp only
  rw [idx_at (show i < y.length by omega), Option.bind_some, s90, Option.bind_some]
  by_cases h3 : x[i] < y[i]'(by omega)
  ·rw [if_pos h3]
   refine Yes.some ⟨fun h => absurd h (by decide), fun h => ?_⟩
   rw [lexL_at (get_some (show i < y.length by omega)) (get_some hi) (by omega) (fun j hj => (hI j hj).symm)] at h
   omega
  ·rw [if_neg h3]
   by_cases h4 : x[i] > y[i]'(by omega)
   ·rw [if_pos h4]
    refine Yes.some ⟨fun _ => ?_, fun _ => by decide⟩
    rw [lexL_at (get_some (show i < y.length by omega)) (get_some hi) (by omega) (fun j hj => (hI j hj).symm)]
    exact h4
   ·rw [if_neg h4]
    refine hk fun j hj => ?_
    rcases Nat.lt_succ_iff_lt_or_eq.1 hj with h' | rfl
    ·exact hI j h'
    ·rw [get_some hi, get_some (show j < y.length by omega)]
     congr 1; omega
 ·have h1 : decide ((x.length : Int) < (x.length : Int)) = false := by simp
  have h2 : decide ((x.length : Int) < (y.length : Int)) = false := decide_eq_false (by omega)
  rw [h1, cond_false]
  refine Yes.jn ?_
  rw [h2, cond_false]
  have : x = y := same_pre he hI
  refine Yes.some ⟨fun h => absurd h (by decide), fun h => ?_⟩
  rw [this] at h; exact absurd h lexL_irr

/-! ### The best set -/
def lessS (a b : Nat) : Prop := (nums a).length < (nums b).length ∨ (nums a).length = (nums b).length ∧ lexL (nums a) (nums b)
noncomputable def best (P : Nat → Prop) : Nat → Option Nat
 | 0 => none
 | i + 1 => if P i ∧ (∀ b, best P i = some b → lessS i b) then some i else best P i
theorem nums_len (a : Nat) : (nums a).length ≤ 62 := by
 unfold nums
 rw [List.length_map]
 have := List.length_filter_le (fun i => a.testBit i) (List.range 62)
 rw [List.length_range] at this; exact this
theorem nums_inj {a b : Nat} (ha : a < 2 ^ 62) (hb : b < 2 ^ 62) (h : nums a = nums b) : a = b := by
 apply Nat.eq_of_testBit_eq
 intro i
 rw [Bool.eq_iff_iff, ← mem_nums ha, ← mem_nums hb, h]
theorem best_lt {P : Nat → Prop} {i b : Nat} (h : best P i = some b) : b < i ∧ P b := by
 induction i with
 | zero => cases h
 | succ i ih =>
  unfold best at h
  split at h
  ·rename_i hc
   cases h; exact ⟨by omega, hc.1⟩
  ·have := ih h; exact ⟨by omega, this.2⟩
theorem best_none {P : Nat → Prop} {i : Nat} (h : best P i = none) : ∀ s, s < i → ¬ P s := by
 induction i with
 | zero => exact fun s hs => absurd hs (Nat.not_lt_zero _)
 | succ i ih =>
  unfold best at h
  split at h
  ·cases h
  ·rename_i hc
   intro s hs hp
   rcases Nat.lt_succ_iff_lt_or_eq.1 hs with h' | rfl
   ·exact ih h s h' hp
   ·exact hc ⟨hp, fun b hb => by rw [h] at hb; cases hb⟩
theorem best_min {P : Nat → Prop} {i b : Nat} (h : best P i = some b) : ∀ s, s < i → P s → (nums b).length ≤ (nums s).length := by
 induction i generalizing b with
 | zero => cases h
 | succ i ih =>
  unfold best at h
  split at h
  ·rename_i hc
   cases h
   intro s hs hp
   rcases Nat.lt_succ_iff_lt_or_eq.1 hs with h' | rfl
   ·cases hb : best P i with
    | none => exact absurd hp (best_none hb s h')
    | some b =>
     have h1 := hc.2 b hb
     have h2 := ih hb s h' hp
     unfold lessS at h1; omega
   ·omega
  ·rename_i hc
   intro s hs hp
   rcases Nat.lt_succ_iff_lt_or_eq.1 hs with h' | rfl
   ·exact ih h s h' hp
   ·have h1 : ¬ lessS s b := fun h2 => hc ⟨hp, fun b' hb' => by rw [h] at hb'; cases hb'; exact h2⟩
    unfold lessS at h1; omega
def bp : Option Nat → List Int × Bool
 | none => ([], false)
 | some b => (nums b, true)
theorem lt_pow62 {n s : Nat} (hn : n ≤ 7) (hs : s < 2 ^ n) : s < 2 ^ 62 := lt128_62 (lt128 hn hs)
theorem s55 {n : Nat} (hn : n ≤ 7) {φ : Int → Option Bool} {P : Nat → Prop} (hφ : ∀ s : Nat, s < 2 ^ n → φ (s : Int) = some (decide (P s))) : f55 (n : Int) φ = some (bp (best P (2 ^ n))) := by
 have hp := pow7 hn
 refine Yes.eq ?_
 unfold f55
 refine Yes.bind ?_
 rw [shl_bit (by omega), Option.bind_some]
 refine Yes.rng (fun (s : List Int × Bool) i => (s.1, s.2, (i : Int))) 0 (2 ^ n) (fun i s => s = bp (best P i)) _ rfl (Nat.zero_le _) (by omega) rfl (fun i s k _ hi hI hk => ?_) (fun s k hI => ?_)
 ·obtain ⟨u, v⟩ := s
  have h1 : decide ((i : Int) < ((2 ^ n : Nat) : Int)) = true := decide_eq_true (Int.ofNat_lt.2 hi)
  have hi62 := lt_pow62 hn hi
  have hlen := nums_len i
  dsimp only
  rw [h1, cond_true, s59 hi62]
  simp only [Option.bind_some, jn, w64_succ (show i < 4611686018427387904 by omega), hφ i hi]
  refine Yes.bind ?_
  cases hb : best P i with
  | none =>
   rw [hb] at hI
   cases hI
   simp only [cond_false, Option.bind_some]
   have hbs : best P (i + 1) = if P i then some i else none := by
    unfold best; rw [hb]; simp
   by_cases hp : P i
   ·rw [decide_eq_true hp]
    refine Yes.some (hk _ ?_)
    rw [hbs, if_pos hp]; rfl
   ·rw [decide_eq_false hp]
    refine Yes.some (hk _ ?_)
    rw [hbs, if_neg hp]; rfl
  | some b =>
   have hbl := best_lt hb
   have hb62 : b < 2 ^ 62 := by omega
   have hlb := nums_len b
   have hne : nums i ≠ nums b := fun e => by have := nums_inj hi62 hb62 e; omega
   rw [hb] at hI
   cases hI
   simp only [cond_true]
   have hbs : best P (i + 1) = if P i ∧ lessS i b then some i else some b := by
    rw [best, hb]
    have : (∀ b', some b = some b' → lessS i b') ↔ lessS i b := ⟨fun h => h b rfl, fun h b' e => by cases e; exact h⟩
    simp only [this]
   have hgo : Yes (some (bif decide (P i ∧ lessS i b) then (nums i, true) else (nums b, true))) fun r => Yes (k (r.1, r.2, ((i + 1 : Nat) : Int))) fun r => Yes (some (r.1, r.2)) fun r => r = bp (best P (2 ^ n)) := by
    by_cases hc : P i ∧ lessS i b
    ·rw [decide_eq_true hc]
     refine Yes.some (hk _ ?_)
     rw [hbs, if_pos hc]; rfl
    ·rw [decide_eq_false hc]
     refine Yes.some (hk _ ?_)
     rw [hbs, if_neg hc]; rfl
   have hrest : (P i ∧ lessS i b ↔ P i ∧ lessS i b) := Iff.rfl
   by_cases h2 : (nums i).length > (nums b).length
   ·have h3 : decide (((nums i).length : Int) > ((nums b).length : Int)) = true := decide_eq_true (by omega)
    rw [h3]
    have : ¬ (P i ∧ lessS i b) := fun h => by have := h.2; unfold lessS at this; omega
    rw [decide_eq_false this] at hgo
    exact hgo
   ·have h3 : decide (((nums i).length : Int) > ((nums b).length : Int)) = false := decide_eq_false (by omega)
    rw [h3]
    by_cases h4 : (nums i).length = (nums b).length
    ·have h5 : (((nums i).length : Int) == ((nums b).length : Int)) = true := by rw [h4]; simp
     rw [h5]
     obtain ⟨c, hc, hci⟩ := s85 (x := nums i) (y := nums b) (by omega) h4
     simp only [cond_false, cond_true, hc, Option.bind_some]
     have hls : lessS i b ↔ ¬ c > 0 := by
      rw [hci]
      unfold lessS
      constructor
      ·rintro (h | h)
       ·omega
       ·exact lexL_asym h.2
      ·intro h
       exact .inr ⟨h4, (lexL_or h4 hne).resolve_right h⟩
     by_cases h6 : c > 0
     ·have : ¬ (P i ∧ lessS i b) := fun h => hls.1 h.2 h6
      rw [decide_eq_false this] at hgo
      rw [decide_eq_true h6]
      exact hgo
     ·rw [decide_eq_false h6]
      by_cases hp : P i
      ·rw [decide_eq_true (⟨hp, hls.2 h6⟩ : P i ∧ lessS i b)] at hgo
       rw [decide_eq_true hp]
       exact hgo
      ·rw [decide_eq_false (fun h => hp h.1 : ¬ (P i ∧ lessS i b))] at hgo
       rw [decide_eq_false hp]
       exact hgo
    ·have h5 : (((nums i).length : Int) == ((nums b).length : Int)) = false := by rw [beq_eq_false_iff_ne]; omega
     rw [h5]
     have hls : lessS i b := .inl (by omega)
     by_cases hp : P i
     ·rw [decide_eq_true (⟨hp, hls⟩ : P i ∧ lessS i b)] at hgo
      rw [decide_eq_true hp]
      exact hgo
     ·rw [decide_eq_false (fun h => hp h.1 : ¬ (P i ∧ lessS i b))] at hgo
      rw [decide_eq_false hp]
      exact hgo
 ·subst hI
  have h1 : decide (((2 ^ n : Nat) : Int) < ((2 ^ n : Nat) : Int)) = false := by simp
  dsimp only
  rw [h1, cond_false]
  exact Yes.some (Yes.some rfl)
end Go.Proofs.Ytnfjhdagbknlbaa
