/- What a plain function returns: total correctness, step by step. No program is named here. -/
import Derived.Test.YtmebkoemfjlbcaaGreatDoorMm
namespace Go.Proofs.YtmebkoemfjlbcaaGreatDoor
open Go.RowKit

def Yes {α : Type} (x : Option α) (Q : α → Prop) : Prop := ∃ r, x = some r ∧ Q r
namespace Yes
variable {α β σ ρ : Type} {Q : α → Prop}
theorem some {a : α} (h : Q a) : Yes (Option.some a) Q := ⟨a, rfl, h⟩
theorem bind {x : Option β} {f : β → Option α} (h : Yes x fun b => Yes (f b) Q) : Yes (x.bind f) Q := by
 obtain ⟨b, rfl, a, ha, hq⟩ := h; exact ⟨a, ha, hq⟩
theorem cond {c : Bool} {x y : Option α} (h1 : c = true → Yes x Q) (h2 : c = false → Yes y Q) : Yes (bif c then x else y) Q := by
 cases c
 ·exact h2 rfl
 ·exact h1 rfl
theorem jn {k : σ → Option α} {f : (σ → Option α) → Option α} (h : Yes (f k) Q) : Yes (Go.Proofs.YtmebkoemfjlbcaaGreatDoor.jn k f) Q := h
theorem mono {x : Option α} {Q' : α → Prop} (h : Yes x Q') (k : ∀ a, Q' a → Q a) : Yes x Q := let ⟨a, ha, hq⟩ := h; ⟨a, ha, k a hq⟩
theorem Ot {body : (σ → Option α) → σ → Option α} (I : σ → Prop) (μ : σ → Nat)
  (h : ∀ s (k : σ → Option α), I s → (∀ s', I s' → μ s' < μ s → Yes (k s') Q) → Yes (body k s) Q) : ∀ (n : Nat) (s : σ), I s → μ s < n → Yes (Go.Proofs.YtmebkoemfjlbcaaGreatDoor.lp body n s) Q
 | 0, _, _, hm => absurd hm (Nat.not_lt_zero _)
 | n + 1, s, hi, hm => by
  rw [Sr]
  exact h s _ hi fun s' hi' hm' => Ot I μ h n s' hi' (by omega)
theorem lp {body : (σ → Option α) → σ → Option α} {s : σ} (I : σ → Prop) (μ : σ → Nat) (h0 : I s) (hm : μ s < 18446744073709551616)
  (h : ∀ s (k : σ → Option α), I s → (∀ s', I s' → μ s' < μ s → Yes (k s') Q) → Yes (body k s) Q) : Yes (Go.Proofs.YtmebkoemfjlbcaaGreatDoor.lp body big s) Q := Ot I μ h _ s h0 (Nu _ hm)
theorem idx {xs : List α} {i : Int} {n : Nat} (hi : i = n) (hl : n < xs.length) (h : Q xs[n]) : Yes (Go.Proofs.YtmebkoemfjlbcaaGreatDoor.idx xs i) Q := by
 subst hi
 refine ⟨xs[n], ?_, h⟩
 unfold Go.Proofs.YtmebkoemfjlbcaaGreatDoor.idx
 rw [if_pos (Int.natCast_nonneg n)]
 exact List.getElem?_eq_getElem hl
theorem apnd {b : Nat} {xs ys : List α} {Q : List α → Prop} (hb : (xs.length + ys.length) * b ≤ 140737488355328) (hl : xs.length + ys.length ≤ 9223372036854775807) (h : Q (xs ++ ys)) : Yes (Go.Proofs.YtmebkoemfjlbcaaGreatDoor.apnd b xs ys) Q := by
 refine ⟨_, ?_, h⟩
 unfold Go.Proofs.YtmebkoemfjlbcaaGreatDoor.apnd
 rw [if_pos ⟨hb, hl⟩]
theorem eq {x : Option α} {a : α} (h : Yes x fun r => r = a) : x = Option.some a := by obtain ⟨r, hr, rfl⟩ := h; exact hr
theorem of {x : Option α} {a : α} (h : x = Option.some a) (hq : Q a) : Yes x Q := ⟨a, h, hq⟩
end Yes
theorem T9 {n : Int} (h1 : -9223372036854775808 ≤ n) (h2 : n ≤ 9223372036854775807) : w64 n = n := by
 unfold w64; rw [IntKind.wrap_i64]; omega
theorem Yes.upto {σ α : Type} {Q : α → Prop} {body : (σ × Int → Option α) → σ × Int → Option α} {s0 : σ} (n : Nat) (hn : n < 9223372036854775807) (I : Nat → σ → Prop) (h0 : I 0 s0)
  (hb : ∀ (i : Nat) (s : σ) (k : σ × Int → Option α), i < n → I i s → (∀ s', I (i + 1) s' → Yes (k (s', w64 ((i : Int) + 1))) Q) → Yes (body k (s, (i : Int))) Q)
  (he : ∀ (s : σ) (k : σ × Int → Option α), I n s → Yes (body k (s, (n : Int))) Q) : Yes (Go.Proofs.YtmebkoemfjlbcaaGreatDoor.lp body big (s0, 0)) Q := by
 refine Yes.lp (fun s => ∃ i : Nat, s.2 = i ∧ i ≤ n ∧ I i s.1) (fun s => n - s.2.toNat) ⟨0, rfl, Nat.zero_le _, h0⟩ (by simp; omega) ?_
 rintro ⟨s, j⟩ k ⟨i, hi, hle, hI⟩ hk
 simp only at hi hI
 subst hi
 by_cases hlt : i < n
 ·refine hb i s k hlt hI fun s' hs' => ?_
  rw [T9 (by omega) (by omega)]
  refine hk _ ⟨i + 1, by simp, hlt, hs'⟩ ?_
  simp only [Int.toNat_natCast]
  omega
 ·obtain rfl : i = n := by omega
  exact he s k hI
theorem Yes.upto0 {α : Type} {Q : α → Prop} {body : (Int → Option α) → Int → Option α} (n : Nat) (hn : n < 9223372036854775807) (I : Nat → Prop) (h0 : I 0)
  (hb : ∀ (i : Nat) (k : Int → Option α), i < n → I i → (I (i + 1) → Yes (k (w64 ((i : Int) + 1))) Q) → Yes (body k (i : Int)) Q)
  (he : ∀ (k : Int → Option α), I n → Yes (body k (n : Int)) Q) : Yes (Go.Proofs.YtmebkoemfjlbcaaGreatDoor.lp body big 0) Q := by
 refine Yes.lp (fun s => ∃ i : Nat, s = i ∧ i ≤ n ∧ I i) (fun s => n - s.toNat) ⟨0, rfl, Nat.zero_le _, h0⟩ (by simp; omega) ?_
 rintro s k ⟨i, rfl, hle, hI⟩ hk
 by_cases hlt : i < n
 ·refine hb i k hlt hI fun hs' => ?_
  rw [T9 (by omega) (by omega)]
  refine hk _ ⟨i + 1, by simp, hlt, hs'⟩ ?_
  simp only [Int.toNat_natCast]
  omega
 ·obtain rfl : i = n := by omega
  exact he k hI
theorem Ax {α : Type} (xs : List α) (φ : α → Option Bool) (p : α → Bool) (hl : xs.length < 9223372036854775807) (h : ∀ a ∈ xs, φ a = some (p a)) :
  Yes (Go.Proofs.YtmebkoemfjlbcaaGreatDoor.jn (σ := Unit) (fun _ => some (-1 : Int)) fun k18 => Go.Proofs.YtmebkoemfjlbcaaGreatDoor.lp (σ := Int) (fun k19 s8 => bif decide (s8 < (xs.length : Int)) then
   Go.Proofs.YtmebkoemfjlbcaaGreatDoor.jn (σ := Unit) (fun _ => k19 (w64 (s8 + (1 : Int)))) fun k28 => (Go.Proofs.YtmebkoemfjlbcaaGreatDoor.idx xs s8).bind fun y => (φ y).bind fun b => bif b then some s8 else k28 ()
   else k18 ()) big (0 : Int)) (fun r => (∃ i : Nat, r = i ∧ ∃ h : i < xs.length, p xs[i] = true ∧ ∀ j (hj : j < i), p (xs[j]'(by omega)) = false) ∨ (r = -1 ∧ ∀ a ∈ xs, p a = false)) := by
 refine Yes.jn (Yes.upto0 xs.length hl (fun i => ∀ j (hj : j < xs.length), j < i → p xs[j] = false) (fun _ _ h => absurd h (Nat.not_lt_zero _)) (fun i k hi hI hk => ?_) (fun k hI => ?_))
 ·refine Yes.cond (fun _ => Yes.jn (Yes.bind (Yes.idx rfl hi (Yes.bind (Yes.of (h _ (List.getElem_mem hi)) (Yes.cond (fun hp => Yes.some ?_) (fun hp => hk ?_))))))) (fun h => absurd h (by simp; omega))
  ·exact .inl ⟨i, rfl, hi, hp, fun j hj => hI j (by omega) hj⟩
  ·intro j hj hji
   rcases Nat.lt_succ_iff_lt_or_eq.1 hji with h | rfl
   ·exact hI j hj h
   ·exact hp
 ·refine Yes.cond (fun h => absurd h (by simp)) (fun _ => Yes.some (.inr ⟨rfl, fun a ha => ?_⟩))
  obtain ⟨j, hj, rfl⟩ := List.getElem_of_mem ha
  exact hI j hj hj
theorem Pf {α : Type} {xs : List α} {p : α → Bool} {r : Int} (h : (∃ i : Nat, r = i ∧ ∃ h : i < xs.length, p xs[i] = true ∧ ∀ j (hj : j < i), p (xs[j]'(by omega)) = false) ∨ (r = -1 ∧ ∀ a ∈ xs, p a = false)) : decide (r ≥ (0 : Int)) = xs.any p := by
 rcases h with ⟨i, rfl, hi, hp, _⟩ | ⟨rfl, h⟩
 ·have : xs.any p = true := List.any_eq_true.2 ⟨_, List.getElem_mem hi, hp⟩
  rw [this]; simp
 ·have : xs.any p = false := List.any_eq_false.2 fun a ha => by simp [h a ha]
  rw [this]; rfl
end Go.Proofs.YtmebkoemfjlbcaaGreatDoor
