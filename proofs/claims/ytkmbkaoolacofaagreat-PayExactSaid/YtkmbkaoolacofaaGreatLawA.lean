/- All functions of this text. -/
import Derived.Test.YtkmbkaoolacofaaGreatCode3
import Derived.Test.YtkmbkaoolacofaaGreatAp
/- What a plain function returns: total correctness, step by step. No program is named here. -/
namespace Go.Proofs.YtkmbkaoolacofaaGreat
open Go.RowKit

def Yes {α : Type} (x : Option α) (Q : α → Prop) : Prop := ∃ r, x = some r ∧ Q r
namespace Yes
variable {α β σ ρ : Type} {Q : α → Prop}
theorem some {a : α} (h : Q a) : Yes (Option.some a) Q := ⟨a, rfl, h⟩
theorem bind {x : Option β} {f : β → Option α} (h : Yes x fun b => Yes (f b) Q) : Yes (x.bind f) Q := by
 obtain ⟨b, rfl, a, ha, hq⟩ := h; exact ⟨a, ha, hq⟩
theorem cond {c : Bool} {x y : Option α} (h1 : c = true → Yes x Q) (h2 : c = false → Yes y Q) : Yes (bif c then x else y) Q := by
 cases c
 ·exact h2 rfl
 ·exact h1 rfl
theorem jn {k : σ → Option α} {f : (σ → Option α) → Option α} (h : Yes (f k) Q) : Yes (Go.Proofs.YtkmbkaoolacofaaGreat.jn k f) Q := h
theorem mono {x : Option α} {Q' : α → Prop} (h : Yes x Q') (k : ∀ a, Q' a → Q a) : Yes x Q := let ⟨a, ha, hq⟩ := h; ⟨a, ha, k a hq⟩
theorem lp_lt {body : (σ → Option α) → σ → Option α} (I : σ → Prop) (μ : σ → Nat)
  (h : ∀ s (k : σ → Option α), I s → (∀ s', I s' → μ s' < μ s → Yes (k s') Q) → Yes (body k s) Q) : ∀ (n : Nat) (s : σ), I s → μ s < n → Yes (Go.Proofs.YtkmbkaoolacofaaGreat.lp body n s) Q
 | 0, _, _, hm => absurd hm (Nat.not_lt_zero _)
 | n + 1, s, hi, hm => by
  rw [lp_succ]
  exact h s _ hi fun s' hi' hm' => lp_lt I μ h n s' hi' (by omega)
theorem lp {body : (σ → Option α) → σ → Option α} {s : σ} (I : σ → Prop) (μ : σ → Nat) (h0 : I s) (hm : μ s < 18446744073709551616)
  (h : ∀ s (k : σ → Option α), I s → (∀ s', I s' → μ s' < μ s → Yes (k s') Q) → Yes (body k s) Q) : Yes (Go.Proofs.YtkmbkaoolacofaaGreat.lp body big s) Q := lp_lt I μ h _ s h0 (big_pos _ hm)
theorem idx {xs : List α} {i : Int} {n : Nat} (hi : i = n) (hl : n < xs.length) (h : Q xs[n]) : Yes (Go.Proofs.YtkmbkaoolacofaaGreat.idx xs i) Q := by
 subst hi
 refine ⟨xs[n], ?_, h⟩
 unfold Go.Proofs.YtkmbkaoolacofaaGreat.idx
 rw [if_pos (Int.natCast_nonneg n)]
 exact List.getElem?_eq_getElem hl
theorem apnd {b : Nat} {xs ys : List α} {Q : List α → Prop} (hb : (xs.length + ys.length) * b ≤ 140737488355328) (hl : xs.length + ys.length ≤ 9223372036854775807) (h : Q (xs ++ ys)) : Yes (Go.Proofs.YtkmbkaoolacofaaGreat.apnd b xs ys) Q := by
 refine ⟨_, ?_, h⟩
 unfold Go.Proofs.YtkmbkaoolacofaaGreat.apnd
 rw [if_pos ⟨hb, hl⟩]
theorem eq {x : Option α} {a : α} (h : Yes x fun r => r = a) : x = Option.some a := by obtain ⟨r, hr, rfl⟩ := h; exact hr
theorem of {x : Option α} {a : α} (h : x = Option.some a) (hq : Q a) : Yes x Q := ⟨a, h, hq⟩
end Yes
theorem w64_id {n : Int} (h1 : -9223372036854775808 ≤ n) (h2 : n ≤ 9223372036854775807) : w64 n = n := by
 unfold w64; rw [IntKind.wrap_i64]; omega
theorem Yes.upto {σ α : Type} {Q : α → Prop} {body : (σ × Int → Option α) → σ × Int → Option α} {s0 : σ} (n : Nat) (hn : n < 9223372036854775807) (I : Nat → σ → Prop) (h0 : I 0 s0)
  (hb : ∀ (i : Nat) (s : σ) (k : σ × Int → Option α), i < n → I i s → (∀ s', I (i + 1) s' → Yes (k (s', w64 ((i : Int) + 1))) Q) → Yes (body k (s, (i : Int))) Q)
  (he : ∀ (s : σ) (k : σ × Int → Option α), I n s → Yes (body k (s, (n : Int))) Q) : Yes (Go.Proofs.YtkmbkaoolacofaaGreat.lp body big (s0, 0)) Q := by
 refine Yes.lp (fun s => ∃ i : Nat, s.2 = i ∧ i ≤ n ∧ I i s.1) (fun s => n - s.2.toNat) ⟨0, rfl, Nat.zero_le _, h0⟩ (by simp; omega) ?_
 rintro ⟨s, j⟩ k ⟨i, hi, hle, hI⟩ hk
 simp only at hi hI
 subst hi
 by_cases hlt : i < n
 ·refine hb i s k hlt hI fun s' hs' => ?_
  rw [w64_id (by omega) (by omega)]
  refine hk _ ⟨i + 1, by simp, hlt, hs'⟩ ?_
  simp only [Int.toNat_natCast]
  omega
 ·obtain rfl : i = n := by omega
  exact he s k hI
theorem Yes.upto2 {σ τ α : Type} {Q : α → Prop} {body : (σ × τ × Int → Option α) → σ × τ × Int → Option α} {s0 : σ} {t0 : τ} (n : Nat) (hn : n < 9223372036854775807) (I : Nat → σ → τ → Prop) (h0 : I 0 s0 t0)
  (hb : ∀ (i : Nat) (s : σ) (t : τ) (k : σ × τ × Int → Option α), i < n → I i s t → (∀ s' t', I (i + 1) s' t' → Yes (k (s', t', w64 ((i : Int) + 1))) Q) → Yes (body k (s, t, (i : Int))) Q)
  (he : ∀ (s : σ) (t : τ) (k : σ × τ × Int → Option α), I n s t → Yes (body k (s, t, (n : Int))) Q) : Yes (Go.Proofs.YtkmbkaoolacofaaGreat.lp body big (s0, t0, 0)) Q := by
 refine Yes.lp (fun s => ∃ i : Nat, s.2.2 = i ∧ i ≤ n ∧ I i s.1 s.2.1) (fun s => n - s.2.2.toNat) ⟨0, rfl, Nat.zero_le _, h0⟩ (by simp; omega) ?_
 rintro ⟨s, t, j⟩ k ⟨i, hi, hle, hI⟩ hk
 simp only at hi hI
 subst hi
 by_cases hlt : i < n
 ·refine hb i s t k hlt hI fun s' t' hs' => ?_
  rw [w64_id (by omega) (by omega)]
  refine hk _ ⟨i + 1, by simp, hlt, hs'⟩ ?_
  simp only [Int.toNat_natCast]
  omega
 ·obtain rfl : i = n := by omega
  exact he s t k hI
theorem Yes.upto0 {α : Type} {Q : α → Prop} {body : (Int → Option α) → Int → Option α} (n : Nat) (hn : n < 9223372036854775807) (I : Nat → Prop) (h0 : I 0)
  (hb : ∀ (i : Nat) (k : Int → Option α), i < n → I i → (I (i + 1) → Yes (k (w64 ((i : Int) + 1))) Q) → Yes (body k (i : Int)) Q)
  (he : ∀ (k : Int → Option α), I n → Yes (body k (n : Int)) Q) : Yes (Go.Proofs.YtkmbkaoolacofaaGreat.lp body big 0) Q := by
 refine Yes.lp (fun s => ∃ i : Nat, s = i ∧ i ≤ n ∧ I i) (fun s => n - s.toNat) ⟨0, rfl, Nat.zero_le _, h0⟩ (by simp; omega) ?_
 rintro s k ⟨i, rfl, hle, hI⟩ hk
 by_cases hlt : i < n
 ·refine hb i k hlt hI fun hs' => ?_
  rw [w64_id (by omega) (by omega)]
  refine hk _ ⟨i + 1, by simp, hlt, hs'⟩ ?_
  simp only [Int.toNat_natCast]
  omega
 ·obtain rfl : i = n := by omega
  exact he k hI
theorem index_is {α : Type} (xs : List α) (φ : α → Option Bool) (p : α → Bool) (hl : xs.length < 9223372036854775807) (h : ∀ a ∈ xs, φ a = some (p a)) :
  Yes (Go.Proofs.YtkmbkaoolacofaaGreat.jn (σ := Unit) (fun _ => some (-1 : Int)) fun k18 => Go.Proofs.YtkmbkaoolacofaaGreat.lp (σ := Int) (fun k19 s8 => bif decide (s8 < (xs.length : Int)) then
   Go.Proofs.YtkmbkaoolacofaaGreat.jn (σ := Unit) (fun _ => k19 (w64 (s8 + (1 : Int)))) fun k28 => (Go.Proofs.YtkmbkaoolacofaaGreat.idx xs s8).bind fun y => (φ y).bind fun b => bif b then some s8 else k28 ()
   else k18 ()) big (0 : Int)) (fun r => (∃ i : Nat, r = i ∧ ∃ h : i < xs.length, p xs[i] = true ∧ ∀ j (hj : j < i), p (xs[j]'(by omega)) = false) ∨ (r = -1 ∧ ∀ a ∈ xs, p a = false)) := by
 refine Yes.jn (Yes.upto0 xs.length hl (fun i => ∀ j (hj : j < xs.length), j < i → p xs[j] = false) (fun _ _ h => absurd h (Nat.not_lt_zero _)) (fun i k hi hI hk => ?_) (fun k hI => ?_))
 ·refine Yes.cond (fun _ => Yes.jn (Yes.bind (Yes.idx rfl hi (Yes.bind (Yes.of (h _ (List.getElem_mem hi)) (Yes.cond (fun hp => Yes.some ?_) (fun hp => hk ?_))))))) (fun h => absurd h (by simp; omega))
  ·exact .inl ⟨i, rfl, hi, hp, fun j hj => hI j (by omega) hj⟩
  ·intro j hj hji
   rcases Nat.lt_succ_iff_lt_or_eq.1 hji with h | rfl
   ·exact hI j hj h
   ·exact hp
 ·refine Yes.cond (fun h => absurd h (by simp)) (fun _ => Yes.some (.inr ⟨rfl, fun a ha => ?_⟩))
  obtain ⟨j, hj, rfl⟩ := List.getElem_of_mem ha
  exact hI j hj hj
theorem index_any {α : Type} {xs : List α} {p : α → Bool} {r : Int} (h : (∃ i : Nat, r = i ∧ ∃ h : i < xs.length, p xs[i] = true ∧ ∀ j (hj : j < i), p (xs[j]'(by omega)) = false) ∨ (r = -1 ∧ ∀ a ∈ xs, p a = false)) : decide (r ≥ (0 : Int)) = xs.any p := by
 rcases h with ⟨i, rfl, hi, hp, _⟩ | ⟨rfl, h⟩
 ·have : xs.any p = true := List.any_eq_true.2 ⟨_, List.getElem_mem hi, hp⟩
  rw [this]; simp
 ·have : xs.any p = false := List.any_eq_false.2 fun a ha => by simp [h a ha]
  rw [this]; rfl
end Go.Proofs.YtkmbkaoolacofaaGreat
/- Plain laws: the error of a price list and of a piece; what a piece earns. -/
set_option maxRecDepth 8000
namespace Go.Proofs.YtkmbkaoolacofaaGreat
open Go.RowKit
open Classical

theorem qskip {α : Type} {Q : α → Prop} {c : Bool} {X Y : Option α} (hc : c = false) (h : Yes Y Q) : Yes (bif c then X else Y) Q := by rw [hc]; exact h
theorem qtake {α : Type} {Q : α → Prop} {c : Bool} {X Y : Option α} (hc : c = true) (h : Yes X Q) : Yes (bif c then X else Y) Q := by rw [hc]; exact h
theorem qbind {α β : Type} {Q : β → Prop} {x : Option α} {f : α → Option β} (a : α) (h : x = some a) (k : Yes (f a) Q) : Yes (x.bind f) Q := by rw [h]; exact k
theorem qidx {α : Type} {xs : List α} {i : Nat} (h : i < xs.length) : idx xs (i : Int) = some xs[i] := by unfold idx; rw [if_pos (Int.natCast_nonneg i)]; exact List.getElem?_eq_getElem h
theorem qw64 {n : Int} (h1 : -1000000000 ≤ n) (h2 : n ≤ 1000000000) : w64 n = n := w64_id (by omega) (by omega)
theorem wu64_id {n : Int} (h1 : 0 ≤ n) (h2 : n ≤ 9223372036854775807) : wu64 n = n := by
 unfold wu64; rw [show IntKind.u64.wrap n = n % 18446744073709551616 from rfl]; omega
theorem quo_nn {a b : Int} (ha : 0 ≤ a) (ha2 : a ≤ 9223372036854775807) (hb : 0 < b) : quo64 a b = some (a / b) := by
 unfold quo64
 rw [if_neg (by omega), Int.tdiv_eq_ediv_of_nonneg ha, w64_id]
 ·have := Int.ediv_nonneg ha (Int.le_of_lt hb); omega
 ·exact Int.le_trans (Int.ediv_le_self b ha) ha2
theorem min64_eq (a b : Int) : min64 a b = min a b := by unfold min64; omega
/-! ### Comparisons and copies -/
theorem s13 (l : PayList) (h1 : l.Rates.length ≤ 1000000) (h2 : l.Extras.length ≤ 1000000) : f13 l = some l := by
 refine Yes.eq ?_
 unfold f13
 exact Yes.bind (Yes.apnd (by simp; omega) (by simp; omega) (Yes.bind (Yes.apnd (by simp; omega) (by simp; omega) (Yes.some (by simp)))))
theorem s14 (l : List PayPiece) (h1 : l.length ≤ 1000000) (h2 : ∀ p ∈ l, p.Extras.length ≤ 1000000) : f14 l = some l := by
 refine Yes.eq ?_
 unfold f14
 refine Yes.bind (Yes.mono (Q' := fun r => r = l) ?_ fun r hr => by rw [hr]; exact Yes.some rfl)
 refine Yes.upto l.length (by omega) (fun i s => s = l.take i) rfl (fun i s k hi hI hk => ?_) (fun s k hI => ?_)
 ·subst hI
  have hx := h2 _ (List.getElem_mem hi)
  refine Yes.jn (qtake (by simp; omega) (Yes.bind (Yes.bind (Yes.idx rfl hi (Yes.bind (Yes.apnd (by simp; omega) (by simp; omega) (Yes.bind (Yes.apnd (by simp; omega) (by simp; omega) (Yes.some (hk _ ?_))))))))))
  rw [List.take_succ_eq_append_getElem hi]
  simp only [List.nil_append]
 ·subst hI
  exact Yes.jn (qskip (by simp) (Yes.some (by simp)))
/-! ### Between two others -/
def btw (a b x : Int) : Bool := decide (a ≤ x ∧ x ≤ b)
theorem s78 (x a b : Int) : f78 x a b = some (!btw a b x) := by unfold f78 btw; by_cases h1 : x < a <;> by_cases h2 : x > b <;> simp [h1, h2] <;> omega
theorem s68 (xs : List Int) (φ : Int → Option Bool) (p : Int → Bool) (hl : xs.length < 9223372036854775807) (h : ∀ a ∈ xs, φ a = some (p a)) : f68 xs φ = some (xs.any p) :=
 Yes.eq (Yes.bind (Yes.mono (index_is xs φ p hl h) fun _ hr => Yes.some (index_any hr)))
theorem s54 (a b : Int) (xs : List Int) (hl : xs.length < 9223372036854775807) : f54 a b xs = some (xs.all (btw a b)) := by
 unfold f54
 rw [s68 xs _ (fun x => !btw a b x) hl fun x _ => s78 x a b]
 simp [List.all_eq_not_any_not]
theorem s54_one (a b x : Int) : f54 a b [x] = some (btw a b x) := by rw [s54 _ _ _ (by simp)]; simp
theorem s53 (xs : List Int) (hl : xs.length < 9223372036854775807) : f53 xs = some (xs.all (btw 0 1000)) := by
 unfold f53; rw [s54 _ _ _ hl]; rfl

/-! ### The error of a list -/
def okAt (rs : List PayRate) (i : Nat) (h : i < rs.length) : Prop := btw 0 1000 rs[i].From = true ∧ btw 0 10000 rs[i].Rate = true ∧ (i = 0 → rs[i].From = 0) ∧ ∀ _ : 0 < i, (rs[i - 1]'(by omega)).From < rs[i].From
def okRates (rs : List PayRate) : Prop := ∀ i (h : i < rs.length), okAt rs i h
def okList (l : PayList) : Prop := okRates l.Rates ∧ (∀ x ∈ l.Extras, btw 0 1000 x = true) ∧ 0 < l.Rates.length ∧ btw 0 1000 l.Fine = true ∧ btw 0 1000 l.Cap = true
def long6 (l : PayList) : Prop := l.Rates.length > 6 ∨ l.Extras.length > 8
noncomputable def chkL (l : PayList) : Int := if long6 l then 5 else if okList l then 0 else 2
theorem btw_iff {a b x : Int} : btw a b x = true ↔ a ≤ x ∧ x ≤ b := by simp [btw]
theorem s52 (l : PayList) (hl : l.Rates.length ≤ 1000) : f52 ⟨l⟩ = some (decide (okRates l.Rates ∧ 0 < l.Rates.length)) := by
 refine Yes.eq ?_
 unfold f52
 refine Yes.jn ?_
 show Yes (lp _ big ((0 : Int), (0 : Int), (0 : Int))) _
 refine Yes.upto2 l.Rates.length (by omega) (fun i s t => (∀ j (h : j < l.Rates.length), j < i → okAt l.Rates j h) ∧ (i = 0 → s = 0 ∧ t = 0) ∧ ∀ (h : 0 < i) (h2 : i ≤ l.Rates.length), s = (l.Rates[i - 1]'(by omega)).From + 1 ∧ t = 1000)
  ⟨fun _ _ h => absurd h (Nat.not_lt_zero _), fun _ => ⟨rfl, rfl⟩, fun h => absurd h (Nat.lt_irrefl _)⟩ (fun i s t k hi hI hk => ?_) (fun s t k hI => ?_)
 ·obtain ⟨hok, hz, hp⟩ := hI
  refine qtake (by simp; omega) (Yes.jn (Yes.bind (Yes.idx rfl hi (Yes.jn (Yes.bind ?_)))))
  have fin : okAt l.Rates i hi → Yes (k (w64 (l.Rates[i].From + 1), (1000 : Int), w64 ((i : Int) + 1))) (fun r => r = decide (okRates l.Rates ∧ 0 < l.Rates.length)) := fun ho => by
   have hb := btw_iff.1 ho.1
   rw [qw64 (n := l.Rates[i].From + 1) (by omega) (by omega)]
   refine hk _ _ ⟨fun j hj hji => ?_, fun h => absurd h (by omega), fun _ _ => ⟨by simp, rfl⟩⟩
   rcases Nat.lt_succ_iff_lt_or_eq.1 hji with h | rfl
   ·exact hok j hj h
   ·exact ho
  have bad : ¬ okAt l.Rates i hi → (false : Bool) = decide (okRates l.Rates ∧ 0 < l.Rates.length) := fun hn => by
   rw [eq_comm, decide_eq_false_iff_not]; exact fun h => hn (h.1 i hi)
  rw [s54_one]
  have hs : btw s t l.Rates[i].From = true ↔ btw 0 1000 l.Rates[i].From = true ∧ (i = 0 → l.Rates[i].From = 0) ∧ ∀ _ : 0 < i, (l.Rates[i - 1]'(by omega)).From < l.Rates[i].From := by
   rw [btw_iff, btw_iff]
   rcases Nat.eq_zero_or_pos i with h0 | h0
   ·obtain ⟨rfl, rfl⟩ := hz h0
    constructor
    ·intro h; exact ⟨by omega, fun _ => by omega, fun h2 => absurd h2 (by omega)⟩
    ·intro h; have := h.2.1 h0; omega
   ·obtain ⟨rfl, rfl⟩ := hp h0 (by omega)
    have hb := btw_iff.1 (hok (i - 1) (by omega) (by omega)).1
    constructor
    ·intro h; exact ⟨by omega, fun h2 => absurd h2 (by omega), fun _ => by omega⟩
    ·intro h; have := h.2.2 h0; omega
  refine Yes.bind (Yes.some (Yes.cond (fun h => Yes.some (qtake rfl (Yes.some ?_))) fun h => ?_))
  ·refine bad fun ho => ?_
   have : btw s t l.Rates[i].From = true := hs.2 ⟨ho.1, ho.2.2⟩
   rw [this] at h; cases h
  ·have h1 : btw s t l.Rates[i].From = true := by simpa using h
   obtain ⟨h2, h3⟩ := hs.1 h1
   rw [s54_one]
   refine Yes.bind (Yes.some (Yes.some (Yes.cond (fun h4 => Yes.some ?_) fun h4 => fin ⟨h2, by simpa using h4, h3⟩)))
   refine bad fun ho => ?_
   rw [ho.2.1] at h4; cases h4
 ·refine qskip (by simp) (Yes.some ?_)
  rw [decide_eq_decide]
  exact ⟨fun h => ⟨fun i hi => hI.1 i hi hi, by simpa using h⟩, fun h => by have := h.2; simp; omega⟩
theorem s15 (l : PayList) (h1 : l.Rates.length ≤ 1000) (h2 : l.Extras.length ≤ 1000) : f15 l = some (chkL l) := by
 refine Yes.eq ?_
 unfold f15
 refine Yes.jn (Yes.bind (Yes.mono (Q' := fun r => r = decide (long6 l)) ?_ fun r hr => ?_))
 ·refine Yes.cond (fun h => Yes.some ?_) fun h => Yes.some ?_
  ·rw [h, eq_comm, decide_eq_true_eq]; simp at h; exact .inl (by omega)
  ·rw [decide_eq_decide]; simp at h; unfold long6; omega
 ·subst hr
  refine Yes.cond (fun h => Yes.some ?_) fun h => ?_
  ·simp only [decide_eq_true_eq] at h; unfold chkL; rw [if_pos h]
  ·have hn : ¬ long6 l := by simpa using h
   refine Yes.bind (Yes.mono (Q' := fun r => r = !decide (okList l)) ?_ fun r hr => ?_)
   ·refine qbind _ (s52 l h1) (Yes.cond (fun h => Yes.some ?_) fun h => ?_)
    ·have : ¬ okList l := fun ho => by simp only [Bool.not_eq_true', decide_eq_false_iff_not] at h; exact h ⟨ho.1, ho.2.2.1⟩
     rw [h]; simp [this]
    ·have hr : okRates l.Rates ∧ 0 < l.Rates.length := by simpa using h
     rw [s53 _ (by omega)]
     refine Yes.bind (Yes.some (Yes.cond (fun h => Yes.some ?_) fun h => ?_))
     ·have : ¬ okList l := fun ho => by
       have : l.Extras.all (btw 0 1000) = true := List.all_eq_true.2 ho.2.1
       rw [this] at h; cases h
      rw [h]; simp [this]
     ·have he : ∀ x ∈ l.Extras, btw 0 1000 x = true := List.all_eq_true.1 (by simpa using h)
      rw [s54_one]
      refine Yes.bind (Yes.some (Yes.cond (fun h => Yes.some ?_) fun h => ?_))
      ·have : ¬ okList l := fun ho => by rw [ho.2.2.2.1] at h; cases h
       rw [h]; simp [this]
      ·have hf : btw 0 1000 l.Fine = true := by simpa using h
       rw [s53 _ (by simp)]
       refine Yes.bind (Yes.some (Yes.some ?_))
       congr 1
       simp only [List.all_cons, List.all_nil, Bool.and_true]
       by_cases hc : btw 0 1000 l.Cap = true
       ·have : okList l := ⟨hr.1, he, hr.2, hf, hc⟩
        simp [this, hc]
       ·have : ¬ okList l := fun ho => hc ho.2.2.2.2
        simp [this]; simpa using hc
   ·subst hr
    refine Yes.cond (fun h => Yes.some ?_) fun h => Yes.some ?_
    ·have : ¬ okList l := by simpa using h
     unfold chkL; rw [if_neg hn, if_neg this]
    ·have : okList l := by simpa using h
     unfold chkL; rw [if_neg hn, if_pos this]
end Go.Proofs.YtkmbkaoolacofaaGreat
