import Derived.Test.YtkmbkaoolacofaaGreatCode5
import Derived.Test.YtkmbkaoolacofaaGreatAp
set_option maxRecDepth 8000
set_option maxHeartbeats 4000000
namespace Go.Proofs.YtkmbkaoolacofaaGreat
open Go.RowKit
end Go.Proofs.YtkmbkaoolacofaaGreat
/- All functions of this text. -/
/- What a plain function returns: total correctness, step by step. No program is named here. -/
namespace Go.Proofs.YtkmbkaoolacofaaGreat
open Go.RowKit

def Yes {α : Type} (x : Option α) (Q : α → Prop) : Prop := ∃ r, x = some r ∧ Q r
namespace Yes
variable {α β σ ρ : Type} {Q : α → Prop}
theorem some {a : α} (h : Q a) : Yes (Option.some a) Q := ⟨a, rfl, h⟩
theorem bind {x : Option β} {f : β → Option α} (h : Yes x fun b => Yes (f b) Q) : Yes (x.bind f) Q := by
 obtain ⟨b, rfl, a, ha, hq⟩ := h; exact ⟨a, ha, hq⟩
theorem cond {c : Bool} {x y : Option α} (h1 : c = true → Yes x Q) (h2 : c = false → Yes y Q) : Yes (bif c then x else y) Q := by
 cases c
 ·exact h2 rfl
 ·exact h1 rfl
theorem jn {k : σ → Option α} {f : (σ → Option α) → Option α} (h : Yes (f k) Q) : Yes (Go.Proofs.YtkmbkaoolacofaaGreat.jn k f) Q := h
theorem mono {x : Option α} {Q' : α → Prop} (h : Yes x Q') (k : ∀ a, Q' a → Q a) : Yes x Q := let ⟨a, ha, hq⟩ := h; ⟨a, ha, k a hq⟩
theorem lp_lt {body : (σ → Option α) → σ → Option α} (I : σ → Prop) (μ : σ → Nat)
  (h : ∀ s (k : σ → Option α), I s → (∀ s', I s' → μ s' < μ s → Yes (k s') Q) → Yes (body k s) Q) : ∀ (n : Nat) (s : σ), I s → μ s < n → Yes (Go.Proofs.YtkmbkaoolacofaaGreat.lp body n s) Q
 | 0, _, _, hm => absurd hm (Nat.not_lt_zero _)
 | n + 1, s, hi, hm => by
  rw [lp_succ]
  exact h s _ hi fun s' hi' hm' => lp_lt I μ h n s' hi' (by omega)
theorem lp {body : (σ → Option α) → σ → Option α} {s : σ} (I : σ → Prop) (μ : σ → Nat) (h0 : I s) (hm : μ s < 18446744073709551616)
  (h : ∀ s (k : σ → Option α), I s → (∀ s', I s' → μ s' < μ s → Yes (k s') Q) → Yes (body k s) Q) : Yes (Go.Proofs.YtkmbkaoolacofaaGreat.lp body big s) Q := lp_lt I μ h _ s h0 (big_pos _ hm)
theorem idx {xs : List α} {i : Int} {n : Nat} (hi : i = n) (hl : n < xs.length) (h : Q xs[n]) : Yes (Go.Proofs.YtkmbkaoolacofaaGreat.idx xs i) Q := by
 subst hi
 refine ⟨xs[n], ?_, h⟩
 unfold Go.Proofs.YtkmbkaoolacofaaGreat.idx
 rw [if_pos (Int.natCast_nonneg n)]
 exact List.getElem?_eq_getElem hl
theorem apnd {b : Nat} {xs ys : List α} {Q : List α → Prop} (hb : (xs.length + ys.length) * b ≤ 140737488355328) (hl : xs.length + ys.length ≤ 9223372036854775807) (h : Q (xs ++ ys)) : Yes (Go.Proofs.YtkmbkaoolacofaaGreat.apnd b xs ys) Q := by
 refine ⟨_, ?_, h⟩
 unfold Go.Proofs.YtkmbkaoolacofaaGreat.apnd
 rw [if_pos ⟨hb, hl⟩]
theorem eq {x : Option α} {a : α} (h : Yes x fun r => r = a) : x = Option.some a := by obtain ⟨r, hr, rfl⟩ := h; exact hr
theorem of {x : Option α} {a : α} (h : x = Option.some a) (hq : Q a) : Yes x Q := ⟨a, h, hq⟩
end Yes
theorem w64_id {n : Int} (h1 : -9223372036854775808 ≤ n) (h2 : n ≤ 9223372036854775807) : w64 n = n := by
 unfold w64; rw [IntKind.wrap_i64]; omega
theorem Yes.upto {σ α : Type} {Q : α → Prop} {body : (σ × Int → Option α) → σ × Int → Option α} {s0 : σ} (n : Nat) (hn : n < 9223372036854775807) (I : Nat → σ → Prop) (h0 : I 0 s0)
  (hb : ∀ (i : Nat) (s : σ) (k : σ × Int → Option α), i < n → I i s → (∀ s', I (i + 1) s' → Yes (k (s', w64 ((i : Int) + 1))) Q) → Yes (body k (s, (i : Int))) Q)
  (he : ∀ (s : σ) (k : σ × Int → Option α), I n s → Yes (body k (s, (n : Int))) Q) : Yes (Go.Proofs.YtkmbkaoolacofaaGreat.lp body big (s0, 0)) Q := by
 refine Yes.lp (fun s => ∃ i : Nat, s.2 = i ∧ i ≤ n ∧ I i s.1) (fun s => n - s.2.toNat) ⟨0, rfl, Nat.zero_le _, h0⟩ (by simp; omega) ?_
 rintro ⟨s, j⟩ k ⟨i, hi, hle, hI⟩ hk
 simp only at hi hI
 subst hi
 by_cases hlt : i < n
 ·refine hb i s k hlt hI fun s' hs' => ?_
  rw [w64_id (by omega) (by omega)]
  refine hk _ ⟨i + 1, by simp, hlt, hs'⟩ ?_
  simp only [Int.toNat_natCast]
  omega
 ·obtain rfl : i = n := by omega
  exact he s k hI
theorem Yes.upto2 {σ τ α : Type} {Q : α → Prop} {body : (σ × τ × Int → Option α) → σ × τ × Int → Option α} {s0 : σ} {t0 : τ} (n : Nat) (hn : n < 9223372036854775807) (I : Nat → σ → τ → Prop) (h0 : I 0 s0 t0)
  (hb : ∀ (i : Nat) (s : σ) (t : τ) (k : σ × τ × Int → Option α), i < n → I i s t → (∀ s' t', I (i + 1) s' t' → Yes (k (s', t', w64 ((i : Int) + 1))) Q) → Yes (body k (s, t, (i : Int))) Q)
  (he : ∀ (s : σ) (t : τ) (k : σ × τ × Int → Option α), I n s t → Yes (body k (s, t, (n : Int))) Q) : Yes (Go.Proofs.YtkmbkaoolacofaaGreat.lp body big (s0, t0, 0)) Q := by
 refine Yes.lp (fun s => ∃ i : Nat, s.2.2 = i ∧ i ≤ n ∧ I i s.1 s.2.1) (fun s => n - s.2.2.toNat) ⟨0, rfl, Nat.zero_le _, h0⟩ (by simp; omega) ?_
 rintro ⟨s, t, j⟩ k ⟨i, hi, hle, hI⟩ hk
 simp only at hi hI
 subst hi
 by_cases hlt : i < n
 ·refine hb i s t k hlt hI fun s' t' hs' => ?_
  rw [w64_id (by omega) (by omega)]
  refine hk _ ⟨i + 1, by simp, hlt, hs'⟩ ?_
  simp only [Int.toNat_natCast]
  omega
 ·obtain rfl : i = n := by omega
  exact he s t k hI
theorem Yes.upto0 {α : Type} {Q : α → Prop} {body : (Int → Option α) → Int → Option α} (n : Nat) (hn : n < 9223372036854775807) (I : Nat → Prop) (h0 : I 0)
  (hb : ∀ (i : Nat) (k : Int → Option α), i < n → I i → (I (i + 1) → Yes (k (w64 ((i : Int) + 1))) Q) → Yes (body k (i : Int)) Q)
  (he : ∀ (k : Int → Option α), I n → Yes (body k (n : Int)) Q) : Yes (Go.Proofs.YtkmbkaoolacofaaGreat.lp body big 0) Q := by
 refine Yes.lp (fun s => ∃ i : Nat, s = i ∧ i ≤ n ∧ I i) (fun s => n - s.toNat) ⟨0, rfl, Nat.zero_le _, h0⟩ (by simp; omega) ?_
 rintro s k ⟨i, rfl, hle, hI⟩ hk
 by_cases hlt : i < n
 ·refine hb i k hlt hI fun hs' => ?_
  rw [w64_id (by omega) (by omega)]
  refine hk _ ⟨i + 1, by simp, hlt, hs'⟩ ?_
  simp only [Int.toNat_natCast]
  omega
 ·obtain rfl : i = n := by omega
  exact he k hI
theorem index_is {α : Type} (xs : List α) (φ : α → Option Bool) (p : α → Bool) (hl : xs.length < 9223372036854775807) (h : ∀ a ∈ xs, φ a = some (p a)) :
  Yes (Go.Proofs.YtkmbkaoolacofaaGreat.jn (σ := Unit) (fun _ => some (-1 : Int)) fun k18 => Go.Proofs.YtkmbkaoolacofaaGreat.lp (σ := Int) (fun k19 s8 => bif decide (s8 < (xs.length : Int)) then
   Go.Proofs.YtkmbkaoolacofaaGreat.jn (σ := Unit) (fun _ => k19 (w64 (s8 + (1 : Int)))) fun k28 => (Go.Proofs.YtkmbkaoolacofaaGreat.idx xs s8).bind fun y => (φ y).bind fun b => bif b then some s8 else k28 ()
   else k18 ()) big (0 : Int)) (fun r => (∃ i : Nat, r = i ∧ ∃ h : i < xs.length, p xs[i] = true ∧ ∀ j (hj : j < i), p (xs[j]'(by omega)) = false) ∨ (r = -1 ∧ ∀ a ∈ xs, p a = false)) := by
 refine Yes.jn (Yes.upto0 xs.length hl (fun i => ∀ j (hj : j < xs.length), j < i → p xs[j] = false) (fun _ _ h => absurd h (Nat.not_lt_zero _)) (fun i k hi hI hk => ?_) (fun k hI => ?_))
 ·refine Yes.cond (fun _ => Yes.jn (Yes.bind (Yes.idx rfl hi (Yes.bind (Yes.of (h _ (List.getElem_mem hi)) (Yes.cond (fun hp => Yes.some ?_) (fun hp => hk ?_))))))) (fun h => absurd h (by simp; omega))
  ·exact .inl ⟨i, rfl, hi, hp, fun j hj => hI j (by omega) hj⟩
  ·intro j hj hji
   rcases Nat.lt_succ_iff_lt_or_eq.1 hji with h | rfl
   ·exact hI j hj h
   ·exact hp
 ·refine Yes.cond (fun h => absurd h (by simp)) (fun _ => Yes.some (.inr ⟨rfl, fun a ha => ?_⟩))
  obtain ⟨j, hj, rfl⟩ := List.getElem_of_mem ha
  exact hI j hj hj
theorem index_any {α : Type} {xs : List α} {p : α → Bool} {r : Int} (h : (∃ i : Nat, r = i ∧ ∃ h : i < xs.length, p xs[i] = true ∧ ∀ j (hj : j < i), p (xs[j]'(by omega)) = false) ∨ (r = -1 ∧ ∀ a ∈ xs, p a = false)) : decide (r ≥ (0 : Int)) = xs.any p := by
 rcases h with ⟨i, rfl, hi, hp, _⟩ | ⟨rfl, h⟩
 ·have : xs.any p = true := List.any_eq_true.2 ⟨_, List.getElem_mem hi, hp⟩
  rw [this]; simp
 ·have : xs.any p = false := List.any_eq_false.2 fun a ha => by simp [h a ha]
  rw [this]; rfl
end Go.Proofs.YtkmbkaoolacofaaGreat
/- Plain laws: the error of a price list and of a piece; what a piece earns. -/
set_option maxRecDepth 8000
namespace Go.Proofs.YtkmbkaoolacofaaGreat
open Go.RowKit
open Classical

theorem qskip {α : Type} {Q : α → Prop} {c : Bool} {X Y : Option α} (hc : c = false) (h : Yes Y Q) : Yes (bif c then X else Y) Q := by rw [hc]; exact h
theorem qtake {α : Type} {Q : α → Prop} {c : Bool} {X Y : Option α} (hc : c = true) (h : Yes X Q) : Yes (bif c then X else Y) Q := by rw [hc]; exact h
theorem qbind {α β : Type} {Q : β → Prop} {x : Option α} {f : α → Option β} (a : α) (h : x = some a) (k : Yes (f a) Q) : Yes (x.bind f) Q := by rw [h]; exact k
theorem qidx {α : Type} {xs : List α} {i : Nat} (h : i < xs.length) : idx xs (i : Int) = some xs[i] := by unfold idx; rw [if_pos (Int.natCast_nonneg i)]; exact List.getElem?_eq_getElem h
theorem qw64 {n : Int} (h1 : -1000000000 ≤ n) (h2 : n ≤ 1000000000) : w64 n = n := w64_id (by omega) (by omega)
/-! ### Comparisons and copies -/
/-! ### Between two others -/
def btw (a b x : Int) : Bool := decide (a ≤ x ∧ x ≤ b)
theorem s78 (x a b : Int) : f78 x a b = some (!btw a b x) := by unfold f78 btw; by_cases h1 : x < a <;> by_cases h2 : x > b <;> simp [h1, h2] <;> omega
theorem s68 (xs : List Int) (φ : Int → Option Bool) (p : Int → Bool) (hl : xs.length < 9223372036854775807) (h : ∀ a ∈ xs, φ a = some (p a)) : f68 xs φ = some (xs.any p) :=
 Yes.eq (Yes.bind (Yes.mono (index_is xs φ p hl h) fun _ hr => Yes.some (index_any hr)))
theorem s54 (a b : Int) (xs : List Int) (hl : xs.length < 9223372036854775807) : f54 a b xs = some (xs.all (btw a b)) := by
 unfold f54
 rw [s68 xs _ (fun x => !btw a b x) hl fun x _ => s78 x a b]
 simp [List.all_eq_not_any_not]
theorem s54_one (a b x : Int) : f54 a b [x] = some (btw a b x) := by rw [s54 _ _ _ (by simp)]; simp
/-! ### The error of a list -/
theorem btw_iff {a b x : Int} : btw a b x = true ↔ a ≤ x ∧ x ≤ b := by simp [btw]
end Go.Proofs.YtkmbkaoolacofaaGreat
/- Plain laws: the error of a table, its blots, copies (PayMends). -/
set_option maxRecDepth 8000
namespace Go.Proofs.YtkmbkaoolacofaaGreat
open Go.RowKit
open Classical

theorem take_succ' {α : Type} {xs : List α} {i : Nat} (h : i < xs.length) : xs.take (i + 1) = xs.take i ++ [xs[i]] := by
 rw [List.take_add_one, List.getElem?_eq_getElem h]; rfl
structure Smt (t : PayTable) : Prop where
 r : t.Rows.length ≤ 10
 c : ∀ x ∈ t.Rows, x.length ≤ 10
 a : t.Across.length ≤ 10
 d : t.Down.length ≤ 10
theorem s62 {t : PayTable} (h : Smt t) : f62 t = some t := by
 obtain ⟨h1, h2, h3, h4⟩ := h
 refine Yes.eq ?_
 unfold f62
 refine Yes.bind (Yes.apnd (by simp; omega) (by simp; omega) (Yes.bind (Yes.apnd (by simp; omega) (by simp; omega) (Yes.bind ?_))))
 refine Yes.upto t.Rows.length (by omega) (fun i s => s = ⟨t.Rows.take i, t.Across, t.Down, t.Total⟩) (by simp) (fun i s k hi hI hk => ?_) (fun s k hI => ?_)
 ·subst hI
  have hr := h2 _ (List.getElem_mem hi)
  have htk : (t.Rows.take i).length ≤ 10 := by simp; omega
  refine Yes.jn (qtake (by simp; omega) (Yes.jn (Yes.bind (qbind _ (qidx hi) (Yes.bind ?_)))))
  refine Yes.apnd (by simp only [List.length_nil]; omega) (by simp only [List.length_nil]; omega) (Yes.bind ?_)
  refine Yes.apnd (by show ((t.Rows.take i).length + 1) * 24 ≤ 140737488355328; omega) (by show (t.Rows.take i).length + 1 ≤ 9223372036854775807; omega) (Yes.some (hk _ ?_))
  show (⟨t.Rows.take i ++ [[] ++ t.Rows[i]], t.Across, t.Down, t.Total⟩ : PayTable) = _
  rw [take_succ' hi, List.nil_append]
 ·subst hI
  refine Yes.jn (qskip (by simp) (Yes.some (Yes.some ?_)))
  rw [List.take_length]
theorem s35 {t : PayTable} (h : Smt t) : f35 t = some t := by unfold f35; rw [s62 h]; rfl
/-! ### The error of a table -/
def lng (t : PayTable) : Prop := t.Rows.length > 6 ∨ ∃ x ∈ t.Rows, x.length > 6
structure Sqr (t : PayTable) : Prop where
 r : 0 < t.Rows.length
 d : 0 < t.Down.length
 a : t.Across.length = t.Rows.length
 c : ∀ x ∈ t.Rows, x.length = t.Down.length
structure Rng (t : PayTable) : Prop where
 m : ∀ x ∈ t.Rows, ∀ n ∈ x, btw (-1) 1000000 n = true
 a : ∀ n ∈ t.Across, btw 0 1000000000 n = true
 d : ∀ n ∈ t.Down, btw 0 1000000000 n = true
 t : btw 0 1000000000 t.Total = true
def blo (rows : List (List Int)) : Nat := (rows.map fun x => x.count (-1)).sum
noncomputable def chkT (t : PayTable) : Int := if lng t then 5 else if ¬ Sqr t then 4 else if ¬ Rng t then 2 else if blo t.Rows > 12 then 8 else 0
theorem blo_snoc {rows : List (List Int)} {i : Nat} (h : i < rows.length) : blo (rows.take (i + 1)) = blo (rows.take i) + rows[i].count (-1) := by
 unfold blo; rw [take_succ' h, List.map_append, List.sum_append]; simp
theorem blo_le : ∀ {rows : List (List Int)} {k : Nat}, (∀ x ∈ rows, x.length ≤ k) → blo rows ≤ rows.length * k
 | [], _, _ => by simp [blo]
 | x :: rows, k, h => by
  have h1 := blo_le (rows := rows) (k := k) fun y hy => h y (by simp [hy])
  have h2 := h x (by simp)
  have h3 : x.count (-1) ≤ x.length := List.count_le_length
  unfold blo at h1 ⊢
  simp only [List.map_cons, List.sum_cons, List.length_cons, Nat.add_mul, Nat.one_mul]
  omega
end Go.Proofs.YtkmbkaoolacofaaGreat
