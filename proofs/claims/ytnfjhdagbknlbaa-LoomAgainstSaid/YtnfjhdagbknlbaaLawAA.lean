/- Against, Left, Fewest: the two programs agree. -/
import Derived.Test.YtnfjhdagbknlbaaLawZ
import Derived.Test.YtnfjhdagbknlbaaLawQ
set_option maxRecDepth 8000
namespace Go.Proofs.Ytnfjhdagbknlbaa
open Go.RowKit
open Classical

def ng : Nat → Option LoomRun := fun _ => none
theorem days_ng : Days ng := fun _ _ h => by cases h
def allL (m : LoomMill) : List Int := nums (2 ^ m.Widths.length - 1)
def AgP (m : LoomMill) (l : List LoomOrder) (s : Nat) : Prop := ¬ TogP m l ng (allL m) s
def LfP (m : LoomMill) (l : List LoomOrder) (s : Nat) : Prop := TogP m l ng (allL m) (dif (2 ^ l.length - 1) s)
theorem sub_dif {n s : Nat} (hn : n ≤ 7) (hs : s < 2 ^ n) : 2 ^ n - 1 - s = dif (2 ^ n - 1) s := by
 have hp := pow7 hn
 apply Nat.eq_of_testBit_eq
 intro i
 rw [dif_bit (lt128_62 (by omega)) (lt128_62 (by omega)), show 2 ^ n - 1 - s = 2 ^ n - (s + 1) by omega, Nat.testBit_two_pow_sub_succ hs, all_bit]
theorem len_filter {p q : Nat → Bool} {xs : List Nat} (h : ∀ x ∈ xs, p x = true → q x = true) : (xs.filter p).length ≤ (xs.filter q).length ∧ ((∃ x ∈ xs, q x = true ∧ p x = false) → (xs.filter p).length < (xs.filter q).length) := by
 induction xs with
 | nil => exact ⟨Nat.le_refl _, fun ⟨x, hx, _⟩ => by cases hx⟩
 | cons x xs ih =>
  have h2 := ih fun y hy => h y (by simp [hy])
  have hx := h x (by simp)
  constructor
  ·cases hp : p x with
   | true => have := hx hp; simp [hp, this]; exact h2.1
   | false => cases hq : q x <;> simp [hp, hq] <;> omega
  ·rintro ⟨y, hy, hq, hpn⟩
   rcases List.mem_cons.1 hy with rfl | hy
   ·simp [hq, hpn]; omega
   ·have h3 := h2.2 ⟨y, hy, hq, hpn⟩
    cases hp : p x with
    | true => have := hx hp; simp [hp, this]; exact h3
    | false => cases hq : q x <;> simp [hp, hq] <;> omega
theorem nums_strict {a b : Nat} (hb : b < 2 ^ 62) (h : ∀ i, a.testBit i = true → b.testBit i = true) (hne : a ≠ b) : (nums a).length < (nums b).length := by
 have : ∃ i, b.testBit i = true ∧ a.testBit i = false := by
  by_cases hx : ∃ i, b.testBit i = true ∧ a.testBit i = false
  ·exact hx
  ·exfalso
   apply hne
   apply Nat.eq_of_testBit_eq
   intro i
   cases ha : a.testBit i with
   | true => exact (h i ha).symm
   | false =>
    cases hb : b.testBit i with
    | false => rfl
    | true => exact absurd ⟨i, hb, ha⟩ hx
 obtain ⟨i, h1, h2⟩ := this
 unfold nums; rw [List.length_map, List.length_map]
 exact (len_filter fun x _ => h x).2 ⟨i, List.mem_range.2 (bit_lt hb h1), h1, h2⟩
theorem lf_all {m : LoomMill} {l : List LoomOrder} (g : Good m l) : LfP m l (2 ^ l.length - 1) := by
 have hp := pow7 g.l7
 unfold LfP
 rw [← sub_dif g.l7 (by omega), Nat.sub_self]
 exact ⟨fun _ => 0, fun _ => 0, fun i hi => absurd hi (by simp), fun i _ hi => absurd hi (by simp)⟩
theorem lf_some {m : LoomMill} {l : List LoomOrder} (g : Good m l) : ∃ s, best (LfP m l) (2 ^ l.length) = some s := by
 cases h : best (LfP m l) (2 ^ l.length) with
 | some s => exact ⟨s, rfl⟩
 | none => exact absurd (lf_all g) (best_none h _ (by have := (pow7 g.l7).2; omega))
/-! ### The program -/
theorem all_ok (m : LoomMill) (hw : m.Widths.length ≤ 7) : ∀ x ∈ allL m, 0 ≤ x ∧ x < m.Widths.length := fun x hx => by
 obtain ⟨k, rfl, _, h⟩ := nums_nn hx
 rw [all_bit] at h
 have := of_decide_eq_true h
 omega
theorem s51a {m : LoomMill} {l : List LoomOrder} (g : Good m l) : f51 ⟨m, l⟩ (allL m) [] = some (bl l.length (TogP m l ng (allL m))) := s51 g (f := []) days_ng (nums_nodup _) (all_ok m (by have := g.w3; omega))
theorem s23 (m : LoomMill) (l : List LoomOrder) : f23 m l = some (if chkE m l ≠ 0 then ([], chkE m l) else match best (AgP m l) (2 ^ l.length) with | none => ([], 7) | some s => (nums s, 0)) := by
 unfold f23
 rw [s50, Option.bind_some]
 by_cases hc : chkE m l = 0
 ·have g := good_of hc
  have hor : openR m l = (⟨m, l⟩, 0) := by simp [openR, hc]
  rw [hor, if_neg (by simp [hc])]
  have h0 : ((0 : Int) != 0) = false := rfl
  simp only [jn, h0, cond_false, s52 g, Option.bind_some]
  have := s51a g
  unfold allL at this
  rw [this, Option.bind_some, s55 g.l7 (P := AgP m l) (fun s hs => ?_), Option.bind_some]
  ·cases best (AgP m l) (2 ^ l.length) <;> rfl
  ·unfold f56
   rw [bl_idx hs, Option.bind_some]
   congr 1
   unfold AgP allL
   rw [Bool.eq_iff_iff]; simp
 ·have hor : openR m l = (⟨⟨[], 0⟩, []⟩, chkE m l) := by simp [openR, hc]
  have h0 : (chkE m l != 0) = true := by simp [hc]
  rw [hor, if_pos hc]
  simp only [jn, h0, cond_true]
theorem s24 (m : LoomMill) (l : List LoomOrder) : f24 m l = some (if chkE m l ≠ 0 then ([], chkE m l) else ((bp (best (LfP m l) (2 ^ l.length))).1, 0)) := by
 unfold f24
 rw [s50, Option.bind_some]
 by_cases hc : chkE m l = 0
 ·have g := good_of hc
  have hp := pow7 g.l7
  have hor : openR m l = (⟨m, l⟩, 0) := by simp [openR, hc]
  rw [hor, if_neg (by simp [hc])]
  have h0 : ((0 : Int) != 0) = false := rfl
  simp only [jn, h0, cond_false, s52 g, Option.bind_some]
  have := s51a g
  unfold allL at this
  rw [this, Option.bind_some, s55 g.l7 (P := LfP m l) (fun s hs => ?_), Option.bind_some]
  ·have hdl := dif_le (2 ^ l.length - 1) s
   unfold f57
   rw [s53 g, Option.bind_some, andn64 (lt128_62 (by omega)) (lt128_62 (by omega)), bl_idx (by omega), Option.bind_some]
   rfl
 ·have hor : openR m l = (⟨⟨[], 0⟩, []⟩, chkE m l) := by simp [openR, hc]
  have h0 : (chkE m l != 0) = true := by simp [hc]
  rw [hor, if_pos hc]
  simp only [jn, h0, cond_true]
end Go.Proofs.Ytnfjhdagbknlbaa
