/- Against, Left, Fewest: the two programs agree. -/
import Derived.Test.YtnfjhdagbknlbaaLawZ
import Derived.Test.YtnfjhdagbknlbaaLawQ
set_option maxRecDepth 8000
namespace Go.Proofs.Ytnfjhdagbknlbaa
open Go.RowKit
open Classical

def ng : Nat → Option LoomRun := fun _ => none
theorem days_ng : Days ng := fun _ _ h => by cases h
def allL (m : LoomMill) : List Int := nums (2 ^ m.Widths.length - 1)
def AgP (m : LoomMill) (l : List LoomOrder) (s : Nat) : Prop := ¬ TogP m l ng (allL m) s
def LfP (m : LoomMill) (l : List LoomOrder) (s : Nat) : Prop := TogP m l ng (allL m) (dif (2 ^ l.length - 1) s)
def FwP (m : LoomMill) (l : List LoomOrder) (q : Nat) : Prop := TogP m l ng (nums q) (2 ^ l.length - 1)
/-! ### The program -/
theorem all_ok (m : LoomMill) (hw : m.Widths.length ≤ 7) : ∀ x ∈ allL m, 0 ≤ x ∧ x < m.Widths.length := fun x hx => by
 obtain ⟨k, rfl, _, h⟩ := nums_nn hx
 rw [all_bit] at h
 have := of_decide_eq_true h
 omega
theorem some_ok {m : LoomMill} {q : Nat} (hq : q < 2 ^ m.Widths.length) : ∀ x ∈ nums q, 0 ≤ x ∧ x < m.Widths.length := fun x hx => by
 obtain ⟨k, rfl, _, h⟩ := nums_nn hx
 have := bit_lt hq h
 omega
theorem s51a {m : LoomMill} {l : List LoomOrder} (g : Good m l) : f51 ⟨m, l⟩ (allL m) [] = some (bl l.length (TogP m l ng (allL m))) := s51 g (f := []) days_ng (nums_nodup _) (all_ok m (by have := g.w3; omega))
theorem s23 (m : LoomMill) (l : List LoomOrder) : f23 m l = some (if chkE m l ≠ 0 then ([], chkE m l) else match best (AgP m l) (2 ^ l.length) with | none => ([], 7) | some s => (nums s, 0)) := by
 unfold f23
 rw [s50, Option.bind_some]
 by_cases hc : chkE m l = 0
 ·have g := good_of hc
  have hor : openR m l = (⟨m, l⟩, 0) := by simp [openR, hc]
  rw [hor, if_neg (by simp [hc])]
  have h0 : ((0 : Int) != 0) = false := rfl
  simp only [jn, h0, cond_false, s52 g, Option.bind_some]
  have := s51a g
  unfold allL at this
  rw [this, Option.bind_some, s55 g.l7 (P := AgP m l) (fun s hs => ?_), Option.bind_some]
  ·cases best (AgP m l) (2 ^ l.length) <;> rfl
  ·unfold f56
   rw [bl_idx hs, Option.bind_some]
   congr 1
   unfold AgP allL
   rw [Bool.eq_iff_iff]; simp
 ·have hor : openR m l = (⟨⟨[], 0⟩, []⟩, chkE m l) := by simp [openR, hc]
  have h0 : (chkE m l != 0) = true := by simp [hc]
  rw [hor, if_pos hc]
  simp only [jn, h0, cond_true]
theorem s24 (m : LoomMill) (l : List LoomOrder) : f24 m l = some (if chkE m l ≠ 0 then ([], chkE m l) else ((bp (best (LfP m l) (2 ^ l.length))).1, 0)) := by
 unfold f24
 rw [s50, Option.bind_some]
 by_cases hc : chkE m l = 0
 ·have g := good_of hc
  have hp := pow7 g.l7
  have hor : openR m l = (⟨m, l⟩, 0) := by simp [openR, hc]
  rw [hor, if_neg (by simp [hc])]
  have h0 : ((0 : Int) != 0) = false := rfl
  simp only [jn, h0, cond_false, s52 g, Option.bind_some]
  have := s51a g
  unfold allL at this
  rw [this, Option.bind_some, s55 g.l7 (P := LfP m l) (fun s hs => ?_), Option.bind_some]
  ·have hdl := dif_le (2 ^ l.length - 1) s
   unfold f57
   rw [s53 g, Option.bind_some, andn64 (lt128_62 (by omega)) (lt128_62 (by omega)), bl_idx (by omega), Option.bind_some]
   rfl
 ·have hor : openR m l = (⟨⟨[], 0⟩, []⟩, chkE m l) := by simp [openR, hc]
  have h0 : (chkE m l != 0) = true := by simp [hc]
  rw [hor, if_pos hc]
  simp only [jn, h0, cond_true]
theorem s25 (m : LoomMill) (l : List LoomOrder) : f25 m l = some (if chkE m l ≠ 0 then ([], chkE m l) else match best (FwP m l) (2 ^ m.Widths.length) with | none => ([], 9) | some s => (nums s, 0)) := by
 unfold f25
 rw [s50, Option.bind_some]
 by_cases hc : chkE m l = 0
 ·have g := good_of hc
  have hw3 := g.w3
  have hp := pow7 g.l7
  have hor : openR m l = (⟨m, l⟩, 0) := by simp [openR, hc]
  rw [hor, if_neg (by simp [hc])]
  have h0 : ((0 : Int) != 0) = false := rfl
  simp only [jn, h0, cond_false]
  rw [s55 (show m.Widths.length ≤ 7 by omega) (P := FwP m l) (fun q hq => ?_), Option.bind_some]
  ·cases best (FwP m l) (2 ^ m.Widths.length) <;> rfl
  ·unfold f58
   rw [s59 (lt_pow62 (show m.Widths.length ≤ 7 by omega) hq), Option.bind_some, s51 g (f := []) days_ng (nums_nodup _) (some_ok hq), Option.bind_some, s53 g, Option.bind_some, bl_idx (by omega), Option.bind_some]
   rfl
 ·have hor : openR m l = (⟨⟨[], 0⟩, []⟩, chkE m l) := by simp [openR, hc]
  have h0 : (chkE m l != 0) = true := by simp [hc]
  rw [hor, if_pos hc]
  simp only [jn, h0, cond_true]
end Go.Proofs.Ytnfjhdagbknlbaa
