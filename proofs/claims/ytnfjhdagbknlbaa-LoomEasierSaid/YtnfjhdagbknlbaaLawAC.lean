/- Against, Left, Fewest: the two programs agree. -/
import Derived.Test.YtnfjhdagbknlbaaLawZ
import Derived.Test.YtnfjhdagbknlbaaLawQ
set_option maxRecDepth 8000
namespace Go.Proofs.Ytnfjhdagbknlbaa
open Go.RowKit
open Classical

def ng : Nat → Option LoomRun := fun _ => none
theorem days_ng : Days ng := fun _ _ h => by cases h
def allL (m : LoomMill) : List Int := nums (2 ^ m.Widths.length - 1)
def LfP (m : LoomMill) (l : List LoomOrder) (s : Nat) : Prop := TogP m l ng (allL m) (dif (2 ^ l.length - 1) s)
theorem sub_dif {n s : Nat} (hn : n ≤ 7) (hs : s < 2 ^ n) : 2 ^ n - 1 - s = dif (2 ^ n - 1) s := by
 have hp := pow7 hn
 apply Nat.eq_of_testBit_eq
 intro i
 rw [dif_bit (lt128_62 (by omega)) (lt128_62 (by omega)), show 2 ^ n - 1 - s = 2 ^ n - (s + 1) by omega, Nat.testBit_two_pow_sub_succ hs, all_bit]
theorem lf_all {m : LoomMill} {l : List LoomOrder} (g : Good m l) : LfP m l (2 ^ l.length - 1) := by
 have hp := pow7 g.l7
 unfold LfP
 rw [← sub_dif g.l7 (by omega), Nat.sub_self]
 exact ⟨fun _ => 0, fun _ => 0, fun i hi => absurd hi (by simp), fun i _ hi => absurd hi (by simp)⟩
theorem lf_some {m : LoomMill} {l : List LoomOrder} (g : Good m l) : ∃ s, best (LfP m l) (2 ^ l.length) = some s := by
 cases h : best (LfP m l) (2 ^ l.length) with
 | some s => exact ⟨s, rfl⟩
 | none => exact absurd (lf_all g) (best_none h _ (by have := (pow7 g.l7).2; omega))
/-! ### The program -/
theorem all_ok (m : LoomMill) (hw : m.Widths.length ≤ 7) : ∀ x ∈ allL m, 0 ≤ x ∧ x < m.Widths.length := fun x hx => by
 obtain ⟨k, rfl, _, h⟩ := nums_nn hx
 rw [all_bit] at h
 have := of_decide_eq_true h
 omega
theorem s51a {m : LoomMill} {l : List LoomOrder} (g : Good m l) : f51 ⟨m, l⟩ (allL m) [] = some (bl l.length (TogP m l ng (allL m))) := s51 g (f := []) days_ng (nums_nodup _) (all_ok m (by have := g.w3; omega))
theorem s24 (m : LoomMill) (l : List LoomOrder) : f24 m l = some (if chkE m l ≠ 0 then ([], chkE m l) else ((bp (best (LfP m l) (2 ^ l.length))).1, 0)) := by
 unfold f24
 rw [s50, Option.bind_some]
 by_cases hc : chkE m l = 0
 ·have g := good_of hc
  have hp := pow7 g.l7
  have hor : openR m l = (⟨m, l⟩, 0) := by simp [openR, hc]
  rw [hor, if_neg (by simp [hc])]
  have h0 : ((0 : Int) != 0) = false := rfl
  simp only [jn, h0, cond_false, s52 g, Option.bind_some]
  have := s51a g
  unfold allL at this
  rw [this, Option.bind_some, s55 g.l7 (P := LfP m l) (fun s hs => ?_), Option.bind_some]
  ·have hdl := dif_le (2 ^ l.length - 1) s
   unfold f57
   rw [s53 g, Option.bind_some, andn64 (lt128_62 (by omega)) (lt128_62 (by omega)), bl_idx (by omega), Option.bind_some]
   rfl
 ·have hor : openR m l = (⟨⟨[], 0⟩, []⟩, chkE m l) := by simp [openR, hc]
  have h0 : (chkE m l != 0) = true := by simp [hc]
  rw [hor, if_pos hc]
  simp only [jn, h0, cond_true]
end Go.Proofs.Ytnfjhdagbknlbaa
/- Plans: what holds, what can be completed, and the smallest plan. -/
set_option maxRecDepth 8000
namespace Go.Proofs.Ytnfjhdagbknlbaa
open Go.RowKit
open Classical

def pg (p : List LoomRun) (i : Nat) : Option LoomRun := p[i]?
def SeqP (p : List LoomRun) : Prop := ∀ i, i < p.length → (rn p i).Order = (i : Int)
theorem pg_rn {p : List LoomRun} {i : Nat} (h : i < p.length) : pg p i = some (rn p i) := by unfold pg rn; rw [List.getElem?_eq_getElem h]; rfl
def HoldF (m : LoomMill) (l : List LoomOrder) (p : List LoomRun) : Prop := ∃ K F, Fits m l (fun i => i < p.length) (FixG (pg p)) K F
/-! ### What can be completed -/
def Cpl (m : LoomMill) (l : List LoomOrder) (p : List LoomRun) : Prop := ∃ K F, Fits m l (fun i => i < l.length) (FixG (pg p)) K F
theorem Cpl.holds {m : LoomMill} {l : List LoomOrder} {p : List LoomRun} (hl : p.length ≤ l.length) (h : Cpl m l p) : HoldF m l p := let ⟨K, F, h⟩ := h; ⟨K, F, h.mono (fun i hi => by omega) fun _ _ h => h⟩
theorem pg_app {p : List LoomRun} {r : LoomRun} {i : Nat} : pg (p ++ [r]) i = if i = p.length then some r else pg p i := by
 unfold pg
 rcases Nat.lt_trichotomy i p.length with h | h | h
 ·rw [if_neg (by omega), List.getElem?_append_left h]
 ·rw [if_pos h, h]; simp
 ·rw [if_neg (by omega), List.getElem?_eq_none (by simp; omega), List.getElem?_eq_none (by omega)]
structure Least1 (m : LoomMill) (l : List LoomOrder) (p : List LoomRun) (r : LoomRun) : Prop where
 c : Cpl m l (p ++ [r])
 o : r.Order = (p.length : Int)
 m : ∀ r' : LoomRun, r'.Order = (p.length : Int) → Cpl m l (p ++ [r']) → r.From < r'.From ∨ r.From = r'.From ∧ r.Loom ≤ r'.Loom
inductive Grd (m : LoomMill) (l : List LoomOrder) : List LoomRun → List LoomRun → Prop
 | done {p : List LoomRun} : p.length = l.length → Grd m l p p
 | step {p q : List LoomRun} {r : LoomRun} : p.length < l.length → Least1 m l p r → Grd m l (p ++ [r]) q → Grd m l p q
/-! ### The reference -/
theorem apnd24' {p ys : List LoomRun} (h : p.length ≤ 1000) (h' : ys.length ≤ 1000) : apnd 24 p ys = some (p ++ ys) := by
 unfold apnd; rw [if_pos ⟨by omega, by omega⟩]
end Go.Proofs.Ytnfjhdagbknlbaa
/- Plan: the smallest plan; LoomPlans. -/
set_option maxRecDepth 8000
namespace Go.Proofs.Ytnfjhdagbknlbaa
open Go.RowKit
open Classical

end Go.Proofs.Ytnfjhdagbknlbaa
