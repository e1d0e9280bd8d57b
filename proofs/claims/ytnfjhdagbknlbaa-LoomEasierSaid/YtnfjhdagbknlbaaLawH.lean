/- Plain laws of the loom seat's functions: copies, comparisons, the error of a mill and orders. -/
import Derived.Test.YtnfjhdagbknlbaaYes
set_option maxRecDepth 8000
namespace Go.Proofs.Ytnfjhdagbknlbaa
open Go.RowKit

theorem s15 (m : LoomMill) (h : m.Widths.length ≤ 1000000) : f15 m = some m := by
 refine Yes.eq ?_
 unfold f15
 exact Yes.bind (Yes.apnd (by simp; omega) (by simp; omega) (Yes.some (by simp)))
theorem s16 (l : List LoomOrder) (h : l.length ≤ 1000000) : f16 l = some l := by
 refine Yes.eq ?_
 unfold f16
 exact Yes.bind (Yes.apnd (by simp; omega) (by simp; omega) (Yes.some (by simp)))
def btw (a b x : Int) : Bool := decide (a ≤ x ∧ x ≤ b)
theorem s96 (x a b : Int) : f96 x a b = some (!btw a b x) := by unfold f96 btw; by_cases h1 : x < a <;> by_cases h2 : x > b <;> simp [h1, h2] <;> omega
theorem s95 (xs : List Int) (φ : Int → Option Bool) (p : Int → Bool) (hl : xs.length < 9223372036854775807) (h : ∀ a ∈ xs, φ a = some (p a)) : f95 xs φ = some (xs.any p) :=
 Yes.eq (Yes.bind (Yes.mono (index_is xs φ p hl h) fun _ hr => Yes.some (index_any hr)))
theorem s82 (xs : List LoomOrder) (φ : LoomOrder → Option Bool) (p : LoomOrder → Bool) (hl : xs.length < 9223372036854775807) (h : ∀ a ∈ xs, φ a = some (p a)) : f82 xs φ = some (xs.any p) :=
 Yes.eq (Yes.bind (Yes.mono (index_is xs φ p hl h) fun _ hr => Yes.some (index_any hr)))
theorem any_not {α : Type} (xs : List α) (p : α → Bool) : (!(xs.any fun x => !p x)) = xs.all p := by induction xs <;> simp_all
theorem s81 (a b : Int) (xs : List Int) (hl : xs.length < 9223372036854775807) : f81 a b xs = some (xs.all (btw a b)) := by
 unfold f81; rw [s95 xs _ (fun x => !btw a b x) hl (fun x _ => s96 x a b)]
 show some (!(xs.any fun x => !btw a b x)) = _
 rw [any_not]
theorem s71 (xs : List Int) (hl : xs.length < 9223372036854775807) : f71 xs = some (xs.all (btw 0 300)) := by unfold f71; rw [s81 _ _ _ hl]; rfl
def ordOk (x : LoomOrder) : Bool := btw 1 100 x.Width && btw 0 100 x.Chain && btw 1 100 x.Woven && btw 0 300 x.Early && btw 0 300 x.Late
theorem s80 (x : LoomOrder) : f80 x = some (ordOk x) := by
 unfold f80 ordOk
 rw [s81 _ _ _ (by simp), s81 _ _ _ (by simp), s81 _ _ _ (by simp), s71 _ (by simp)]
 simp only [List.all_cons, List.all_nil, Bool.and_true]
 cases btw 1 100 x.Width <;> cases btw 0 100 x.Chain <;> cases btw 1 100 x.Woven <;> cases btw 0 300 x.Early <;> cases btw 0 300 x.Late <;> rfl
theorem s79 (x : LoomOrder) : f79 x = some (!ordOk x) := by unfold f79; rw [s80]; rfl
def chkE (m : LoomMill) (l : List LoomOrder) : Int :=
 if m.Widths.length > 3 ∨ l.length > 7 then 5 else if m.Widths.length ≠ 0 ∧ m.Widths.all (btw 1 100) = true ∧ btw 0 20 m.Change = true ∧ l.all ordOk = true then 0 else 2
structure Good (m : LoomMill) (l : List LoomOrder) : Prop where
 w1 : 0 < m.Widths.length
 w3 : m.Widths.length ≤ 3
 l7 : l.length ≤ 7
 w : ∀ x ∈ m.Widths, 1 ≤ x ∧ x ≤ 100
 c : 0 ≤ m.Change ∧ m.Change ≤ 20
 o : ∀ x ∈ l, (1 ≤ x.Width ∧ x.Width ≤ 100) ∧ (0 ≤ x.Chain ∧ x.Chain ≤ 100) ∧ (1 ≤ x.Woven ∧ x.Woven ≤ 100) ∧ (0 ≤ x.Early ∧ x.Early ≤ 300) ∧ (0 ≤ x.Late ∧ x.Late ≤ 300)
theorem btw_iff {a b x : Int} : btw a b x = true ↔ a ≤ x ∧ x ≤ b := by simp [btw]
theorem good_of {m : LoomMill} {l : List LoomOrder} (h : chkE m l = 0) : Good m l := by
 unfold chkE at h
 split at h
 ·cases h
 ·rename_i h1
  split at h
  ·rename_i h2
   obtain ⟨a, b, c, d⟩ := h2
   refine ⟨by omega, by omega, by omega, fun x hx => btw_iff.1 (List.all_eq_true.1 b x hx), btw_iff.1 c, fun x hx => ?_⟩
   have := List.all_eq_true.1 d x hx
   simp only [ordOk, Bool.and_eq_true, btw_iff] at this
   obtain ⟨⟨⟨⟨a1, a2⟩, a3⟩, a4⟩, a5⟩ := this
   exact ⟨a1, a2, a3, a4, a5⟩
  ·cases h
def openR (m : LoomMill) (l : List LoomOrder) : LoomLoomMill × Int := if chkE m l = 0 then (⟨m, l⟩, 0) else (⟨⟨[], 0⟩, []⟩, chkE m l)
theorem s50 (m : LoomMill) (l : List LoomOrder) : f50 m l = some (openR m l) := by
 refine Yes.eq ?_
 unfold f50
 refine Yes.jn (Yes.bind ?_)
 have e1 : decide ((m.Widths.length : Int) > 3) = decide (m.Widths.length > 3) := by rw [decide_eq_decide]; omega
 have e2 : decide ((l.length : Int) > 7) = decide (l.length > 7) := by rw [decide_eq_decide]; omega
 rw [e1, e2]
 by_cases h1 : m.Widths.length > 3 ∨ l.length > 7
 ·have hc : chkE m l = 5 := by simp [chkE, h1]
  have : Yes (bif decide (m.Widths.length > 3) then some (decide (m.Widths.length > 3)) else some (decide (l.length > 7))) (fun r => r = true) := by
   refine Yes.cond (fun h => Yes.some h) (fun h => Yes.some ?_)
   simp at h ⊢; omega
  refine this.mono fun r hr => ?_
  subst hr
  exact Yes.some (by simp [openR, hc])
 ·have : Yes (bif decide (m.Widths.length > 3) then some (decide (m.Widths.length > 3)) else some (decide (l.length > 7))) (fun r => r = false) := by
   refine Yes.cond (fun h => Yes.some ?_) (fun h => Yes.some ?_)
   ·simp at h; omega
   ·simp; omega
  refine this.mono fun r hr => ?_
  subst hr
  refine Yes.bind ?_
  rw [s81 _ _ _ (by omega), s81 _ _ _ (by simp), s82 l _ (fun x => !ordOk x) (by omega) (fun x _ => s79 x)]
  by_cases h2 : m.Widths.length ≠ 0 ∧ m.Widths.all (btw 1 100) = true ∧ btw 0 20 m.Change = true ∧ l.all ordOk = true
  ·have hc : chkE m l = 0 := by rw [chkE, if_neg h1, if_pos h2]
   obtain ⟨a, b, c, d⟩ := h2
   have e3 : (((m.Widths).length : Int) == 0) = false := by rw [beq_eq_false_iff_ne]; omega
   have e4 : (l.any fun x => !ordOk x) = false := by rw [← any_not] at d; simpa using d
   rw [b, e3, e4]
   simp only [List.all_cons, List.all_nil, c, Bool.and_true]
   exact Yes.some (Yes.some (by simp [openR, hc]))
  ·have hc : chkE m l = 2 := by rw [chkE, if_neg h1, if_neg h2]
   have hgo : ∀ b : Bool, b = true → Yes (bif b then some ((⟨⟨[], 0⟩, []⟩ : LoomLoomMill), (2 : Int)) else some ((⟨m, l⟩ : LoomLoomMill), (0 : Int))) (fun r => r = openR m l) := fun b hb => by subst hb; exact Yes.some (by simp [openR, hc])
   by_cases h3 : m.Widths.length = 0
   ·have e3 : (((m.Widths).length : Int) == 0) = true := by simp [h3]
    rw [e3]
    exact Yes.some (Yes.some (by simp [openR, hc]))
   have e3 : (((m.Widths).length : Int) == 0) = false := by rw [beq_eq_false_iff_ne]; omega
   rw [e3]
   cases hb : m.Widths.all (btw 1 100) with
   | false => exact Yes.some (Yes.some (by simp [openR, hc]))
   | true =>
    cases hcc : btw 0 20 m.Change with
    | false => simp only [List.all_cons, List.all_nil, hcc, Bool.and_true]; exact Yes.some (Yes.some (by simp [openR, hc]))
    | true =>
     simp only [List.all_cons, List.all_nil, hcc, Bool.and_true]
     have hd : l.all ordOk = false := by
      cases hd : l.all ordOk with
      | false => rfl
      | true => exact absurd ⟨h3, hb, hcc, hd⟩ h2
     have e4 : (l.any fun x => !ordOk x) = true := by rw [← any_not] at hd; simpa using hd
     rw [e4]
     exact Yes.some (Yes.some (by simp [openR, hc]))
theorem idx_at {α : Type} {xs : List α} {i : Nat} (h : i < xs.length) : idx xs (i : Int) = some xs[i] := by unfold idx; rw [if_pos (Int.natCast_nonneg i)]; exact List.getElem?_eq_getElem h
end Go.Proofs.Ytnfjhdagbknlbaa
/- Loops as folds; Over. -/
set_option maxRecDepth 8000
namespace Go.Proofs.Ytnfjhdagbknlbaa
open Go.RowKit

theorem w64_succ {i : Nat} (h : i < 4611686018427387904) : w64 ((i : Int) + 1) = ((i + 1 : Nat) : Int) := by rw [w64_id (by omega) (by omega)]; omega
/-! ### The work that falls into some days -/
/-! ### Over -/
end Go.Proofs.Ytnfjhdagbknlbaa
set_option maxRecDepth 8000
namespace Go.Proofs.Ytnfjhdagbknlbaa
open Go.RowKit

end Go.Proofs.Ytnfjhdagbknlbaa
/- What holds of a list of runs: one run. -/
set_option maxRecDepth 8000
namespace Go.Proofs.Ytnfjhdagbknlbaa
open Go.RowKit

def od (l : List LoomOrder) (x : Int) : LoomOrder := (l[x.toNat]?).getD default
def wd (m : LoomMill) (x : Int) : Int := (m.Widths[x.toNat]?).getD 0
def rn (r : List LoomRun) (i : Nat) : LoomRun := (r[i]?).getD default
theorem idx_od {l : List LoomOrder} {x : Int} (h0 : 0 ≤ x) (h1 : x < l.length) : idx l x = some (od l x) := by
 unfold idx od; rw [if_pos h0, List.getElem?_eq_getElem (by omega)]; rfl
theorem idx_wd {m : LoomMill} {x : Int} (h0 : 0 ≤ x) (h1 : x < m.Widths.length) : idx m.Widths x = some (wd m x) := by
 unfold idx wd; rw [if_pos h0, List.getElem?_eq_getElem (by omega)]; rfl
theorem od_mem {l : List LoomOrder} {x : Int} (h0 : 0 ≤ x) (h1 : x < l.length) : od l x ∈ l := by
 unfold od; rw [List.getElem?_eq_getElem (by omega)]; exact List.getElem_mem _
def inR (m : LoomMill) (l : List LoomOrder) (x : LoomRun) : Prop := (0 ≤ x.Order ∧ x.Order < l.length) ∧ (0 ≤ x.Loom ∧ x.Loom < m.Widths.length) ∧ (0 ≤ x.From ∧ x.From ≤ 300)
instance (m : LoomMill) (l : List LoomOrder) (x : LoomRun) : Decidable (inR m l x) := inferInstanceAs (Decidable (_ ∧ _))
end Go.Proofs.Ytnfjhdagbknlbaa
