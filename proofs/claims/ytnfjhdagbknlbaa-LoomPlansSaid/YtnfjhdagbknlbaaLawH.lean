/- What holds of a list of runs: one run. -/
import Derived.Test.YtnfjhdagbknlbaaLawC
set_option maxRecDepth 8000
namespace Go.Proofs.Ytnfjhdagbknlbaa
open Go.RowKit

def od (l : List LoomOrder) (x : Int) : LoomOrder := (l[x.toNat]?).getD default
def wd (m : LoomMill) (x : Int) : Int := (m.Widths[x.toNat]?).getD 0
def rn (r : List LoomRun) (i : Nat) : LoomRun := (r[i]?).getD default
theorem idx_od {l : List LoomOrder} {x : Int} (h0 : 0 ≤ x) (h1 : x < l.length) : idx l x = some (od l x) := by
  unfold idx od; rw [if_pos h0, List.getElem?_eq_getElem (by omega)]; rfl
theorem idx_wd {m : LoomMill} {x : Int} (h0 : 0 ≤ x) (h1 : x < m.Widths.length) : idx m.Widths x = some (wd m x) := by
  unfold idx wd; rw [if_pos h0, List.getElem?_eq_getElem (by omega)]; rfl
theorem idx_rn {r : List LoomRun} {i : Nat} (h1 : i < r.length) : idx r (i : Int) = some (rn r i) := by
  unfold idx rn; rw [if_pos (by omega)]; simp [h1]
theorem od_mem {l : List LoomOrder} {x : Int} (h0 : 0 ≤ x) (h1 : x < l.length) : od l x ∈ l := by
  unfold od; rw [List.getElem?_eq_getElem (by omega)]; exact List.getElem_mem _
/-- The run's order, loom and first day are such. -/
def inR (m : LoomMill) (l : List LoomOrder) (x : LoomRun) : Prop := (0 ≤ x.Order ∧ x.Order < l.length) ∧ (0 ≤ x.Loom ∧ x.Loom < m.Widths.length) ∧ (0 ≤ x.From ∧ x.From ≤ 300)
instance (m : LoomMill) (l : List LoomOrder) (x : LoomRun) : Decidable (inR m l x) := inferInstanceAs (Decidable (_ ∧ _))
/-- The run behind its order's last thread. -/
def endR (l : List LoomOrder) (x : LoomRun) : Int := x.From + (od l x.Order).Woven
/-- What is wrong with one run. -/
def oneE (m : LoomMill) (l : List LoomOrder) (r : List LoomRun) (i : Nat) : Int :=
  if ¬ inR m l (rn r i) then 7 else if 0 < i ∧ (rn r i).Order ≤ (rn r (i - 1)).Order then 4
  else if (od l (rn r i).Order).Width > wd m (rn r i).Loom then 2
  else if (rn r i).From < (od l (rn r i).Order).Early ∨ endR l (rn r i) > (od l (rn r i).Order).Late then 3 else 0
theorem btw_sub (x : Int) (n : Nat) (h : n < 4611686018427387904) : btw 0 (w64 ((n : Int) - 1)) x = decide (0 ≤ x ∧ x < n) := by
  unfold btw; rw [w64_id (by omega) (by omega), decide_eq_decide]; omega
end Go.Proofs.Ytnfjhdagbknlbaa
