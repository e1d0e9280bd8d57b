import Derived.Test.YtnfjhdagbknlbaaLawB
set_option maxRecDepth 8000
namespace Go.Proofs.Ytnfjhdagbknlbaa
open Go.RowKit

end Go.Proofs.Ytnfjhdagbknlbaa
/- What holds of a list of runs: one run. -/
set_option maxRecDepth 8000
namespace Go.Proofs.Ytnfjhdagbknlbaa
open Go.RowKit

def od (l : List LoomOrder) (x : Int) : LoomOrder := (l[x.toNat]?).getD default
def wd (m : LoomMill) (x : Int) : Int := (m.Widths[x.toNat]?).getD 0
def rn (r : List LoomRun) (i : Nat) : LoomRun := (r[i]?).getD default
theorem idx_od {l : List LoomOrder} {x : Int} (h0 : 0 ≤ x) (h1 : x < l.length) : idx l x = some (od l x) := by
 unfold idx od; rw [if_pos h0, List.getElem?_eq_getElem (by omega)]; rfl
theorem idx_wd {m : LoomMill} {x : Int} (h0 : 0 ≤ x) (h1 : x < m.Widths.length) : idx m.Widths x = some (wd m x) := by
 unfold idx wd; rw [if_pos h0, List.getElem?_eq_getElem (by omega)]; rfl
theorem idx_rn {r : List LoomRun} {i : Nat} (h1 : i < r.length) : idx r (i : Int) = some (rn r i) := by
 unfold idx rn; rw [if_pos (by omega)]; simp [h1]
theorem od_mem {l : List LoomOrder} {x : Int} (h0 : 0 ≤ x) (h1 : x < l.length) : od l x ∈ l := by
 unfold od; rw [List.getElem?_eq_getElem (by omega)]; exact List.getElem_mem _
def inR (m : LoomMill) (l : List LoomOrder) (x : LoomRun) : Prop := (0 ≤ x.Order ∧ x.Order < l.length) ∧ (0 ≤ x.Loom ∧ x.Loom < m.Widths.length) ∧ (0 ≤ x.From ∧ x.From ≤ 300)
instance (m : LoomMill) (l : List LoomOrder) (x : LoomRun) : Decidable (inR m l x) := inferInstanceAs (Decidable (_ ∧ _))
def endR (l : List LoomOrder) (x : LoomRun) : Int := x.From + (od l x.Order).Woven
def oneE (m : LoomMill) (l : List LoomOrder) (r : List LoomRun) (i : Nat) : Int :=
 if ¬ inR m l (rn r i) then 7 else if 0 < i ∧ (rn r i).Order ≤ (rn r (i - 1)).Order then 4
 else if (od l (rn r i).Order).Width > wd m (rn r i).Loom then 2
 else if (rn r i).From < (od l (rn r i).Order).Early ∨ endR l (rn r i) > (od l (rn r i).Order).Late then 3 else 0
theorem btw_sub (x : Int) (n : Nat) (h : n < 4611686018427387904) : btw 0 (w64 ((n : Int) - 1)) x = decide (0 ≤ x ∧ x < n) := by
 unfold btw; rw [w64_id (by omega) (by omega), decide_eq_decide]; omega
theorem s73 {m : LoomMill} {l : List LoomOrder} (g : Good m l) {x : LoomRun} (hx : inR m l x) : f73 ⟨m, l⟩ x = some (endR l x) := by
 obtain ⟨⟨a1, a2⟩, _, c1, c2⟩ := hx
 have ho := g.o _ (od_mem a1 a2)
 unfold f73
 rw [idx_od a1 a2, Option.bind_some]
 have : w64 (x.From + (od l x.Order).Woven) = endR l x := w64_id (by omega) (by omega)
 rw [this]
theorem s93 {m : LoomMill} {l : List LoomOrder} (g : Good m l) {r : List LoomRun} {i : Nat} (hi : i < r.length) (hr : r.length < 4611686018427387904) : f93 ⟨m, l⟩ r (i : Int) = some (oneE m l r i) := by
 have hl7 := g.l7
 have hw3 := g.w3
 unfold f93
 rw [idx_rn hi, Option.bind_some]
 simp only [jn]
 rw [s81 _ _ _ (by simp), s81 _ _ _ (by simp), s71 _ (by simp)]
 simp only [List.all_cons, List.all_nil, Bool.and_true, Option.bind_some, btw_sub _ _ (show l.length < 4611686018427387904 by omega), btw_sub _ _ (show m.Widths.length < 4611686018427387904 by omega)]
 unfold oneE
 by_cases hin : inR m l (rn r i)
 ·have hh := hin
  obtain ⟨⟨a1, a2⟩, ⟨b1, b2⟩, c1, c2⟩ := hin
  have e1 : decide (0 ≤ (rn r i).Order ∧ (rn r i).Order < (l.length : Int)) = true := by simp [a1, a2]
  have e2 : decide (0 ≤ (rn r i).Loom ∧ (rn r i).Loom < (m.Widths.length : Int)) = true := by simp [b1, b2]
  have e3 : btw 0 300 (rn r i).From = true := by simp [btw, c1, c2]
  simp only [e1, e2, e3, Bool.not_true, cond_false, Option.bind_some, idx_od a1 a2, idx_wd b1 b2, s73 g hh]
  rw [if_neg (fun h => h hh)]
  have hp : (bif decide ((i : Int) > 0) then (idx r (w64 ((i : Int) - 1))).bind fun y => some (decide ((rn r i).Order ≤ y.Order)) else some false) = some (decide (0 < i ∧ (rn r i).Order ≤ (rn r (i - 1)).Order)) := by
   by_cases h0 : 0 < i
   ·have : decide ((i : Int) > 0) = true := by simp; omega
    rw [this, w64_id (by omega) (by omega), show (i : Int) - 1 = ((i - 1 : Nat) : Int) by omega, idx_rn (by omega)]
    simp [h0]
   ·have : decide ((i : Int) > 0) = false := by simp; omega
    rw [this]; simp [h0]
  rw [hp, Option.bind_some]
  by_cases hq : 0 < i ∧ (rn r i).Order ≤ (rn r (i - 1)).Order
  ·simp [hq]
  ·rw [if_neg hq, decide_eq_false hq, cond_false]
   by_cases hw : (od l (rn r i).Order).Width > wd m (rn r i).Loom
   ·simp [hw]
   ·rw [if_neg hw, decide_eq_false hw, cond_false]
    by_cases he : (rn r i).From < (od l (rn r i).Order).Early <;> by_cases hz : endR l (rn r i) > (od l (rn r i).Order).Late <;> simp [he, hz]
 ·rw [if_pos hin]
  by_cases e1 : 0 ≤ (rn r i).Order ∧ (rn r i).Order < (l.length : Int)
  ·by_cases e2 : 0 ≤ (rn r i).Loom ∧ (rn r i).Loom < (m.Widths.length : Int)
   ·have e3 : btw 0 300 (rn r i).From = false := by
     unfold btw; rw [decide_eq_false]; exact fun h => hin ⟨e1, e2, h⟩
    simp [e1, e2, e3]
   ·simp [e1, e2]
  ·simp [e1]
end Go.Proofs.Ytnfjhdagbknlbaa
