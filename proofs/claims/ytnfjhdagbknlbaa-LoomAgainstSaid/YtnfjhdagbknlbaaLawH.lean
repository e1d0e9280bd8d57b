import Derived.Test.YtnfjhdagbknlbaaLawB
set_option maxRecDepth 8000
namespace Go.Proofs.Ytnfjhdagbknlbaa
open Go.RowKit

end Go.Proofs.Ytnfjhdagbknlbaa
/- What holds of a list of runs: one run. -/
set_option maxRecDepth 8000
namespace Go.Proofs.Ytnfjhdagbknlbaa
open Go.RowKit

def od (l : List LoomOrder) (x : Int) : LoomOrder := (l[x.toNat]?).getD default
def wd (m : LoomMill) (x : Int) : Int := (m.Widths[x.toNat]?).getD 0
def rn (r : List LoomRun) (i : Nat) : LoomRun := (r[i]?).getD default
theorem idx_od {l : List LoomOrder} {x : Int} (h0 : 0 ≤ x) (h1 : x < l.length) : idx l x = some (od l x) := by
 unfold idx od; rw [if_pos h0, List.getElem?_eq_getElem (by omega)]; rfl
theorem idx_wd {m : LoomMill} {x : Int} (h0 : 0 ≤ x) (h1 : x < m.Widths.length) : idx m.Widths x = some (wd m x) := by
 unfold idx wd; rw [if_pos h0, List.getElem?_eq_getElem (by omega)]; rfl
theorem od_mem {l : List LoomOrder} {x : Int} (h0 : 0 ≤ x) (h1 : x < l.length) : od l x ∈ l := by
 unfold od; rw [List.getElem?_eq_getElem (by omega)]; exact List.getElem_mem _
def inR (m : LoomMill) (l : List LoomOrder) (x : LoomRun) : Prop := (0 ≤ x.Order ∧ x.Order < l.length) ∧ (0 ≤ x.Loom ∧ x.Loom < m.Widths.length) ∧ (0 ≤ x.From ∧ x.From ≤ 300)
instance (m : LoomMill) (l : List LoomOrder) (x : LoomRun) : Decidable (inR m l x) := inferInstanceAs (Decidable (_ ∧ _))
end Go.Proofs.Ytnfjhdagbknlbaa
