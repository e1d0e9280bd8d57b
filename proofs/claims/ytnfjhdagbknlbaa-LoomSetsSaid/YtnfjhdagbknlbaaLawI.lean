/- A loom's row: its runs, by their first days. -/
import Derived.Test.YtnfjhdagbknlbaaLawH
import Derived.Test.YtnfjhdagbknlbaaSortS
set_option maxRecDepth 8000
namespace Go.Proofs.Ytnfjhdagbknlbaa
open Go.RowKit

/-- Before, by the first day and then by the order. -/
def bef (x y : LoomRun) : Prop := x.From < y.From ∨ x.From = y.From ∧ x.Order < y.Order
instance (x y : LoomRun) : Decidable (bef x y) := inferInstanceAs (Decidable (_ ∨ _))
/-- The runs are sound: each lies in the mill, and the orders grow. -/
structure Runs (m : LoomMill) (l : List LoomOrder) (r : List LoomRun) : Prop where
  r7 : r.length ≤ 7
  inR : ∀ i, i < r.length → inR m l (rn r i)
  up : ∀ i j, i < j → j < r.length → (rn r i).Order < (rn r j).Order
theorem s90 (x y : Int) : f90 x y = some (if x < y then -1 else if x > y then 1 else 0) := by
  unfold f90 f102
  by_cases h1 : x < y <;> by_cases h2 : x > y <;> simp [jn, h1, h2]
end Go.Proofs.Ytnfjhdagbknlbaa
