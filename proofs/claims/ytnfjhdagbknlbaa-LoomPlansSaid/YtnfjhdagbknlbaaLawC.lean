/- Loops as folds; Over. -/
import Derived.Test.YtnfjhdagbknlbaaLawA
set_option maxRecDepth 8000
namespace Go.Proofs.Ytnfjhdagbknlbaa
open Go.RowKit

theorem w64_succ {i : Nat} (h : i < 4611686018427387904) : w64 ((i : Int) + 1) = ((i + 1 : Nat) : Int) := by rw [w64_id (by omega) (by omega)]; omega
/-! ### The work that falls into some days -/
/-! ### Over -/
end Go.Proofs.Ytnfjhdagbknlbaa
set_option maxRecDepth 8000
namespace Go.Proofs.Ytnfjhdagbknlbaa
open Go.RowKit

end Go.Proofs.Ytnfjhdagbknlbaa
