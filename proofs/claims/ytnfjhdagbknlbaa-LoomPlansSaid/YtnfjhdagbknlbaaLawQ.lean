/- Which runs a stop meets: the two programs agree. -/
import Derived.Test.YtnfjhdagbknlbaaLawP
set_option maxRecDepth 8000
namespace Go.Proofs.Ytnfjhdagbknlbaa
open Go.RowKit
open Classical

theorem apnd1 {b : Nat} {xs : List Int} {y : Int} (hb : b = 8) (h : xs.length ≤ 1000) : apnd b xs [y] = some (xs ++ [y]) := by
  subst hb
  exact Yes.eq (Yes.apnd (by simp; omega) (by simp; omega) rfl)
end Go.Proofs.Ytnfjhdagbknlbaa
