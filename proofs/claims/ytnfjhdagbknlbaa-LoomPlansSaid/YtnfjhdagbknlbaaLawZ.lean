/- The fewest numbers of a set for which something is so. -/
import Derived.Test.YtnfjhdagbknlbaaLawY
set_option maxRecDepth 8000
namespace Go.Proofs.Ytnfjhdagbknlbaa
open Go.RowKit
open Classical

/-! ### The best set -/
end Go.Proofs.Ytnfjhdagbknlbaa
