/- What the document's examples say, is so. -/
import Derived.Test.YtnfjhdagbknlbaaCodes
set_option maxRecDepth 100000
namespace Go.Proofs.Ytnfjhdagbknlbaa
open Go.RowKit
theorem known_ok : f14 = some true := by kernel_rfl
end Go.Proofs.Ytnfjhdagbknlbaa
