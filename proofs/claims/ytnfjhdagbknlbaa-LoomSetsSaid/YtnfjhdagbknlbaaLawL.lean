/- What holds of a list of runs: the two programs agree. -/
import Derived.Test.YtnfjhdagbknlbaaLawK
import Derived.Test.YtnfjhdagbknlbaaKnown
set_option maxRecDepth 8000
namespace Go.Proofs.Ytnfjhdagbknlbaa
open Go.RowKit
open Classical

end Go.Proofs.Ytnfjhdagbknlbaa
