import Derived.Test.YtnfjhdagbknlbaaLawB
set_option maxRecDepth 8000
namespace Go.Proofs.Ytnfjhdagbknlbaa
open Go.RowKit

end Go.Proofs.Ytnfjhdagbknlbaa
