import Derived.Test.YtnfjhdagbknlbaaCode5
set_option maxRecDepth 8000
set_option maxHeartbeats 4000000
namespace Go.Proofs.Ytnfjhdagbknlbaa
open Go.RowKit
end Go.Proofs.Ytnfjhdagbknlbaa
