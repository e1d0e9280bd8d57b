/- The examples, by the kernel. -/
import Derived.Test.YtcjpochjapnoaaaGreatCodes
set_option maxRecDepth 100000
namespace Go.Proofs.YtcjpochjapnoaaaGreat
open Go.RowKit
theorem pubFault_ok : f13 = some true := by kernel_rfl
theorem pubPay_ok : f14 = some true := by kernel_rfl
end Go.Proofs.YtcjpochjapnoaaaGreat
