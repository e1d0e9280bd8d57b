/- What the document's examples say of faults and of marks. -/
import Derived.Test.YtdkgoipaohacgaaCodes
import Derived.Test.YtdkgoipaohacgaaYes
set_option maxRecDepth 8000
namespace Go.Proofs.Ytdkgoipaohacgaa
open Go.RowKit
theorem arm_fault_ok : f20 = some true := by kernel_rfl
theorem arm_seam_ok : f24 = some true := by kernel_rfl
end Go.Proofs.Ytdkgoipaohacgaa
