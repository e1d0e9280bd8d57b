/- What the document's examples say of boxes and of faults. -/
import Derived.Test.YtjoniingnbmljaaCodes
import Derived.Test.YtjoniingnbmljaaYes
set_option maxRecDepth 8000
namespace Go.Proofs.Ytjoniingnbmljaa
open Go.RowKit
theorem arm_box_ok:f16=some true:=by kernel_rfl
theorem arm_fault_ok:f17=some true:=by kernel_rfl
end Go.Proofs.Ytjoniingnbmljaa
