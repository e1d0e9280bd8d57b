/- What the document's examples say of faults and of orders. -/
import Derived.Test.YtomjodbnpgbjnaaGreatCodes
import Derived.Test.YtomjodbnpgbjnaaGreatYes
set_option maxRecDepth 8000
namespace Go.Proofs.YtomjodbnpgbjnaaGreat
open Go.RowKit
theorem pub_fault_ok:f12=some true:=by kernel_rfl
theorem pub_shop_ok:f13=some true:=by kernel_rfl
end Go.Proofs.YtomjodbnpgbjnaaGreat
