/- Plain laws: the reference's All. -/
import Derived.Test.YtpiaipiehjcflaaLawJ
import Derived.Test.YtpiaipiehjcflaaTells
set_option maxRecDepth 8000
namespace Go.Proofs.Ytpiaipiehjcflaa
open Go.RowKit

end Go.Proofs.Ytpiaipiehjcflaa
/- FaultAlls as a plain function: it returns true. -/
set_option maxRecDepth 8000
namespace Go.Proofs.Ytpiaipiehjcflaa
open Go.RowKit

end Go.Proofs.Ytpiaipiehjcflaa
