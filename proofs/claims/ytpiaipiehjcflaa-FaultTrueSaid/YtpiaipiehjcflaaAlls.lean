/- FaultAlls as a plain function: it returns true. -/
import Derived.Test.YtpiaipiehjcflaaLawK
import Derived.Test.YtpiaipiehjcflaaTells
set_option maxRecDepth 8000
namespace Go.Proofs.Ytpiaipiehjcflaa
open Go.RowKit

end Go.Proofs.Ytpiaipiehjcflaa
