/- Plain laws: the reference's All. -/
import Derived.Test.YtpiaipiehjcflaaLawJ
set_option maxRecDepth 8000
namespace Go.Proofs.Ytpiaipiehjcflaa
open Go.RowKit

end Go.Proofs.Ytpiaipiehjcflaa
