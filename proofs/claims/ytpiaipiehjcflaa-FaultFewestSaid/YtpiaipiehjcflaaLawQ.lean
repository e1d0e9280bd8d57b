/- Plain laws: where a cloth is wrong. -/
import Derived.Test.YtpiaipiehjcflaaDoes
set_option maxRecDepth 8000
namespace Go.Proofs.Ytpiaipiehjcflaa
open Go.RowKit

end Go.Proofs.Ytpiaipiehjcflaa
