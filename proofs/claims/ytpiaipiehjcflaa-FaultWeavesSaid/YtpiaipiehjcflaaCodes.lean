import Derived.Test.YtpiaipiehjcflaaCode5
set_option maxRecDepth 8000
set_option maxHeartbeats 4000000
namespace Go.Proofs.Ytpiaipiehjcflaa
open Go.RowKit
end Go.Proofs.Ytpiaipiehjcflaa
set_option maxRecDepth 8000
set_option maxHeartbeats 4000000
namespace Go.Proofs.Ytpiaipiehjcflaa
open Go.RowKit
end Go.Proofs.Ytpiaipiehjcflaa
/- All functions of this text. -/
