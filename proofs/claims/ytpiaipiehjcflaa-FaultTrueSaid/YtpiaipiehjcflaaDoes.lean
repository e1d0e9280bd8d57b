/- FaultDoes as a plain function: it returns true. -/
import Derived.Test.YtpiaipiehjcflaaLawP
set_option maxRecDepth 8000
namespace Go.Proofs.Ytpiaipiehjcflaa
open Go.RowKit

theorem cthN_len (l : FaultLoom) (ds : List FaultDamage) (k : Nat) : (cthN l ds k).length = k := by unfold cthN; rw [cloth_len]
end Go.Proofs.Ytpiaipiehjcflaa
