/- FaultApart as a plain function: it returns true. -/
import Derived.Test.YtpiaipiehjcflaaLawM
import Derived.Test.YtpiaipiehjcflaaTells
set_option maxRecDepth 8000
namespace Go.Proofs.Ytpiaipiehjcflaa
open Go.RowKit

theorem s17 (ds : List FaultDamage) (h : ds.length ≤ 1000000) : f17 ds = some ds := Yes.eq (Yes.bind (Yes.apnd (by simp; omega) (by simp; omega) (Yes.some (by simp))))
end Go.Proofs.Ytpiaipiehjcflaa
