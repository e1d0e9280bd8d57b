/- FaultTells as a plain function: it returns true. -/
import Derived.Test.YtpiaipiehjcflaaLawI
import Derived.Test.YtpiaipiehjcflaaCodes
set_option maxRecDepth 8000
namespace Go.Proofs.Ytpiaipiehjcflaa
open Go.RowKit

theorem known_ok : f15 = some true := by kernel_rfl
theorem s14 (l : FaultLoom) : f14 l = some (decide (l.Harness.Warps.length > 110) || decide (l.Design.Rows.length > 70)) := by
  unfold f14
  by_cases h : l.Harness.Warps.length > 110
  · have : decide ((l.Harness.Warps.length : Int) > 110) = true := by simp; omega
    simp [this, h]
  · have : decide ((l.Harness.Warps.length : Int) > 110) = false := by simp; omega
    by_cases h2 : l.Design.Rows.length > 70 <;> simp [this, h] <;> omega
end Go.Proofs.Ytpiaipiehjcflaa
