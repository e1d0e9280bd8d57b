/- FaultTells as a plain function: it returns true. -/
import Derived.Test.YtpiaipiehjcflaaLawI
import Derived.Test.YtpiaipiehjcflaaCodes
set_option maxRecDepth 8000
namespace Go.Proofs.Ytpiaipiehjcflaa
open Go.RowKit

theorem known_ok : f15 = some true := by kernel_rfl
theorem s14 (l : FaultLoom) : f14 l = some (decide (l.Harness.Warps.length > 110) || decide (l.Design.Rows.length > 70)) := by
  unfold f14
  by_cases h : l.Harness.Warps.length > 110
  · have : decide ((l.Harness.Warps.length : Int) > 110) = true := by simp; omega
    simp [this, h]
  · have : decide ((l.Harness.Warps.length : Int) > 110) = false := by simp; omega
    by_cases h2 : l.Design.Rows.length > 70 <;> simp [this, h] <;> omega
theorem chk_good {l : FaultLoom} {ds : List FaultDamage} (h : chkE l ds = 0) : Good l ∧ ds.length ≤ 100 ∧ ∀ d ∈ ds, dmg l d = true := by
  unfold chkE at h
  split at h
  · rename_i h1; exact absurd h h1
  rename_i h1
  have h1 := Decidable.not_not.1 h1
  split at h
  · cases h
  split at h
  · rename_i h2 h3; exact ⟨good_of h1, by omega, List.all_eq_true.1 h3⟩
  · cases h
end Go.Proofs.Ytpiaipiehjcflaa
