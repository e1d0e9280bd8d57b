/- FaultDoes as a plain function: it returns true. -/
import Derived.Test.YtpiaipiehjcflaaLawP
set_option maxRecDepth 8000
namespace Go.Proofs.Ytpiaipiehjcflaa
open Go.RowKit

def trn (k : Int) : Int := if k = 2 then 1 else if k = 5 then 2 else 0
theorem s80 (k : Int) : f80 k = some (trn k) := by
  unfold f80 trn jn
  by_cases h2 : k = 2
  · simp [h2]
  · by_cases h5 : k = 5
    · simp [h5]
    · have e2 : (k == (2 : Int)) = false := by simpa using h2
      have e5 : (k == (5 : Int)) = false := by simpa using h5
      simp only [e2, e5, cond_false, if_neg h2, if_neg h5]
theorem trn_range (k : Int) : 0 ≤ trn k ∧ trn k ≤ 2 := by unfold trn; split <;> (try split) <;> omega
theorem s79 (a b : FaultDamage) : f79 a b = some (trn a.Kind - trn b.Kind) := by
  unfold f79
  rw [s80, s80]
  have := trn_range a.Kind; have := trn_range b.Kind
  simp only [Option.bind_some]
  rw [w64_id (by omega) (by omega)]
end Go.Proofs.Ytpiaipiehjcflaa
