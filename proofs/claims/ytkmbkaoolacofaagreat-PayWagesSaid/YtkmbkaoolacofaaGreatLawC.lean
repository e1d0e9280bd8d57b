/- Plain laws: price lists and pieces out of numbers; fines. -/
import Derived.Test.YtkmbkaoolacofaaGreatLawB
set_option maxRecDepth 8000
namespace Go.Proofs.YtkmbkaoolacofaaGreat
open Go.RowKit
open Classical

structure Part1 (n : Nat) (fine cap from_ : Int) (l : PayList) : Prop where
 ok : okRates l.Rates
 len : l.Rates.length = n
 ex : l.Extras = []
 fine : l.Fine = fine
 cap : l.Cap = cap
 z : n = 0 → from_ = 0
 p : ∀ h : 0 < l.Rates.length, from_ = (l.Rates[l.Rates.length - 1]'(by omega)).From
 b : 0 ≤ from_ ∧ from_ ≤ 150 * n
theorem known_ok : f12 = some true := by unfold f12; rfl
end Go.Proofs.YtkmbkaoolacofaaGreat
