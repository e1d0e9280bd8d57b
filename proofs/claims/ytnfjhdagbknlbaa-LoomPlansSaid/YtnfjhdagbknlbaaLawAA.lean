/- Against, Left, Fewest: the two programs agree. -/
import Derived.Test.YtnfjhdagbknlbaaLawZ
import Derived.Test.YtnfjhdagbknlbaaKnown
set_option maxRecDepth 8000
namespace Go.Proofs.Ytnfjhdagbknlbaa
open Go.RowKit
open Classical

/-- No run is given. -/
def ng : Nat → Option LoomRun := fun _ => none
theorem days_ng : Days ng := fun _ _ h => by cases h
def allL (m : LoomMill) : List Int := nums (2 ^ m.Widths.length - 1)
/-! ### The program -/
theorem all_ok (m : LoomMill) (hw : m.Widths.length ≤ 7) : ∀ x ∈ allL m, 0 ≤ x ∧ x < m.Widths.length := fun x hx => by
  obtain ⟨k, rfl, _, h⟩ := nums_nn hx
  rw [all_bit] at h
  have := of_decide_eq_true h
  omega
theorem s51a {m : LoomMill} {l : List LoomOrder} (g : Good m l) : f51 ⟨m, l⟩ (allL m) [] = some (bl l.length (TogP m l ng (allL m))) := s51 g (f := []) days_ng (nums_nodup _) (all_ok m (by have := g.w3; omega))
end Go.Proofs.Ytnfjhdagbknlbaa
