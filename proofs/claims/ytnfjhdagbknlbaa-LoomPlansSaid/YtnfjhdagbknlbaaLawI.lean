/- A loom's row: its runs, by their first days. -/
import Derived.Test.YtnfjhdagbknlbaaLawH
import Derived.Test.YtnfjhdagbknlbaaSortS
set_option maxRecDepth 8000
namespace Go.Proofs.Ytnfjhdagbknlbaa
open Go.RowKit

/-- A loop that stops at the first number of its kind. -/
theorem first_loop {β : Type} {Q : β → Prop} {body : (Int → Option β) → Int → Option β} (n : Nat) (hn : n < 9223372036854775807) (p : Nat → Bool) (out : Nat → Option β)
    (hb : ∀ k i, i < n → body k (i : Int) = bif p i then out i else k (w64 ((i : Int) + 1)))
    (h1 : (List.range n).find? p = none → ∀ k, Yes (body k (n : Int)) Q) (h2 : ∀ i, i < n → (List.range n).find? p = some i → p i = true → Yes (out i) Q) : Yes (lp body big (0 : Int)) Q := by
  refine Yes.upto0 n hn (fun i => ∀ j, j < i → p j = false) (fun j h => absurd h (Nat.not_lt_zero _)) (fun i k hi hI hk => ?_) (fun k hI => ?_)
  · rw [hb k i hi]
    cases hp : p i with
    | true => exact h2 i hi (List.find?_range_eq_some.2 ⟨hp, List.mem_range.2 hi, fun j hj => by simp [hI j hj]⟩) hp
    | false =>
      refine hk fun j hj => ?_
      rcases Nat.lt_succ_iff_lt_or_eq.1 hj with h | rfl
      · exact hI j h
      · exact hp
  · exact h1 (List.find?_eq_none.2 fun x hx => by simp [hI x (List.mem_range.1 hx)]) k
/-- Before, by the first day and then by the order. -/
def bef (x y : LoomRun) : Prop := x.From < y.From ∨ x.From = y.From ∧ x.Order < y.Order
instance (x y : LoomRun) : Decidable (bef x y) := inferInstanceAs (Decidable (_ ∨ _))
theorem s76 (x y : LoomRun) : f76 x y = some (decide (bef x y)) := by
  unfold f76 bef
  by_cases h1 : x.From < y.From
  · simp [h1]
  · by_cases h2 : x.From = y.From
    · have : (x.From == y.From) = true := by simp [h2]
      simp [h1, h2, this]
    · have : (x.From == y.From) = false := by simp [h2]
      simp [h1, h2, this]
/-- The runs are sound: each lies in the mill, and the orders grow. -/
structure Runs (m : LoomMill) (l : List LoomOrder) (r : List LoomRun) : Prop where
  r7 : r.length ≤ 7
  inR : ∀ i, i < r.length → inR m l (rn r i)
  up : ∀ i j, i < j → j < r.length → (rn r i).Order < (rn r j).Order
end Go.Proofs.Ytnfjhdagbknlbaa
