/- Appends to own slices in regions that draw their order. No program is named here. -/
import Derived.Test.YticdblhibbaojaaDoorGrow
namespace Go.Proofs.YticdblhibbaojaaDoor
open Go.RowKit

theorem FlatR.pre {α : Type} [GoT α] {m : Nat → Nat} {w : World} : ∀ {xs ys : List α} {cs : List Value}, FlatR m w (xs ++ ys) cs → FlatR m w xs (cs.take (xs.length * GoT.k α))
 | [], _, _, _ => by simp [FlatR]
 | x :: xs, ys, _, ⟨c1, c2, rfl, h1, h2⟩ => by
  have hl := GoT.len h1
  refine ⟨c1, c2.take (xs.length * GoT.k α), ?_, h1, FlatR.pre h2⟩
  rw [List.length_cons, Nat.add_mul, Nat.one_mul, List.take_append, List.take_of_length_le (by omega), hl]
  congr 2; omega
section
variable {α : Type} [GoT α] {i : Nat} {et : TypeId} {xs r : List α} {u : Value} {g g' : Gh} {w w' : World}
variable {P : Program} {N : Nat}
end
end Go.Proofs.YticdblhibbaojaaDoor
