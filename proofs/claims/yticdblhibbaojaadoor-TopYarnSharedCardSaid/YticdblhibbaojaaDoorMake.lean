/- makeSlice. No program is named here. -/
import Derived.Test.YticdblhibbaojaaDoorNest
import Derived.Laws.MakeOwn
namespace Go.Proofs.YticdblhibbaojaaDoor
open Go.RowKit

def mks {α : Type} (bytes : Nat) (x0 : α) (n : Int) : Option (List α) :=
 if 0 ≤ n ∧ n ≤ 16777216 ∧ (bytes : Int) * n ≤ 281474976710656 then some (List.replicate n.toNat x0) else none
theorem flat_rep {α : Type} [GoT α] {m : Nat → Nat} {w : World} {x : α} {z : Value} (h : GoT.rep m w x [z]) : ∀ n : Nat, FlatR m w (List.replicate n x) (List.replicate n z)
 | 0 => rfl
 | n + 1 => ⟨[z], List.replicate n z, rfl, h, flat_rep h n⟩
section
variable {P : Program} {e : Env} {w : World} {g : Gh} {K : Value → World → Prop} {x y z : Operand}
end
theorem up_ex {SR : StepRel} {β : Type} {A : β → Fact} (h : ∀ b, Up SR (A b)) : Up SR (fun g w => ∃ b, A b g w) := fun g w g' w' hx ⟨b, hb⟩ => ⟨b, h b g w g' w' hx hb⟩
end Go.Proofs.YticdblhibbaojaaDoor
