/- makeSlice. No program is named here. -/
import Derived.Test.YtpiaipiehjcflaaNest
import Derived.Laws.MakeOwn
namespace Go.Proofs.Ytpiaipiehjcflaa
open Go.RowKit

/-- What makeSlice makes: n times the zero value; nothing is said of more than 2^24 elements. -/
def mks {α : Type} (bytes : Nat) (x0 : α) (n : Int) : Option (List α) :=
  if 0 ≤ n ∧ n ≤ 16777216 ∧ (bytes : Int) * n ≤ 281474976710656 then some (List.replicate n.toNat x0) else none
section
variable {P : Program} {e : Env} {w : World} {g : Gh} {K : Value → World → Prop} {x y z : Operand}
end
theorem up_ex {SR : StepRel} {β : Type} {A : β → Fact} (h : ∀ b, Up SR (A b)) : Up SR (fun g w => ∃ b, A b g w) := fun g w g' w' hx ⟨b, hb⟩ => ⟨b, h b g w g' w' hx hb⟩
end Go.Proofs.Ytpiaipiehjcflaa
