/- Appends of own rows to an own slice of slices. No program is named here. -/
import Derived.Test.YtkfdjkkbnfohjaaDoorCh
namespace Go.Proofs.YtkfdjkkbnfohjaaDoor
open Go.RowKit
section
variable {γ : Type} [GoT γ] {E : Ow γ} {P : Program} {m : Nat → Nat} {w : World} {g : Gh} {e : Env} {K : Value → World → Prop} {x y : Operand}
end
end Go.Proofs.YtkfdjkkbnfohjaaDoor
