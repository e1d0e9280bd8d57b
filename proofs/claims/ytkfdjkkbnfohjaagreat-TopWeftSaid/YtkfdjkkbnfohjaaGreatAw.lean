/- Appends of own rows to an own slice of slices. No program is named here. -/
import Derived.Test.YtkfdjkkbnfohjaaGreatCh
namespace Go.Proofs.YtkfdjkkbnfohjaaGreat
open Go.RowKit
section
variable {γ:Type} [GoT γ] {E:Ow γ} {P:Program} {m:Nat→Nat} {w:World} {g:Gh} {e:Env} {K:Value→World→Prop} {x y:Operand}
end
end Go.Proofs.YtkfdjkkbnfohjaaGreat
