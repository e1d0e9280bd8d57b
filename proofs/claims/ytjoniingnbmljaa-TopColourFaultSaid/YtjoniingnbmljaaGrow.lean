/- slices.Grow of nil: an own slice of nothing, with room. No program is named here. -/
import Derived.Test.YtjoniingnbmljaaShort
import Derived.Lib.AppendZerosOnto
namespace Go.Proofs.Ytjoniingnbmljaa
open Go.RowKit Go.Lib

section
variable {P:Program} {e:Env} {w:World} {g:Gh} {K:Value→World→Prop} {x y z:Operand}
end
section
variable {P:Program} {N:Nat} {w:World} {g:Gh}
end
end Go.Proofs.Ytjoniingnbmljaa
