/- Appends to own slices in regions that draw their order. No program is named here. -/
import Derived.Test.YtlmibfohllgmeaaGrow
namespace Go.Proofs.Ytlmibfohllgmeaa
open Go.RowKit

section
variable {α : Type} [GoT α] {i : Nat} {et : TypeId} {xs r : List α} {u : Value} {g g' : Gh} {w w' : World}
variable {P : Program} {N : Nat}
end
end Go.Proofs.Ytlmibfohllgmeaa
