/- Variables that a draw makes and stores to, several of them. No program is named here. -/
import Derived.Test.YtlmibfohllgmeaaCt
namespace Go.Proofs.Ytlmibfohllgmeaa
open Go.RowKit
structure Vd where
 tag : Nat
 A0 : Value → Qo
 A1 : Value → Qo
 e0 : ∀ {v g w g' w'}, Ext g w g' w' → A0 v g w → A0 v g' w'
 e1 : ∀ {v g w g' w'}, Ext g w g' w' → A1 v g w → A1 v g' w'
 s0 : ∀ {v k g w g' w'}, tag ≠ k → Stp k g w g' w' → A0 v g w → A0 v g' w'
 s1 : ∀ {v k g w g' w'}, tag ≠ k → Stp k g w g' w' → A1 v g w → A1 v g' w'
section
variable {n0 : Nat} {vs : List Vd} {g g' : Gh} {w w' : World}
variable {β : Type} [GoT β]
variable {P : Program} {N : Nat} {e : Env}
end
section
variable {α : Type} [GoT α] {i : Nat} {g g1 : Gh} {w w' : World} {t : TypeId} {xs : List α} {v : Value}
end
end Go.Proofs.Ytlmibfohllgmeaa
