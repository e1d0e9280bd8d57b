/- The reference: one order after another, in all ways. -/
import Derived.Test.YtnfjhdagbknlbaaLawX
set_option maxRecDepth 8000
namespace Go.Proofs.Ytnfjhdagbknlbaa
open Go.RowKit
open Classical

def eAt (e : List End) (k : Nat) : End := (e[k]?).getD default
structure EndOk (m : LoomMill) (e : List End) : Prop where
 n : e.length = m.Widths.length
 r : ∀ k, k < e.length → 0 ≤ (eAt e k).Ready ∧ (eAt e k).Ready ≤ 1000
end Go.Proofs.Ytnfjhdagbknlbaa
