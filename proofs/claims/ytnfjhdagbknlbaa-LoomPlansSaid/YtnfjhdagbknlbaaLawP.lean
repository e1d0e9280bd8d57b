/- A loom that stands still: errors, and which runs it stops. -/
import Derived.Test.YtnfjhdagbknlbaaLawL
set_option maxRecDepth 8000
namespace Go.Proofs.Ytnfjhdagbknlbaa
open Go.RowKit
open Classical

/-- The run lies in the mill, on whatever day. -/
def inB (m : LoomMill) (l : List LoomOrder) (x : LoomRun) : Prop := (0 ≤ x.Order ∧ x.Order < l.length) ∧ (0 ≤ x.Loom ∧ x.Loom < m.Widths.length) ∧ (0 ≤ x.From ∧ x.From ≤ 1000000)
theorem inR.b {m : LoomMill} {l : List LoomOrder} {x : LoomRun} (h : inR m l x) : inB m l x := ⟨h.1, h.2.1, h.2.2.1, by have := h.2.2.2; omega⟩
end Go.Proofs.Ytnfjhdagbknlbaa
