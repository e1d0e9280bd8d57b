/- A run that begins too soon behind the one before it on its loom: the two programs agree. -/
import Derived.Test.YtnfjhdagbknlbaaLawI
set_option maxRecDepth 8000
namespace Go.Proofs.Ytnfjhdagbknlbaa
open Go.RowKit
open Classical

theorem Runs.ne {m : LoomMill} {l : List LoomOrder} {r : List LoomRun} (R : Runs m l r) {i j : Nat} (hi : i < r.length) (hj : j < r.length) (h : i ≠ j) : (rn r i).Order ≠ (rn r j).Order := by
  rcases Nat.lt_or_gt_of_ne h with h | h
  · have := R.up i j h hj; omega
  · have := R.up j i h hi; omega
theorem Yes.bindv {α β : Type} {x : Option α} {f : α → Option β} {Q : β → Prop} (a : α) (h : x = Option.some a) (k : Yes (f a) Q) : Yes (Option.bind x f) Q := by rw [h]; exact k
end Go.Proofs.Ytnfjhdagbknlbaa
