/- FaultCans as a plain function: it returns true. -/
import Derived.Test.YtpiaipiehjcflaaAlls
set_option maxRecDepth 8000
namespace Go.Proofs.Ytpiaipiehjcflaa
open Go.RowKit

theorem s28 (a b : List FaultSight) (ha : a.length < 9223372036854775807) : f28 a b = some (decide (a = b)) := by
  refine Yes.eq ?_
  unfold f28
  refine Yes.jn (Yes.cond (fun h => Yes.some (same_no h)) (fun h => ?_))
  have hl := same_len h
  refine Yes.jn (Yes.upto0 a.length ha (Same a b) (same_zero a b) (fun i k hi hI hk => ?_) (fun k hI => ?_))
  · exact Yes.jn (Yes.cond (fun _ => Yes.jn (same_step (ne := (fun x y => !decide (x = y))) (fun _ _ => rfl) hl hi hI hk)) (fun h => absurd h (by simp; omega)))
  · exact Yes.jn (Yes.cond (fun h => absurd h (by simp)) (fun _ => Yes.some (same_end hl hI)))
end Go.Proofs.Ytpiaipiehjcflaa
