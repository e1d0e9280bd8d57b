/- FaultLooks as a plain function: it returns true. -/
import Derived.Test.YtpiaipiehjcflaaApart
set_option maxRecDepth 8000
namespace Go.Proofs.Ytpiaipiehjcflaa
open Go.RowKit

def openE (l : FaultLoom) (ds : List FaultDamage) (k : Int) : Int := if chkE l ds ≠ 0 then chkE l ds else if btw 1 120 k then 0 else 3
theorem s54 (l : FaultLoom) (ds : List FaultDamage) (k : Int) : f54 l ds k = some (openE l ds k) := by
  refine Yes.eq ?_
  unfold f54
  refine Yes.jn (Yes.bind (Yes.of (s18 _ _) (Yes.cond (fun h => Yes.some ?_) (fun h => Yes.jn (Yes.bind (Yes.of (s62 1 120 [k] (by simp)) (Yes.cond (fun h2 => Yes.some ?_) (fun h2 => Yes.some ?_))))))))
  · have h : chkE l ds ≠ 0 := by simpa using h
    unfold openE; rw [if_pos h]
  all_goals
    have h : ¬ chkE l ds ≠ 0 := by simpa using h
    simp only [List.all_cons, List.all_nil, Bool.and_true, ← btw.eq_1] at h2
  · have h2 : btw 1 120 k = false := by simpa using h2
    unfold openE; rw [if_neg h, h2]; rfl
  · have h2 : btw 1 120 k = true := by simpa using h2
    unfold openE; rw [if_neg h, h2]; rfl
end Go.Proofs.Ytpiaipiehjcflaa
