/- FaultAlls as a plain function: it returns true. -/
import Derived.Test.YtpiaipiehjcflaaLawK
import Derived.Test.YtpiaipiehjcflaaTells
set_option maxRecDepth 8000
namespace Go.Proofs.Ytpiaipiehjcflaa
open Go.RowKit

def hugeB (l : FaultLoom) : Bool := (decide (l.Harness.Warps.length > 110) || decide (l.Design.Rows.length > 70)) || (decide (loomE l = 0) && (decide (l.Design.Hooks > 6) || decide (l.Harness.Warps.length > 12) || decide (l.Design.Rows.length > 6)))
theorem s30 (l : FaultLoom) : f30 l = some (hugeB l) := by
  refine Yes.eq ?_
  unfold f30
  refine Yes.bind (Yes.bind (Yes.of (s14 l) (Yes.cond (fun h => Yes.some (Yes.some ?_)) (fun h => Yes.bind (Yes.of (s33 l) (Yes.cond (fun h2 => Yes.cond (fun h3 => Yes.some (Yes.some ?_)) (fun h3 => Yes.cond (fun h4 => Yes.some (Yes.some ?_)) (fun h4 => Yes.some (Yes.some ?_)))) (fun h2 => Yes.some (Yes.some ?_))))))))
  · unfold hugeB; rw [h]; rfl
  · unfold hugeB; rw [h]
    have h2 : loomE l = 0 := by simpa using h2
    simp [h2, h3]
  · unfold hugeB; rw [h]
    have h2 : loomE l = 0 := by simpa using h2
    have h4 : l.Harness.Warps.length > 12 := by simp at h4; omega
    simp [h2, h4]
  · unfold hugeB; rw [h]
    have h2 : loomE l = 0 := by simpa using h2
    have h4 : ¬ l.Harness.Warps.length > 12 := by simp at h4; omega
    have h5 : decide ((l.Design.Rows.length : Int) > 6) = decide (l.Design.Rows.length > 6) := by rw [decide_eq_decide]; omega
    simp only [h2, h3, h4, h5, decide_false, decide_true, Bool.or_false, Bool.true_and, Bool.false_or]
  · unfold hugeB; rw [h]
    have h2 : ¬ loomE l = 0 := by simpa using h2
    simp [h2]
theorem huge_not {l : FaultLoom} (h : hugeB l = false) : l.Harness.Warps.length ≤ 110 ∧ l.Design.Rows.length ≤ 70 := by
  unfold hugeB at h
  simp only [Bool.or_eq_false_iff, decide_eq_false_iff_not] at h
  omega
theorem s11 (l : FaultLoom) : f11 l = some true := by
  refine Yes.eq ?_
  unfold f11
  refine Yes.jn (Yes.bind (Yes.of (s30 l) (Yes.cond (fun _ => Yes.bind (Yes.of known_ok (Yes.some rfl))) (fun h => ?_))))
  obtain ⟨h1, h2⟩ := huge_not h
  refine Yes.jn (Yes.bind (Yes.of (s16 l (by omega) (by omega)) (Yes.bind (Yes.of (s47 l) ?_))))
  refine Yes.jn (Yes.bind (Yes.of (s21 l l (by omega) (by omega)) (Yes.cond (fun h => absurd h (by simp)) (fun _ => ?_))))
  refine Yes.jn (Yes.bind (Yes.of (s33 l) (Yes.cond (fun hc => Yes.bind ?_) (fun hc => Yes.bind ?_))))
  · have hc : loomE l ≠ 0 := by simpa using hc
    rw [if_neg hc]
    exact Yes.cond (fun _ => Yes.cond (fun _ => Yes.bind (Yes.of known_ok (Yes.some (Yes.some rfl)))) (fun h => absurd h (by simp))) (fun h => absurd h (by simp))
  · have hc : loomE l = 0 := by simpa using hc
    have g := good_of hc
    have hl := shows_len g
    rw [if_pos hc]
    exact Yes.cond (fun _ => Yes.bind (Yes.of (s34 g) (Yes.bind (Yes.of (s22 _ _ (by show (shows l).length < _; omega)) (Yes.cond (fun _ => Yes.bind (Yes.of known_ok (Yes.some (Yes.some rfl)))) (fun h => absurd h (by simp))))))) (fun h => nomatch h)
end Go.Proofs.Ytpiaipiehjcflaa
