/- LoomOvers. -/
import Derived.Test.YtnfjhdagbknlbaaLawC
import Derived.Test.YtnfjhdagbknlbaaKnown
set_option maxRecDepth 8000
namespace Go.Proofs.Ytnfjhdagbknlbaa
open Go.RowKit

theorem s5 (m : LoomMill) (l : List LoomOrder) : f5 m l = some true := by
  unfold f5
  simp only [jn, s12, Option.bind_some, known_ok]
  by_cases hL : m.Widths.length > 10 ∨ (l.length : Int) > 7 ∧ l.length ≤ 7 ∨ l.length > 10
  · simp [hL]
  · have hm : m.Widths.length ≤ 10 := by omega
    have hl : l.length ≤ 10 := by omega
    rw [s15 m (by omega), s16 l (by omega)]
    simp only [hL, decide_false, cond_false, Option.bind_some, s30, s18 m m (by omega), s19 l l (by omega), s20, decide_true, Bool.not_true]
    by_cases hc : chkE m l = 0
    · have g := good_of hc
      rw [s31 m l g]
      by_cases h0 : (ov l m.Widths.length).2.2 = 0
      · simp [hc, h0]
      · simp [hc, h0]
    · have hb : (chkE m l == 0) = false := by simpa using hc
      simp [hc, hb]
end Go.Proofs.Ytnfjhdagbknlbaa
