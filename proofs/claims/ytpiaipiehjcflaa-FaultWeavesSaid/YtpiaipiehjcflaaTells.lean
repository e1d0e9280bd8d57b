/- FaultTells as a plain function: it returns true. -/
import Derived.Test.YtpiaipiehjcflaaLawI
import Derived.Test.YtpiaipiehjcflaaCodes
set_option maxRecDepth 8000
namespace Go.Proofs.Ytpiaipiehjcflaa
open Go.RowKit

theorem known_ok : f15 = some true := by kernel_rfl
theorem s14 (l : FaultLoom) : f14 l = some (decide (l.Harness.Warps.length > 110) || decide (l.Design.Rows.length > 70)) := by
  unfold f14
  by_cases h : l.Harness.Warps.length > 110
  · have : decide ((l.Harness.Warps.length : Int) > 110) = true := by simp; omega
    simp [this, h]
  · have : decide ((l.Harness.Warps.length : Int) > 110) = false := by simp; omega
    by_cases h2 : l.Design.Rows.length > 70 <;> simp [this, h] <;> omega
theorem chk_good {l : FaultLoom} {ds : List FaultDamage} (h : chkE l ds = 0) : Good l ∧ ds.length ≤ 100 ∧ ∀ d ∈ ds, dmg l d = true := by
  unfold chkE at h
  split at h
  · rename_i h1; exact absurd h h1
  rename_i h1
  have h1 := Decidable.not_not.1 h1
  split at h
  · cases h
  split at h
  · rename_i h2 h3; exact ⟨good_of h1, by omega, List.all_eq_true.1 h3⟩
  · cases h
theorem s5 (l : FaultLoom) (x : Pair) : f5 l x = some true := by
  refine Yes.eq ?_
  unfold f5
  refine Yes.jn (Yes.bind (Yes.of (s14 l) (Yes.cond (fun _ => Yes.bind (Yes.of known_ok (Yes.some rfl))) (fun h => ?_))))
  obtain ⟨h1, h2⟩ : l.Harness.Warps.length ≤ 110 ∧ l.Design.Rows.length ≤ 70 := by simp at h; omega
  refine Yes.jn (Yes.bind (Yes.of (s16 l (by omega) (by omega)) (Yes.bind (Yes.of (s37 l x.A x.B) ?_))))
  refine Yes.jn (Yes.bind (Yes.of (s21 l l (by omega) (by omega)) (Yes.cond (fun h => absurd h (by simp)) (fun _ => ?_))))
  refine Yes.bind (Yes.of (s23 l [x.A, x.B]) (Yes.jn ?_))
  by_cases hc : chkE l [x.A, x.B] = 0
  · obtain ⟨g, _, hd⟩ := chk_good hc
    have ha := hd x.A (by simp)
    have hb := hd x.B (by simp)
    have hr1 := g.r1
    have hw1 := g.w1
    rw [hc, if_pos rfl]
    refine Yes.cond (fun _ => Yes.bind (Yes.of (s36 g ha) (Yes.bind (Yes.of (s36 g hb) (Yes.bind ?_))))) (fun h => nomatch h)
    rw [rnd_is, rnd_is]
    refine Yes.of (s29 (by omega) (by omega) (rc l [x.A]) (rc l [x.B])) (Yes.jn ?_)
    have hp : (pl l.Design.Rows.length l.Harness.Warps.length fun p w => rc l [x.A] p w != rc l [x.B] p w) = apl l [x.A] [x.B] := rfl
    rw [hp]
    cases apl l [x.A] [x.B] with
    | nil => exact Yes.cond (fun h => nomatch h) (fun _ => Yes.bind (Yes.cond (fun _ => Yes.cond (fun _ => Yes.cond (fun _ => Yes.bind (Yes.of known_ok (Yes.some (Yes.some rfl)))) (fun h => nomatch h)) (fun h => nomatch h)) (fun h => nomatch h)))
    | cons q qs =>
      obtain ⟨p, w⟩ := q
      refine Yes.cond (fun _ => Yes.bind ?_) (fun h => absurd h (by simp [wrs]))
      refine Yes.cond (fun _ => Yes.bind (Yes.idx (n := 0) rfl (by simp [wrs]) (Yes.cond (fun _ => Yes.bind (Yes.idx (n := 0) rfl (by simp [wrs]) (Yes.cond (fun _ => Yes.bind (Yes.of known_ok (Yes.some (Yes.some rfl)))) (fun h => absurd h (by simp [told, wrs]))))) (fun h => absurd h (by simp [told, wrs]))))) (fun h => nomatch h)
  · rw [if_neg hc]
    refine Yes.cond (fun h => absurd (by simpa using h) hc) (fun _ => Yes.bind ?_)
    exact Yes.cond (fun _ => Yes.cond (fun _ => Yes.cond (fun _ => Yes.bind (Yes.of known_ok (Yes.some (Yes.some rfl)))) (fun h => nomatch h)) (fun h => nomatch h)) (fun h => absurd h (by simp))
end Go.Proofs.Ytpiaipiehjcflaa
