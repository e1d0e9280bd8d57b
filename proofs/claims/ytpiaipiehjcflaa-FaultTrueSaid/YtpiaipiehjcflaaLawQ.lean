/- Plain laws: where a cloth is wrong. -/
import Derived.Test.YtpiaipiehjcflaaDoes
set_option maxRecDepth 8000
namespace Go.Proofs.Ytpiaipiehjcflaa
open Go.RowKit

theorem s48 (xs : List FaultDamage) (d : FaultDamage) (hl : xs.length < 9223372036854775807) : f48 xs d = some (decide (d ∈ xs)) := by
  refine Yes.eq ?_
  unfold f48
  refine Yes.jn (Yes.upto0 xs.length hl (fun i => ∀ j (hj : j < xs.length), j < i → xs[j] ≠ d) (fun _ _ h => absurd h (Nat.not_lt_zero _)) (fun i k hi hI hk => ?_) (fun k hI => ?_))
  · refine Yes.jn (Yes.cond (fun _ => Yes.jn (Yes.bind (Yes.idx rfl hi (Yes.cond (fun h => Yes.some ?_) (fun h => hk ?_))))) (fun h => absurd h (by simp; omega)))
    · have h : xs[i] = d := of_decide_eq_true h
      rw [← h]; exact (decide_eq_true (List.getElem_mem hi)).symm
    · intro j hj hji
      rcases Nat.lt_succ_iff_lt_or_eq.1 hji with h' | rfl
      · exact hI j hj h'
      · exact of_decide_eq_false h
  · refine Yes.jn (Yes.cond (fun h => absurd h (by simp)) (fun _ => Yes.some ?_))
    refine (decide_eq_false fun hd => ?_).symm
    obtain ⟨j, hj, rfl⟩ := List.getElem_of_mem hd
    exact hI j hj hj rfl
end Go.Proofs.Ytpiaipiehjcflaa
