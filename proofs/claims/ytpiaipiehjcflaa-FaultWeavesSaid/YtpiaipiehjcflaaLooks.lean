/- FaultLooks as a plain function: it returns true. -/
import Derived.Test.YtpiaipiehjcflaaApart
set_option maxRecDepth 8000
namespace Go.Proofs.Ytpiaipiehjcflaa
open Go.RowKit

def openE (l : FaultLoom) (ds : List FaultDamage) (k : Int) : Int := if chkE l ds ≠ 0 then chkE l ds else if btw 1 120 k then 0 else 3
theorem s54 (l : FaultLoom) (ds : List FaultDamage) (k : Int) : f54 l ds k = some (openE l ds k) := by
  refine Yes.eq ?_
  unfold f54
  refine Yes.jn (Yes.bind (Yes.of (s18 _ _) (Yes.cond (fun h => Yes.some ?_) (fun h => Yes.jn (Yes.bind (Yes.of (s62 1 120 [k] (by simp)) (Yes.cond (fun h2 => Yes.some ?_) (fun h2 => Yes.some ?_))))))))
  · have h : chkE l ds ≠ 0 := by simpa using h
    unfold openE; rw [if_pos h]
  all_goals
    have h : ¬ chkE l ds ≠ 0 := by simpa using h
    simp only [List.all_cons, List.all_nil, Bool.and_true, ← btw.eq_1] at h2
  · have h2 : btw 1 120 k = false := by simpa using h2
    unfold openE; rw [if_neg h, h2]; rfl
  · have h2 : btw 1 120 k = true := by simpa using h2
    unfold openE; rw [if_neg h, h2]; rfl
theorem s25 {n m : Nat} (hn : 0 < n) (c : Nat → Nat → Bool) {k : Int} (h0 : 0 ≤ k) (hk : k ≤ 1000) : f25 (clothOf n m c) k = some (clothOf k.toNat m fun p w => c (p % n) w) := by
  refine Yes.eq ?_
  unfold f25
  obtain ⟨k, rfl⟩ := Int.eq_ofNat_of_zero_le h0
  rw [Int.toNat_natCast, cloth_len]
  refine Yes.bind (Yes.upto k (by omega) (fun i r => r = clothOf i m fun p w => c (p % n) w) rfl (fun i r k2 hi hI hk2 => ?_) (fun r k2 hI => ?_))
  · subst hI
    have hlt : i % n < n := Nat.mod_lt _ hn
    refine Yes.jn (Yes.cond (fun _ => Yes.bind (Yes.bind (Yes.of (rem_nat hn) (Yes.bind (Yes.idx rfl (by rw [cloth_len]; exact hlt) ?_))))) (fun h => absurd h (by simp; omega)))
    rw [cloth_at]
    refine Yes.bind (Yes.apnd (by rw [cloth_len]; simp; omega) (by rw [cloth_len]; simp; omega) (Yes.some (hk2 _ ?_)))
    unfold clothOf
    rw [List.range_succ, List.map_append]; rfl
  · subst hI
    exact Yes.jn (Yes.cond (fun h => absurd h (by simp)) (fun _ => Yes.some (Yes.some rfl)))
end Go.Proofs.Ytpiaipiehjcflaa
