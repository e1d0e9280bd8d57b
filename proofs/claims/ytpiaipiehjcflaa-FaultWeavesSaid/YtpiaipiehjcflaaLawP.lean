/- Plain laws: looms and damages in bytes; cloths. -/
import Derived.Test.YtpiaipiehjcflaaLooks
set_option maxRecDepth 8000
namespace Go.Proofs.Ytpiaipiehjcflaa
open Go.RowKit

/-- Picks of a cloth. -/
def cthN (l : FaultLoom) (ds : List FaultDamage) (k : Nat) : List Str := clothOf k l.Harness.Warps.length fun p w => rc l ds (p % l.Design.Rows.length) w
theorem s19 {l : FaultLoom} {ds ds' : List FaultDamage} {k : Int} (hs : f78 ds (fun a0 a1 => f79 a0 a1) = some ds') (hl' : ds'.length ≤ 100000) (hall : ∀ d ∈ ds', dmg l d = true) (ho : openE l ds k = 0) : f19 l ds k = some (cthN l ds' k.toNat, 0) := by
  have hc : chkE l ds = 0 := by
    unfold openE at ho
    split at ho
    · rename_i h1; exact absurd ho h1
    · rename_i h1; exact Decidable.not_not.1 h1
  have hk : 1 ≤ k ∧ k ≤ 120 := by
    unfold openE at ho
    rw [if_neg (fun hh => hh hc)] at ho
    split at ho
    · rename_i hb; simpa [btw] using hb
    · cases ho
  obtain ⟨g, hlen, hd⟩ := chk_good hc
  refine Yes.eq ?_
  unfold f19
  refine Yes.jn (Yes.bind (Yes.of (s54 l ds k) (Yes.cond (fun h => absurd (by simpa using h) (by rw [ho]; simp)) (fun _ => Yes.bind (Yes.of (s55 g hs (by omega) hl' hall) (Yes.bind ?_))))))
  rw [rnd_is]
  have hr0 := g.r0
  have hr1 := g.r1
  obtain ⟨kn, rfl⟩ := Int.eq_ofNat_of_zero_le (show 0 ≤ k by omega)
  rw [Int.toNat_natCast, cloth_len]
  refine Yes.upto kn (by omega) (fun i r => r = cthN l ds' i) rfl (fun i r k2 hi hI hk2 => ?_) (fun r k2 hI => ?_)
  · subst hI
    have hlt : i % l.Design.Rows.length < l.Design.Rows.length := Nat.mod_lt _ hr0
    refine Yes.cond (fun _ => Yes.bind (Yes.bind (Yes.of (rem_nat hr0) (Yes.bind (Yes.idx rfl (by rw [cloth_len]; exact hlt) ?_))))) (fun h => absurd h (by simp; omega))
    rw [cloth_at]
    refine Yes.bind (Yes.apnd (by unfold cthN; rw [cloth_len]; simp; omega) (by unfold cthN; rw [cloth_len]; simp; omega) (Yes.some (hk2 _ ?_)))
    unfold cthN clothOf
    rw [List.range_succ, List.map_append]; rfl
  · subst hI
    exact Yes.cond (fun h => absurd h (by simp)) (fun _ => Yes.some (Yes.some rfl))
theorem open_ok {l : FaultLoom} {ds : List FaultDamage} {k : Int} (hc : chkE l ds = 0) (h1 : 1 ≤ k) (h2 : k ≤ 120) : openE l ds k = 0 := by
  unfold openE; rw [if_neg (fun hh => hh hc), if_pos (by simp [btw]; omega)]
theorem chk_ok {l : FaultLoom} {ds : List FaultDamage} (g : loomE l = 0) (hl : ds.length ≤ 100) (hd : ∀ d ∈ ds, dmg l d = true) : chkE l ds = 0 := by
  unfold chkE; rw [if_neg (fun hh => hh g), if_neg (by omega), if_pos (List.all_eq_true.2 hd)]
theorem loom_ok {l : FaultLoom} (g : Good l) : loomE l = 0 := by
  unfold loomE
  rw [tieE_good g, if_neg (fun hh => hh rfl)]
  have := desE_tb g (tab_good g)
  have e : (⟨l.Design.Hooks, l.Design.Rows⟩ : Design) = l.Design := rfl
  rw [e] at this
  rw [this, if_neg (fun hh => hh rfl), if_neg (fun hh => hh g.hh)]
end Go.Proofs.Ytpiaipiehjcflaa
