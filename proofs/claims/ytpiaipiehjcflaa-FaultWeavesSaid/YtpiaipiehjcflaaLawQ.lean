/- Plain laws: where a cloth is wrong. -/
import Derived.Test.YtpiaipiehjcflaaDoes
set_option maxRecDepth 8000
namespace Go.Proofs.Ytpiaipiehjcflaa
open Go.RowKit

theorem plFrom_range (d : Nat → Nat → Bool) (n m : Nat) : ∀ k, k ≤ n → plFrom d n m k = ((List.range n).drop (n - k)).flatMap fun i => rowFrom (d i) i m m
  | 0, _ => by rw [Nat.sub_zero, List.drop_eq_nil_of_le (by simp)]; rfl
  | k + 1, h => by
    rw [plFrom, plFrom_range d n m k (by omega)]
    rw [show (List.range n).drop (n - (k + 1)) = (n - (k + 1)) :: (List.range n).drop (n - k) by
      rw [List.drop_eq_getElem_cons (by simp; omega)]
      simp only [List.getElem_range]
      rw [show n - (k + 1) + 1 = n - k by omega]]
    simp
theorem pl_range (d : Nat → Nat → Bool) (n m : Nat) : pl n m d = (List.range n).flatMap fun i => rowFrom (d i) i m m := by
  unfold pl; rw [plFrom_range d n m n (Nat.le_refl _)]; simp
theorem s20 {l : FaultLoom} {ds ds' : List FaultDamage} {k : Nat} (hs : f78 ds (fun a0 a1 => f79 a0 a1) = some ds') (hl' : ds'.length ≤ 100000) (hall : ∀ d ∈ ds', dmg l d = true) (ho : openE l ds k = 0) (ho0 : openE l [] k = 0) (g : Good l) (hk : k ≤ 120) :
    f20 l ds k = some (wrs (fun p w => rc l ds' (p % l.Design.Rows.length) w) (pl k l.Harness.Warps.length fun p w => rc l ds' (p % l.Design.Rows.length) w != rc l [] (p % l.Design.Rows.length) w), 0) := by
  have hw1 := g.w1
  refine Yes.eq ?_
  unfold f20
  refine Yes.bind (Yes.of (s19 hs hl' hall ho) (Yes.jn (Yes.cond (fun h => nomatch h) (fun _ => Yes.bind (Yes.of (s19 s78_nil (by simp) (fun x hx => by cases hx) ho0) (Yes.bind (Yes.bind ?_)))))))
  rw [Int.toNat_natCast]
  have hpl : ∀ q ∈ pl k l.Harness.Warps.length (fun p w => rc l ds' (p % l.Design.Rows.length) w != rc l [] (p % l.Design.Rows.length) w), ∃ p w : Nat, q = ((p : Int), (w : Int)) ∧ p < k ∧ w < l.Harness.Warps.length := fun q hq => by
    rw [pl_range] at hq
    obtain ⟨p, hp, hq⟩ := List.mem_flatMap.1 hq
    have : ∀ j, j ≤ l.Harness.Warps.length → q ∈ rowFrom (fun w => rc l ds' (p % l.Design.Rows.length) w != rc l [] (p % l.Design.Rows.length) w) p l.Harness.Warps.length j → ∃ w : Nat, q = ((p : Int), (w : Int)) ∧ w < l.Harness.Warps.length := fun j => by
      induction j with
      | zero => intro _ h; cases h
      | succ j ih =>
        intro hj h
        unfold rowFrom at h
        rcases List.mem_append.1 h with h | h
        · split at h
          · exact ⟨_, List.mem_singleton.1 h, by omega⟩
          · cases h
        · exact ih (by omega) h
    obtain ⟨w, h1, h2⟩ := this _ (Nat.le_refl _) hq
    exact ⟨p, w, h1, List.mem_range.1 hp, h2⟩
  have hlen : (pl k l.Harness.Warps.length (fun p w => rc l ds' (p % l.Design.Rows.length) w != rc l [] (p % l.Design.Rows.length) w)).length ≤ 12000 := by
    have := plFrom_len (fun p w => rc l ds' (p % l.Design.Rows.length) w != rc l [] (p % l.Design.Rows.length) w) k l.Harness.Warps.length k
    have h2 : k * l.Harness.Warps.length ≤ 120 * 96 := Nat.mul_le_mul hk hw1
    unfold pl; omega
  have hf := feed_app (cons := fun m6_128 (q : Int × Int) => (idx (cthN l ds' k) q.1).bind fun y132 => (idx y132.b q.2).bind fun y135 => (apnd 24 m6_128 [(⟨q.1, q.2, (y135 == (120 : UInt8))⟩ : FaultSight)]).bind fun y159 => some (true, y159))
    (fun q => [(⟨q.1, q.2, rc l ds' (q.1.toNat % l.Design.Rows.length) q.2.toNat⟩ : FaultSight)]) 20000 (pl k l.Harness.Warps.length fun p w => rc l ds' (p % l.Design.Rows.length) w != rc l [] (p % l.Design.Rows.length) w) [] (fun _ _ => by simp) (by simp only [List.length_nil]; omega) (fun m q hq hm => by
      obtain ⟨p, w, rfl, hp, hw⟩ := hpl q hq
      refine Yes.eq ?_
      have hx : p < (cthN l ds' k).length := by unfold cthN; rw [cloth_len]; exact hp
      refine Yes.bind (Yes.idx rfl hx ?_)
      rw [show (cthN l ds' k)[p] = line l.Harness.Warps.length (fun w => rc l ds' (p % l.Design.Rows.length) w) from cloth_at (c := fun p w => rc l ds' (p % l.Design.Rows.length) w) hx]
      refine Yes.bind (Yes.idx rfl (by rw [line_len]; exact hw) ?_)
      rw [line_at, mark_x]
      exact Yes.bind (Yes.apnd (by simp; omega) (by simp; omega) (Yes.some (by simp))))
  refine Yes.of (s83 (n := k) (m := l.Harness.Warps.length) (by omega) (by omega) (fun p w => rc l ds' (p % l.Design.Rows.length) w) (fun p w => rc l [] (p % l.Design.Rows.length) w) hf) (Yes.some (Yes.some ?_))
  congr 1
  unfold wrs
  rw [List.nil_append]
  generalize (pl k l.Harness.Warps.length fun p w => rc l ds' (p % l.Design.Rows.length) w != rc l [] (p % l.Design.Rows.length) w) = ps
  induction ps with
  | nil => rfl
  | cons q qs ih => simp; exact ih
end Go.Proofs.Ytpiaipiehjcflaa
