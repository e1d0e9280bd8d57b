/- Plain laws: cloths. -/
import Derived.Test.YtpiaipiehjcflaaLawB
set_option maxRecDepth 8000
namespace Go.Proofs.Ytpiaipiehjcflaa
open Go.RowKit

def mark (b : Bool) : UInt8 := if b then 120 else 46
/-- A cloth of n picks and m warps; c p w is whether warp w is up at pick p. -/
def line (m : Nat) (c : Nat → Bool) : Str := ⟨(List.range m).map fun w => mark (c w)⟩
def clothOf (n m : Nat) (c : Nat → Nat → Bool) : List Str := (List.range n).map fun p => line m (c p)
def hk (l : FaultLoom) (w : Nat) : Nat := ((l.Harness.Warps[w]?).getD 0).toNat
theorem hk_at {l : FaultLoom} (g : Good l) {w : Nat} (hw : w < l.Harness.Warps.length) : l.Harness.Warps[w] = (hk l w : Int) ∧ hk l w < l.Design.Hooks.toNat := by
  have := g.warp _ (List.getElem_mem hw)
  unfold hk
  rw [List.getElem?_eq_getElem hw]
  simp only [Option.getD_some]
  omega
theorem and_one (a : Nat) : (((a &&& 1 : Nat) : Int) == (1 : Int)) = a.testBit 0 := by
  rw [Bool.eq_iff_iff, Nat.and_one_is_mod]
  simp [Nat.testBit_zero]
  omega
theorem s111 {l : FaultLoom} (g : Good l) {a w : Nat} (ha : a < 2 ^ 24) (hw : w < l.Harness.Warps.length) : f111 ⟨l.Harness⟩ (a : Int) (w : Int) = some (a.testBit (hk l w)) := by
  obtain ⟨e, hlt⟩ := hk_at g hw
  have h24 := g.h24
  refine Yes.eq ?_
  unfold f111
  refine Yes.bind (Yes.idx rfl hw (Yes.bind (Yes.of (by rw [e]; exact shr_bit (by omega)) (Yes.some ?_))))
  have hs : a >>> hk l w < 2 ^ 62 := Nat.lt_of_le_of_lt (Nat.shiftRight_le a _) (Nat.lt_trans ha two24)
  rw [show (1 : Int) = ((1 : Nat) : Int) from rfl, and64 hs (by decide)]
  show (((a >>> hk l w &&& 1 : Nat) : Int) == (1 : Int)) = _
  rw [and_one, Nat.testBit_shiftRight, Nat.add_zero]
theorem s110 (b : Bool) : f110 b = some (mark b) := by cases b <;> rfl
theorem s102 {l : FaultLoom} (g : Good l) {a : Nat} (ha : a < 2 ^ 24) : f102 ⟨l.Harness⟩ (a : Int) = some (line l.Harness.Warps.length fun w => a.testBit (hk l w)) := by
  have hw1 := g.w1
  have hw0 := g.w0
  refine Yes.eq ?_
  unfold f102
  simp only
  refine Yes.bind (Yes.upto l.Harness.Warps.length (by omega) (fun i r => r = (List.range i).map fun w => mark (a.testBit (hk l w))) rfl (fun i r k hi hI hk' => ?_) (fun r k hI => ?_))
  · subst hI
    refine Yes.cond (fun _ => Yes.bind (Yes.bind (Yes.of (s111 g ha hi) (Yes.bind (Yes.of (s110 _) (Yes.bind (Yes.apnd (by simp; omega) (by simp; omega) (Yes.some (hk' _ ?_))))))))) (fun h => absurd h (by simp; omega))
    rw [List.range_succ, List.map_append]; rfl
  · subst hI
    refine Yes.cond (fun h => absurd h (by simp)) (fun _ => Yes.some (Yes.bind (Yes.of (a := line l.Harness.Warps.length fun w => a.testBit (hk l w)) ?_ (Yes.some rfl))))
    unfold sbstr
    rw [if_neg (by intro h; have := congrArg List.length h; rw [List.length_map, List.length_range, List.length_nil] at this; omega)]
    rfl
/-- The rows of a loom as points. -/
def tab (l : FaultLoom) : Nat → Nat → Bool := fun p h => (((l.Design.Rows[p]?).getD 0).toNat).testBit h
theorem tab_good {l : FaultLoom} (g : Good l) : Tb l.Design.Hooks.toNat l.Design.Rows.length l.Design.Rows (tab l) := by
  refine ⟨rfl, fun p hp => ?_⟩
  have h1 := g.row _ (List.getElem_mem hp)
  refine ⟨(l.Design.Rows[p]).toNat, by omega, ?_, fun h hh => ?_⟩
  · have : ((2 ^ l.Design.Hooks.toNat : Nat) : Int) = (2 : Int) ^ l.Design.Hooks.toNat := by simp
    rw [← this] at h1
    omega
  · unfold tab; rw [List.getElem?_eq_getElem hp]; rfl
theorem tieE_good {l : FaultLoom} (g : Good l) : tieE l.Harness = 0 := by
  have h1 : btw 1 24 l.Harness.Hooks = true := by rw [g.hh]; have := g.h1; have := g.h24; simp [btw]; omega
  have h2 : l.Harness.Warps.all (btw 0 (l.Harness.Hooks - 1)) = true := List.all_eq_true.2 fun x hx => by have := g.warp x hx; rw [g.hh]; simp [btw]; omega
  have := g.w0; have := g.w1
  unfold tieE
  rw [if_pos h1, if_neg (by omega), if_neg (by omega), if_pos h2]
theorem desE_tb {l : FaultLoom} (g : Good l) {rows : List Int} {t : Nat → Nat → Bool} (ht : Tb l.Design.Hooks.toNat l.Design.Rows.length rows t) : desE ⟨l.Design.Hooks, rows⟩ = 0 := by
  have h1 : btw 1 24 l.Design.Hooks = true := by have := g.h1; have := g.h24; simp [btw]; omega
  have h2 : rows.all (btw 0 (2 ^ l.Design.Hooks.toNat - 1)) = true := List.all_eq_true.2 fun x hx => by
    obtain ⟨p, hp, rfl⟩ := List.getElem_of_mem hx
    obtain ⟨a, ha, ha2, _⟩ := ht.2 p hp
    have : ((2 ^ l.Design.Hooks.toNat : Nat) : Int) = (2 : Int) ^ l.Design.Hooks.toNat := by simp
    rw [ha, ← this]
    simp only [btw, decide_eq_true_eq]
    omega
  have := g.r0; have := g.r1; have := ht.1
  unfold desE
  simp only
  rw [if_pos h1, if_neg (by omega), if_neg (by omega), if_pos h2]
theorem s82 {l : FaultLoom} (g : Good l) {rows : List Int} {t : Nat → Nat → Bool} (ht : Tb l.Design.Hooks.toNat l.Design.Rows.length rows t) :
    f82 l.Harness ⟨l.Design.Hooks, rows⟩ = some (clothOf l.Design.Rows.length l.Harness.Warps.length (fun p w => t p (hk l w)), 0) := by
  have hr1 := g.r1
  have hw1 := g.w1
  have h24 := g.h24
  refine Yes.eq ?_
  unfold f82
  refine Yes.jn (Yes.bind (Yes.of (s73 _) ?_))
  rw [tieE_good g]
  refine Yes.cond (fun h => nomatch h) (fun _ => Yes.jn (Yes.bind (Yes.of (s74 _) ?_)))
  rw [desE_tb g ht]
  refine Yes.cond (fun h => nomatch h) (fun _ => Yes.cond (fun h => absurd h (by simp [g.hh])) (fun _ => Yes.bind ?_))
  simp only
  rw [ht.1]
  refine Yes.upto l.Design.Rows.length (by omega) (fun i r => r = clothOf i l.Harness.Warps.length fun p w => t p (hk l w)) rfl (fun i r k hi hI hk' => ?_) (fun r k hI => ?_)
  · subst hI
    obtain ⟨a, ha, ha2, ha3⟩ := ht.2 i (by rw [ht.1]; exact hi)
    have h102 := s102 g (two_lt (by omega) ha2)
    rw [← ha] at h102
    refine Yes.cond (fun _ => Yes.bind (Yes.bind (Yes.idx rfl (by rw [ht.1]; exact hi) (Yes.bind (Yes.of h102 (Yes.bind (Yes.apnd (by simp [clothOf]; omega) (by simp [clothOf]; omega) (Yes.some (hk' _ ?_))))))))) (fun h => absurd h (by simp; omega))
    unfold clothOf
    rw [List.range_succ, List.map_append]
    congr 1
    simp only [List.map_cons, List.map_nil, line]
    congr 2
    refine List.map_congr_left fun w hw => ?_
    rw [ha3 _ (hk_at g (List.mem_range.1 hw)).2]
  · subst hI
    exact Yes.cond (fun h => absurd h (by simp)) (fun _ => Yes.some (Yes.some rfl))
end Go.Proofs.Ytpiaipiehjcflaa
