/- Plain laws: few damages are in order; the reference's cards. -/
import Derived.Test.YtpiaipiehjcflaaLawE
set_option maxRecDepth 8000
namespace Go.Proofs.Ytpiaipiehjcflaa
open Go.RowKit

theorem lp_big {σ ρ : Type} (body : (σ → Option ρ) → σ → Option ρ) (s : σ) : lp body big s = body (lp body 18446744073709551615) s := by
  rw [show big = 18446744073709551615 + 1 by unfold big; rfl]; rfl
theorem s107_few (xs : List FaultDamage) (n : Int) (hn : n ≤ 1) (φ : FaultDamage → FaultDamage → Option Int) : f107 xs 0 n φ = some xs := by
  unfold f107
  rw [lp_big, w64_id (n := 0 + 1) (by decide) (by decide)]
  have : decide ((0 : Int) + 1 < n) = false := by simp; omega
  simp only [jn, this, cond_false]
theorem s96_few (xs : List FaultDamage) (n : Int) (hn : n < 20) (φ : FaultDamage → FaultDamage → Option Int) (ys : List FaultDamage) (h : f107 xs 0 n φ = some ys) : f96 xs n φ = some ys := by
  unfold f96
  rw [lp_big]
  have h1 : decide ((20 : Int) ≤ n) = false := by simp; omega
  simp only [jn, h1, cond_false, Option.bind_some, h]
  rw [lp_big]
  have h2 : decide ((20 : Int) < n) = false := by simp; omega
  simp only [h2, cond_false]
theorem s78_nil : f78 [] (fun a0 a1 => f79 a0 a1) = some [] := by
  unfold f78; rw [s96_few [] _ (by simp) _ [] (s107_few _ _ (by simp) _)]; rfl
theorem s78_one (d : FaultDamage) : f78 [d] (fun a0 a1 => f79 a0 a1) = some [d] := by
  unfold f78; rw [s96_few [d] _ (by simp) _ [d] (s107_few _ _ (by simp) _)]; rfl
theorem rem_two (a : Nat) : rem64 (a : Int) 2 = some ((a % 2 : Nat) : Int) := by
  unfold rem64
  rw [if_neg (by decide), Int.tmod_eq_emod_of_nonneg (by omega)]
  rfl
theorem quo_two {a : Nat} (ha : a < 2 ^ 62) : quo64 (a : Int) 2 = some ((a / 2 : Nat) : Int) := by
  unfold quo64
  rw [pow62] at ha
  rw [if_neg (by decide), Int.tdiv_eq_ediv_of_nonneg (by omega)]
  rw [show ((a : Int) / 2) = ((a / 2 : Nat) : Int) from rfl, w64_id (by omega) (by omega)]
/-- The points of a card. -/
def pts (H : Nat) (c : Nat → Bool) : List Bool := (List.range H).map c
theorem s103 {a H : Nat} (ha : a < 2 ^ 62) (hH : H ≤ 24) : f103 (a : Int) (H : Int) = some (pts H a.testBit) := by
  refine Yes.eq ?_
  unfold f103
  refine Yes.bind (Yes.upto2 H (by omega) (fun i s r => s = ((a >>> i : Nat) : Int) ∧ r = pts i a.testBit) ⟨by simp, rfl⟩ (fun i s r k hi hI hk' => ?_) (fun s r k hI => ?_))
  · obtain ⟨rfl, rfl⟩ := hI
    have hs : a >>> i < 2 ^ 62 := Nat.lt_of_le_of_lt (Nat.shiftRight_le a i) ha
    refine Yes.jn (Yes.cond (fun _ => Yes.bind (Yes.bind (Yes.of (rem_two _) (Yes.bind (Yes.apnd (by simp [pts]; omega) (by simp [pts]; omega) (Yes.bind (Yes.of (quo_two hs) (Yes.some (hk' _ _ ⟨?_, ?_⟩))))))))) (fun h => absurd h (by simp; omega)))
    · rw [Nat.shiftRight_succ]
    · unfold pts
      rw [List.range_succ, List.map_append]
      congr 1
      simp only [List.map_cons, List.map_nil]
      congr 1
      rw [Bool.eq_iff_iff]
      have : a.testBit i = (a >>> i).testBit 0 := by rw [Nat.testBit_shiftRight]; simp
      rw [this, Nat.testBit_zero]
      generalize a >>> i = q
      simp
      omega
  · exact Yes.jn (Yes.cond (fun h => absurd h (by simp)) (fun _ => Yes.some (Yes.some hI.2)))
/-- The points of all cards. -/
def tbl (n H : Nat) (t : Nat → Nat → Bool) : List (List Bool) := (List.range n).map fun p => pts H (t p)
theorem pts_congr {H : Nat} {c c' : Nat → Bool} (h : ∀ k, k < H → c k = c' k) : pts H c = pts H c' := List.map_congr_left fun k hk => h k (List.mem_range.1 hk)
theorem s85 {l : FaultLoom} (g : Good l) : f85 l.Design = some (tbl l.Design.Rows.length l.Design.Hooks.toNat (tab l)) := by
  have hr1 := g.r1
  have h24 := g.h24
  have h1 := g.h1
  have ht := tab_good g
  refine Yes.eq ?_
  unfold f85
  refine Yes.bind (Yes.upto l.Design.Rows.length (by omega) (fun i r => r = tbl i l.Design.Hooks.toNat (tab l)) rfl (fun i r k hi hI hk' => ?_) (fun r k hI => ?_))
  · subst hI
    obtain ⟨a, ha, ha2, ha3⟩ := ht.2 i hi
    have h103 := s103 (a := a) (H := l.Design.Hooks.toNat) (lt62 (by omega) ha2) (by omega)
    rw [← ha, show ((l.Design.Hooks.toNat : Nat) : Int) = l.Design.Hooks by omega] at h103
    refine Yes.jn (Yes.cond (fun _ => Yes.bind (Yes.bind (Yes.idx rfl hi (Yes.bind (Yes.of h103 (Yes.bind (Yes.apnd (by simp [tbl]; omega) (by simp [tbl]; omega) (Yes.some (hk' _ ?_))))))))) (fun h => absurd h (by simp; omega)))
    unfold tbl
    rw [List.range_succ, List.map_append]
    congr 1
    simp only [List.map_cons, List.map_nil]
    congr 1
    exact pts_congr fun k hk => ha3 k hk
  · subst hI
    exact Yes.jn (Yes.cond (fun h => absurd h (by simp)) (fun _ => Yes.some (Yes.some rfl)))
theorem s86 {H : Nat} (hH : H ≤ 24) (c : Nat → Bool) : f86 (pts H c) = some (pts H fun k => c (H - 1 - k)) := by
  refine Yes.eq ?_
  unfold f86
  have hlen : (pts H c).length = H := by simp [pts]
  rw [hlen, w64_id (n := (H : Int) - 1) (by omega) (by omega)]
  refine Yes.bind (Yes.lp (fun s => ∃ i : Nat, s.2 = (i : Int) - 1 ∧ i ≤ H ∧ s.1 = (List.range (H - i)).map fun k => c (H - 1 - k)) (fun s => (s.2 + 1).toNat) ⟨H, rfl, Nat.le_refl _, by simp⟩ (by simp only; omega) ?_)
  rintro ⟨r, j⟩ k ⟨i, hj, hle, hI⟩ hk'
  simp only at hj hI hk'
  subst hj; subst hI
  cases i with
  | zero => exact Yes.jn (Yes.cond (fun h => absurd h (by simp)) (fun _ => Yes.some (Yes.some rfl)))
  | succ i =>
    refine Yes.jn (Yes.cond (fun _ => Yes.bind (Yes.bind (Yes.idx (n := i) (by omega) (by omega) (Yes.bind (Yes.apnd (by simp; omega) (by simp; omega) (Yes.some (hk' _ ⟨i, ?_, by omega, ?_⟩ ?_))))))) (fun h => absurd h (by simp)))
    · simp only; rw [w64_id (by omega) (by omega)]; omega
    · simp only
      rw [show H - i = (H - (i + 1)) + 1 by omega, List.range_succ, List.map_append]
      congr 1
      simp only [List.map_cons, List.map_nil, pts, List.getElem_map, List.getElem_range]
      congr 2; omega
    · simp only; rw [w64_id (by omega) (by omega)]; omega
end Go.Proofs.Ytpiaipiehjcflaa
