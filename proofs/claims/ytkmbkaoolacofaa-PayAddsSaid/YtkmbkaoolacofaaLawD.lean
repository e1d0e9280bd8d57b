/- Plain laws: shares add up; with all parts multiplied, and with a part of nothing more, they stay. -/
import Derived.Test.YtkmbkaoolacofaaLawC
set_option maxRecDepth 8000
namespace Go.Proofs.Ytkmbkaoolacofaa
open Go.RowKit
open Classical

theorem getD_in {ps : List Int} {i : Nat} (h : i < ps.length) : ps.getD (i : Int).toNat 0 = ps[i] := by
 rw [Int.toNat_natCast, List.getD_eq_getElem?_getD, List.getElem?_eq_getElem h]; rfl
theorem sum_mul (c : Int) : ∀ ps : List Int, (ps.map (· * c)).sum = ps.sum * c
 | [] => by simp
 | p :: ps => by simp only [List.map_cons, List.sum_cons, sum_mul c ps, Int.add_mul]
theorem getD_mul (c : Int) (ps : List Int) (i : Nat) : (ps.map (· * c)).getD i 0 = ps.getD i 0 * c := by
 rw [List.getD_eq_getElem?_getD, List.getD_eq_getElem?_getD, List.getElem?_map]
 cases ps[i]? <;> simp
section
variable {m : Int} {ps : List Int}
theorem quo_mul {c : Int} (hc : 0 < c) (i : Int) : quoS m (ps.map (· * c)) i = quoS m ps i := by
 unfold quoS
 rw [sum_mul, getD_mul, ← Int.mul_assoc, Int.mul_ediv_mul_of_pos_left _ _ hc]
theorem rem_mul {c : Int} (hc : 0 < c) (i : Int) : remS m (ps.map (· * c)) i = remS m ps i * c := by
 unfold remS
 rw [sum_mul, getD_mul, ← Int.mul_assoc, Int.mul_comm _ c, Int.mul_comm ps.sum c, Int.mul_emod_mul_of_pos _ _ hc, Int.mul_comm]
theorem rank_mul {c : Int} (hc : 0 < c) (i : Int) : rank (keyS m (ps.map (· * c))) ps.length i = rank (keyS m ps) ps.length i := by
 unfold rank
 refine List.countP_congr fun j _ => ?_
 simp only [decide_eq_true_eq]
 unfold prec keyS
 rw [rem_mul hc, rem_mul hc]
 have h1 : - (remS m ps j * c) < - (remS m ps i * c) ↔ - remS m ps j < - remS m ps i := by
  constructor
  ·intro h
   have : remS m ps i * c < remS m ps j * c := by omega
   have := Int.lt_of_mul_lt_mul_right this (by omega)
   omega
  ·intro h
   have : remS m ps i * c < remS m ps j * c := Int.mul_lt_mul_of_pos_right (by omega) hc
   omega
 have h2 : - (remS m ps j * c) = - (remS m ps i * c) ↔ - remS m ps j = - remS m ps i := by
  constructor
  ·intro h
   have : remS m ps j * c = remS m ps i * c := by omega
   have := Int.eq_of_mul_eq_mul_right (by omega : c ≠ 0) this
   omega
  ·intro h
   have : remS m ps j = remS m ps i := by omega
   rw [this]
 rw [h1, h2]
theorem share_mul {c : Int} (hc : 0 < c) : shareS m (ps.map (· * c)) = shareS m ps := by
 have hl : leftS m (ps.map (· * c)) = leftS m ps := by
  unfold leftS
  rw [List.length_map]
  congr 2
  exact List.map_congr_left fun i _ => quo_mul hc i
 unfold shareS
 rw [List.length_map, hl]
 refine List.map_congr_left fun i _ => ?_
 rw [quo_mul hc, rank_mul hc]
theorem getD_zero {i : Int} (h : i < (ps.length : Int)) (h0 : 0 ≤ i) : (ps ++ [0]).getD i.toNat 0 = ps.getD i.toNat 0 := by
 rw [List.getD_eq_getElem?_getD, List.getD_eq_getElem?_getD, List.getElem?_append_left (by omega)]
theorem sum_zero (ps : List Int) : (ps ++ [0]).sum = ps.sum := by simp
theorem quo_zero {i : Int} (h : i < (ps.length : Int)) (h0 : 0 ≤ i) : quoS m (ps ++ [0]) i = quoS m ps i := by unfold quoS; rw [getD_zero h h0, sum_zero]
theorem rem_zero {i : Int} (h : i < (ps.length : Int)) (h0 : 0 ≤ i) : remS m (ps ++ [0]) i = remS m ps i := by unfold remS; rw [getD_zero h h0, sum_zero]
theorem last_zero : (ps ++ [0]).getD ((ps.length : Nat) : Int).toNat 0 = (0 : Int) := by simp
theorem share_zero (g : Good m ps) : shareS m (ps ++ [0]) = shareS m ps ++ [0] := by
 have hq : quoS m (ps ++ [0]) (ps.length : Int) = 0 := by unfold quoS; rw [last_zero]; simp
 have hr : remS m (ps ++ [0]) (ps.length : Int) = 0 := by unfold remS; rw [last_zero]; simp
 have hl : leftS m (ps ++ [0]) = leftS m ps := by
  unfold leftS
  rw [List.length_append, List.length_singleton, rng_succ, List.map_append, List.sum_append]
  have : (rng ps.length).map (quoS m (ps ++ [0])) = (rng ps.length).map (quoS m ps) := List.map_congr_left fun i hi => quo_zero (mem_rng.1 hi).2 (mem_rng.1 hi).1
  rw [this]; simp [hq]
 unfold shareS
 rw [List.length_append, List.length_singleton, rng_succ, List.map_append, hl]
 congr 1
 ·refine List.map_congr_left fun i hi => ?_
  obtain ⟨h0, h1⟩ := mem_rng.1 hi
  rw [quo_zero h1 h0]
  have : rank (keyS m (ps ++ [0])) (ps.length + 1) i = rank (keyS m ps) ps.length i := by
   unfold rank
   rw [rng_succ, List.countP_append]
   have e1 : List.countP (fun j => decide (prec (keyS m (ps ++ [0])) j i)) [((ps.length : Nat) : Int)] = 0 := by
    rw [List.countP_eq_zero]
    intro j hj
    rw [List.mem_singleton.1 hj]
    have hb := rem_bound g i
    simp only [decide_eq_true_eq]
    unfold prec keyS
    rw [hr, rem_zero h1 h0]
    omega
   rw [e1, Nat.add_zero]
   refine List.countP_congr fun j hj => ?_
   obtain ⟨h2, h3⟩ := mem_rng.1 hj
   simp only [decide_eq_true_eq]
   unfold prec keyS
   rw [rem_zero h3 h2, rem_zero h1 h0]
  rw [this]
 ·have : ¬ rank (keyS m (ps ++ [0])) (ps.length + 1) (ps.length : Int) < (leftS m ps).toNat := by
   have h1 : ps.length ≤ rank (keyS m (ps ++ [0])) (ps.length + 1) (ps.length : Int) := by
    unfold rank
    rw [rng_succ, List.countP_append]
    have e1 : List.countP (fun j => decide (prec (keyS m (ps ++ [0])) j ((ps.length : Nat) : Int))) (rng ps.length) = (rng ps.length).length := by
     rw [List.countP_eq_length]
     intro j hj
     obtain ⟨h2, h3⟩ := mem_rng.1 hj
     have hb := rem_bound g j
     simp only [decide_eq_true_eq]
     unfold prec keyS
     rw [hr, rem_zero h3 h2]
     omega
    rw [e1, rng_len]; omega
   have := (left_bound g)
   omega
  simp only [List.map_cons, List.map_nil, hq, if_neg this]; rfl
def inT (m : Int) (ps : List Int) (i : Int) : Prop := rank (keyS m ps) ps.length i < (leftS m ps).toNat
theorem inT_rem (g : Good m ps) {i : Int} (h : inT m ps i) : 0 < remS m ps i := rank_nz g (by unfold inT at h; omega)
theorem share_exact (g : Good m ps) {i : Nat} (h : i < ps.length) : ∃ l, (shareS m ps)[i]'(by rw [share_len]; exact h) = l ∧ 0 ≤ l ∧ l ≤ 1000000000001 ∧ (inT m ps i ∧ l * ps.sum = m * ps[i] - remS m ps i + ps.sum ∧ 0 < remS m ps i ∨ ¬ inT m ps i ∧ l * ps.sum = m * ps[i] - remS m ps i) := by
 refine ⟨_, rfl, ?_⟩
 rw [share_at]
 have hq := quo_bound g (i : Int)
 have hqr := quo_rem m ps (i : Int)
 rw [getD_in h] at hqr
 by_cases hT : inT m ps i
 ·have hr := inT_rem g hT
  rw [if_pos (show rank (keyS m ps) ps.length (i : Int) < (leftS m ps).toNat from hT)]
  refine ⟨by omega, by omega, .inl ⟨hT, ?_, hr⟩⟩
  rw [Int.add_mul, Int.mul_comm]; omega
 ·rw [if_neg (show ¬ rank (keyS m ps) ps.length (i : Int) < (leftS m ps).toNat from hT)]
  refine ⟨by omega, by omega, .inr ⟨hT, ?_⟩⟩
  rw [Int.add_zero, Int.mul_comm]; omega
theorem rank_mono (_ : Good m ps) {i k : Int} (h : prec (keyS m ps) i k) : rank (keyS m ps) ps.length i ≤ rank (keyS m ps) ps.length k := by
 unfold rank
 refine List.countP_mono_left fun j _ hj => ?_
 simp only [decide_eq_true_eq] at hj ⊢
 unfold prec at hj h ⊢
 omega
theorem up_down (g : Good m ps) {i k : Int} (hi : inT m ps i) (hk : ¬ inT m ps k) : remS m ps k ≤ remS m ps i := by
 by_cases h : remS m ps k ≤ remS m ps i
 ·exact h
 ·have : prec (keyS m ps) k i := .inl (by unfold keyS; omega)
  have := rank_mono g this
  unfold inT at hi hk; omega
theorem same_part (g : Good m ps) {i k : Nat} (hik : i < k) (hk : k < ps.length) (he : ps[i]'(by omega) = ps[k]) (hT : inT m ps k) : inT m ps i := by
 have hr : remS m ps i = remS m ps k := by unfold remS; rw [getD_in (by omega), getD_in hk, he]
 have : prec (keyS m ps) (i : Int) (k : Int) := .inr ⟨by unfold keyS; rw [hr], by omega⟩
 have := rank_mono g this
 unfold inT at hT ⊢; omega
theorem share_sum (g : Good m ps) : (shareS m ps).sum = m := by
 obtain ⟨o, _, ho1, ho2⟩ := s22 g
 have hlb := left_bound g
 have hol : o.length = ps.length := by rw [← (ord_perm ho1).length_eq, rng_len]
 have key : ∀ (l : List Int) (f : Int → Int) (c : Int → Nat), (l.map fun i => f i + (c i : Int)).sum = (l.map f).sum + ((l.map c).sum : Nat) := by
  intro l f c
  induction l with
  | nil => simp
  | cons a l ih => simp only [List.map_cons, List.sum_cons, ih]; omega
 have cnt : ∀ (L : List Int), (∀ x ∈ L, x ∈ rng ps.length) → ((rng ps.length).map fun i => L.count i).sum = L.length := by
  intro L
  induction L with
  | nil =>
   intro _
   have : ∀ R : List Int, (R.map fun i => ([] : List Int).count i).sum = 0 := by
    intro R
    induction R with
    | nil => rfl
    | cons b R ih => rw [List.map_cons, List.sum_cons, ih]; simp
   exact this _
  | cons a L ih =>
   intro hm
   have h1 := ih fun x hx => hm x (by simp [hx])
   have hone : ∀ (R : List Int), R.Nodup → (R.map fun i => (a :: L).count i).sum = (R.map fun i => L.count i).sum + if a ∈ R then 1 else 0 := by
    intro R hR
    induction R with
    | nil => simp
    | cons b R ihR =>
     obtain ⟨hb, hR⟩ := List.nodup_cons.1 hR
     rw [List.map_cons, List.map_cons, List.sum_cons, List.sum_cons, ihR hR, List.count_cons]
     by_cases hab : a = b
     ·subst hab; simp [hb]; omega
     ·simp [hab]; omega
   rw [hone _ ((rng_asc _).imp fun h => by omega), h1, if_pos (hm a (by simp))]; rfl
 have e : shareS m ps = (rng ps.length).map fun i => quoS m ps i + (((o.take (leftS m ps).toNat).count i : Nat) : Int) := by
  unfold shareS
  refine List.map_congr_left fun i hi => ?_
  rw [ord_take ho1 ho2 (mem_rng.1 hi)]
  split <;> rfl
 rw [e, key, cnt _ fun x hx => (ord_perm ho1).mem_iff.2 (List.mem_of_mem_take hx), List.length_take]
 unfold leftS at hlb ⊢
 omega
end
end Go.Proofs.Ytkmbkaoolacofaa
