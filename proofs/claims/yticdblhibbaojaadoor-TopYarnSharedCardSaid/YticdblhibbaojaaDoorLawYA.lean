/- TopYarnShared: the shares of a lot are the whole lot; sets of lots. -/
import Derived.Test.YticdblhibbaojaaDoorShY3
set_option maxRecDepth 8000
namespace Go.Proofs.YticdblhibbaojaaDoor
open Go.RowKit
open Classical

section
variable {m : Int} {ps : List Int}
theorem share_sumS (g : GoodS m ps) : (shareSS m ps).sum = m := by
 obtain ⟨o, _, ho1, ho2⟩ := s22S g
 have hlb := left_boundS g
 have hol : o.length = ps.length := by rw [← (ord_permS ho1).length_eq, rng_lenS]
 have key : ∀ (l : List Int) (f : Int → Int) (c : Int → Nat), (l.map fun i => f i + (c i : Int)).sum = (l.map f).sum + ((l.map c).sum : Nat) := by
  intro l f c
  induction l with
  | nil => simp
  | cons a l ih => simp only [List.map_cons, List.sum_cons, ih]; omega
 have cnt : ∀ (L : List Int), (∀ x ∈ L, x ∈ rngS ps.length) → ((rngS ps.length).map fun i => L.count i).sum = L.length := by
  intro L
  induction L with
  | nil =>
   intro _
   have : ∀ R : List Int, (R.map fun i => ([] : List Int).count i).sum = 0 := by
    intro R
    induction R with
    | nil => rfl
    | cons b R ih => rw [List.map_cons, List.sum_cons, ih]; simp
   exact this _
  | cons a L ih =>
   intro hm
   have h1 := ih fun x hx => hm x (by simp [hx])
   have hone : ∀ (R : List Int), R.Nodup → (R.map fun i => (a :: L).count i).sum = (R.map fun i => L.count i).sum + if a ∈ R then 1 else 0 := by
    intro R hR
    induction R with
    | nil => simp
    | cons b R ihR =>
     obtain ⟨hb, hR⟩ := List.nodup_cons.1 hR
     rw [List.map_cons, List.map_cons, List.sum_cons, List.sum_cons, ihR hR, List.count_cons]
     by_cases hab : a = b
     ·subst hab; simp [hb]; omega
     ·simp [hab]; omega
   rw [hone _ ((rng_ascS _).imp fun h => by omega), h1, if_pos (hm a (by simp))]; rfl
 have e : shareSS m ps = (rngS ps.length).map fun i => quoSS m ps i + (((o.take (leftSS m ps).toNat).count i : Nat) : Int) := by
  unfold shareSS
  refine List.map_congr_left fun i hi => ?_
  rw [ord_takeS ho1 ho2 (mem_rngS.1 hi)]
  split <;> rfl
 rw [e, key, cnt _ fun x hx => (ord_permS ho1).mem_iff.2 (List.mem_of_mem_take hx), List.length_take]
 unfold leftSS at hlb ⊢
 omega
theorem share_nnS (g : GoodS m ps) {i : Nat} (h : i < (shareSS m ps).length) : 0 ≤ (shareSS m ps)[i] ∧ (shareSS m ps)[i] ≤ 1000000000001 := by
 rw [share_atS h]
 have := quo_boundS g (i : Int)
 split <;> omega
end
/-! ### Sets of lots -/
def blY (n : Nat) : List Int := ((List.range 6).filter fun i => n.testBit i).map fun (i : Nat) => (i : Int)
theorem all_ok : (List.range 64).all (fun n => decide (f25 ⟨(n : Int)⟩ = some (blY n))) = true := by kernel_rfl
theorem s25 {n : Nat} (h : n < 64) : f25 ⟨(n : Int)⟩ = some (blY n) := of_decide_eq_true (List.all_eq_true.1 all_ok n (List.mem_range.2 h))
theorem bl_small : (List.range 64).all (fun n => decide (1 ≤ n → blY n ≠ []) && decide ((blY n).length ≤ 6) && (List.range 7).all fun (k : Nat) => decide (n < 2 ^ k → ∀ x ∈ blY n, 0 ≤ x ∧ x < (k : Int))) = true := by kernel_rfl
theorem bl_props {n : Nat} (h : n < 64) : (1 ≤ n → blY n ≠ []) ∧ (blY n).length ≤ 6 ∧ ∀ k : Nat, k ≤ 6 → n < 2 ^ k → ∀ x ∈ blY n, 0 ≤ x ∧ x < (k : Int) := by
 have h1 := List.all_eq_true.1 bl_small n (List.mem_range.2 h)
 simp only [Bool.and_eq_true, decide_eq_true_eq] at h1
 exact ⟨h1.1.1, h1.1.2, fun k hk => of_decide_eq_true (List.all_eq_true.1 h1.2 k (List.mem_range.2 (by omega)))⟩
theorem bl_asc (n : Nat) : (blY n).Pairwise (· < ·) := by
 unfold blY
 refine List.Pairwise.map _ (fun a b h => Int.ofNat_lt.2 h) ((List.pairwise_lt_range).filter _)
end Go.Proofs.YticdblhibbaojaaDoor
