/- Plain laws: the shares of money. -/
import Derived.Test.YtkmbkaoolacofaaSortR
set_option maxRecDepth 8000
namespace Go.Proofs.Ytkmbkaoolacofaa
open Go.RowKit
open Classical

/-! ### The order in which what is left is given away -/
def rng (n : Nat) : List Int := (List.range n).map fun i : Nat => (i : Int)
theorem rng_len (n : Nat) : (rng n).length = n := by simp [rng]
theorem mem_rng {n : Nat} {x : Int} : x ∈ rng n ↔ 0 ≤ x ∧ x < (n : Int) := by
 unfold rng
 rw [List.mem_map]
 constructor
 ·rintro ⟨i, hi, rfl⟩; have := List.mem_range.1 hi; omega
 ·intro h; exact ⟨x.toNat, List.mem_range.2 (by omega), by omega⟩
theorem rng_asc (n : Nat) : (rng n).Pairwise (· < ·) := by
 unfold rng
 rw [List.pairwise_map]
 exact List.pairwise_lt_range.imp fun h => by omega
theorem rng_get {n i : Nat} (h : i < (rng n).length) : (rng n)[i] = (i : Int) := by simp [rng]
section
variable {key : Int → Int} {n : Nat} {o : List Int}
def prec (key : Int → Int) (j i : Int) : Prop := key j < key i ∨ key j = key i ∧ j < i
noncomputable def rank (key : Int → Int) (n : Nat) (i : Int) : Nat := (rng n).countP fun j => decide (prec key j i)
theorem ord_perm (h : Stab key (rng n) o) : (rng n).Perm o := by
 rw [List.perm_iff_count]
 intro a
 have h1 := congrArg (List.count a) (h (key a))
 rwa [List.count_filter (by simp), List.count_filter (by simp)] at h1
theorem ord_prec (h : Stab key (rng n) o) (hs : Srt key o) : o.Pairwise (prec key) := by
 rw [List.pairwise_iff_forall_sublist]
 intro a b hab
 have h1 : key a ≤ key b := by
  have := List.pairwise_iff_forall_sublist.1 hs hab
  exact this
 rcases Int.lt_or_eq_of_le h1 with h2 | h2
 ·exact .inl h2
 ·refine .inr ⟨h2, ?_⟩
  have h3 := hab.filter (fun x => key x == key a)
  rw [← h (key a)] at h3
  have h4 : [a, b].filter (fun x => key x == key a) = [a, b] := by simp [h2]
  rw [h4] at h3
  exact List.pairwise_iff_forall_sublist.1 (rng_asc n) (h3.trans List.filter_sublist)
theorem prec_irr (i : Int) : ¬ prec key i i := fun h => by rcases h with h | h <;> omega
theorem prec_asym {i j : Int} (h : prec key i j) : ¬ prec key j i := fun k => by rcases h with h | h <;> rcases k with k | k <;> omega
theorem ord_rank (h : Stab key (rng n) o) (hs : Srt key o) {A B : List Int} {i : Int} (ho : o = A ++ i :: B) : rank key n i = A.length := by
 unfold rank
 rw [(ord_perm h).countP_eq]
 have hp := ord_prec h hs
 rw [ho] at hp ⊢
 obtain ⟨_, h2, h3⟩ := List.pairwise_append.1 hp
 obtain ⟨h4, _⟩ := List.pairwise_cons.1 h2
 rw [List.countP_append, List.countP_cons]
 have e1 : A.countP (fun j => decide (prec key j i)) = A.length := List.countP_eq_length.2 fun a ha => by simpa using h3 a ha i (by simp)
 have e2 : B.countP (fun j => decide (prec key j i)) = 0 := List.countP_eq_zero.2 fun b hb => by simpa using prec_asym (h4 b hb)
 rw [e1, e2]
 simp [prec_irr i]
theorem ord_nodup (h : Stab key (rng n) o) : o.Nodup := by
 have : (rng n).Nodup := (rng_asc n).imp fun h => by omega
 exact (ord_perm h).nodup_iff.1 this
theorem ord_take (h : Stab key (rng n) o) (hs : Srt key o) {i : Int} (hi : 0 ≤ i ∧ i < (n : Int)) (k : Nat) : (o.take k).count i = if rank key n i < k then 1 else 0 := by
 have hm : i ∈ o := (ord_perm h).mem_iff.1 (mem_rng.2 hi)
 obtain ⟨A, B, ho⟩ := List.append_of_mem hm
 rw [ord_rank h hs ho]
 have hn := ord_nodup h
 rw [ho] at hn ⊢
 obtain ⟨_, h2, h3⟩ := List.nodup_append.1 hn
 have hA : i ∉ A := fun ha => h3 i ha i (by simp) rfl
 have hB : i ∉ B := (List.nodup_cons.1 h2).1
 by_cases hk : A.length < k
 ·rw [if_pos hk, List.take_append, List.take_of_length_le (by omega)]
  obtain ⟨m, hm⟩ : ∃ m, k - A.length = m + 1 := ⟨k - A.length - 1, by omega⟩
  rw [hm, List.take_succ_cons, List.count_append, List.count_cons_self, List.count_eq_zero.2 hA, List.count_eq_zero.2 fun hb => hB (List.mem_of_mem_take hb)]
 ·rw [if_neg hk, List.take_append_of_le_length (by omega)]
  exact List.count_eq_zero.2 fun ha => hA (List.mem_of_mem_take ha)
end

/-! ### Shares -/
def quoS (m : Int) (ps : List Int) (i : Int) : Int := m * ps.getD i.toNat 0 / ps.sum
def remS (m : Int) (ps : List Int) (i : Int) : Int := m * ps.getD i.toNat 0 % ps.sum
def keyS (m : Int) (ps : List Int) (i : Int) : Int := - remS m ps i
def leftS (m : Int) (ps : List Int) : Int := m - ((rng ps.length).map (quoS m ps)).sum
structure Good (m : Int) (ps : List Int) : Prop where
 m0 : 0 ≤ m
 m1 : m ≤ 1000000000
 l : ps.length ≤ 10
 p : ∀ x ∈ ps, 0 ≤ x ∧ x ≤ 1000
 s : 0 < ps.sum
theorem sum_bound : ∀ {ps : List Int}, (∀ x ∈ ps, 0 ≤ x ∧ x ≤ 1000) → 0 ≤ ps.sum ∧ ps.sum ≤ 1000 * ps.length
 | [], _ => by simp
 | x :: ps, h => by
  have h1 := h x (by simp)
  have h2 := sum_bound (ps := ps) fun y hy => h y (by simp [hy])
  simp only [List.sum_cons, List.length_cons]; omega
section
variable {m : Int} {ps : List Int}
theorem Good.at (g : Good m ps) (i : Int) : 0 ≤ ps.getD i.toNat 0 ∧ ps.getD i.toNat 0 ≤ 1000 := by
 rw [List.getD_eq_getElem?_getD]
 rcases Nat.lt_or_ge i.toNat ps.length with h | h
 ·rw [List.getElem?_eq_getElem h]; exact g.p _ (List.getElem_mem h)
 ·rw [List.getElem?_eq_none h]; simp
theorem Good.prod (g : Good m ps) (i : Int) : 0 ≤ m * ps.getD i.toNat 0 ∧ m * ps.getD i.toNat 0 ≤ 1000000000000 := by
 have h := g.at i
 have := mul_le g.m0 g.m1 h.1 h.2
 omega
theorem Good.sum (g : Good m ps) : ps.sum ≤ 10000 := by have := (sum_bound g.p).2; have := g.l; omega
theorem idx_at {i : Int} (h : 0 ≤ i ∧ i < (ps.length : Int)) : idx ps i = some (ps.getD i.toNat 0) := by
 have hl : i.toNat < ps.length := by omega
 unfold idx; rw [if_pos h.1, List.getD_eq_getElem?_getD, List.getElem?_eq_getElem hl]; rfl
theorem s23 (g : Good m ps) {i k : Int} (hi : 0 ≤ i ∧ i < (ps.length : Int)) (hk : 0 ≤ k ∧ k < (ps.length : Int)) : f23 i k m ps ps.sum = some (if remS m ps k < remS m ps i then -1 else if remS m ps i < remS m ps k then 1 else 0) := by
 have e1 := g.prod i; have e2 := g.prod k
 unfold f23
 rw [idx_at hk, idx_at hi]
 simp only [Option.bind_some]
 rw [w64_id (n := m * ps.getD k.toNat 0) (by omega) (by omega), w64_id (n := m * ps.getD i.toNat 0) (by omega) (by omega), qrem e2.1 g.s, qrem e1.1 g.s]
 simp only [Option.bind_some]
 rw [s24]; rfl
theorem s22 (g : Good m ps) : Yes (f22 (rng ps.length) (fun a0 a1 => f23 a0 a1 m ps ps.sum)) fun o => Stab (keyS m ps) (rng ps.length) o ∧ Srt (keyS m ps) o := by
 have hl := g.l
 unfold f22
 refine Yes.bind (Yes.mono (Q' := fun o => Stab (keyS m ps) (rng ps.length) o ∧ Srt (keyS m ps) o) ?_ fun o ho => Yes.some ho)
 unfold f43
 rw [rng_len]
 refine Yes.bind (Yes.mono (Q' := fun r => r = (rng ps.length, (0 : Int))) ?_ fun r hr => ?_)
 ·refine Yes.lp (fun s => s = (rng ps.length, (0 : Int), (20 : Int))) (fun _ => 0) rfl (by decide) ?_
  rintro s k rfl hk
  exact Yes.jn (qskip (by simp; omega) (Yes.some rfl))
 ·subst hr
  simp only
  refine Yes.bind (Yes.mono (s68 (key := keyS m ps) (xs := rng ps.length) (P := []) (X := rng ps.length) (S := []) (fun x y hx hy => ⟨_, s23 g (mem_rng.1 hx) (mem_rng.1 hy), ?_⟩) (by simp) (by simp) (by simp [rng_len]) (by rw [rng_len]; omega)) fun o ho => ?_)
  ·unfold keyS
   by_cases h1 : remS m ps y < remS m ps x
   ·simp [h1]
   ·by_cases h2 : remS m ps x < remS m ps y
    ·rw [if_neg h1, if_pos h2]; constructor <;> intro h <;> omega
    ·rw [if_neg h1, if_neg h2]; constructor <;> intro h <;> omega
  ·obtain ⟨Y, rfl, h1, h2⟩ := ho
   simp only [List.nil_append, List.append_nil]
   refine Yes.lp (fun s => s = (Y, (20 : Int))) (fun _ => 0) rfl (by decide) ?_
   rintro s k rfl hk
   exact Yes.jn (qskip (by simp; omega) (Yes.some ⟨h1, h2⟩))
end
theorem rem_sum (m all : Int) (hall : 0 < all) : ∀ ps : List Int, (ps.map fun p => m * p % all).sum = m * ps.sum - all * (ps.map fun p => m * p / all).sum
 | [] => by simp
 | p :: ps => by
  have ih := rem_sum m all hall ps
  simp only [List.map_cons, List.sum_cons, ih]
  have := Int.emod_add_mul_ediv (m * p) all
  rw [Int.mul_add, Int.mul_add]; omega
end Go.Proofs.Ytkmbkaoolacofaa
