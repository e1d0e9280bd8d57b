/- Plain laws: what Share returns. -/
import Derived.Test.YtkmbkaoolacofaaLawB
set_option maxRecDepth 8000
namespace Go.Proofs.Ytkmbkaoolacofaa
open Go.RowKit
open Classical

theorem rng_succ (n : Nat) : rng (n + 1) = rng n ++ [(n : Int)] := by simp [rng, List.range_succ]
theorem rng_map {β : Type} (ps : List Int) (F : Int → β) : (rng ps.length).map (fun i => F (ps.getD i.toNat 0)) = ps.map F := by
 apply List.ext_getElem (by simp [rng_len])
 intro i h1 h2
 rw [List.length_map, rng_len] at h1
 simp only [List.getElem_map, rng_get, Int.toNat_natCast]
 rw [List.getD_eq_getElem?_getD, List.getElem?_eq_getElem h1]; rfl
theorem nz_bound (all : Int) : ∀ (l : List Int), (∀ r ∈ l, 0 ≤ r ∧ r < all) → 0 ≤ l.sum ∧ l.sum ≤ (l.countP fun r => decide (0 < r)) * (all - 1)
 | [], _ => by simp
 | r :: l, h => by
  have h1 := h r (by simp)
  have ih := nz_bound all l fun x hx => h x (by simp [hx])
  rw [List.countP_cons, List.sum_cons]
  by_cases h0 : 0 < r
  ·have e : decide (0 < r) = true := decide_eq_true h0
   rw [e, if_pos rfl]
   rw [show (((l.countP fun r => decide (0 < r)) + 1 : Nat) : Int) = ((l.countP fun r => decide (0 < r) : Nat) : Int) + 1 by omega, Int.add_mul]
   omega
  ·have e : decide (0 < r) = false := decide_eq_false h0
   rw [e]; simp only [Bool.false_eq_true, if_false, Nat.add_zero]; omega
section
variable {m : Int} {ps : List Int}
theorem rem_bound (g : Good m ps) (i : Int) : 0 ≤ remS m ps i ∧ remS m ps i < ps.sum := ⟨Int.emod_nonneg _ (by have := g.s; omega), Int.emod_lt_of_pos _ g.s⟩
theorem quo_bound (g : Good m ps) (i : Int) : 0 ≤ quoS m ps i ∧ quoS m ps i ≤ 1000000000000 := by
 have h := g.prod i
 exact ⟨Int.ediv_nonneg h.1 (by have := g.s; omega), Int.le_trans (Int.ediv_le_self _ h.1) h.2⟩
noncomputable def nzS (m : Int) (ps : List Int) : Nat := (rng ps.length).countP fun j => decide (0 < remS m ps j)
theorem left_sum (m : Int) (ps : List Int) (hs : 0 < ps.sum) : ps.sum * leftS m ps = ((rng ps.length).map (remS m ps)).sum := by
 have e1 : (rng ps.length).map (remS m ps) = ps.map fun p => m * p % ps.sum := rng_map ps fun p => m * p % ps.sum
 have e2 : (rng ps.length).map (quoS m ps) = ps.map fun p => m * p / ps.sum := rng_map ps fun p => m * p / ps.sum
 unfold leftS
 rw [e1, e2, rem_sum m ps.sum hs ps, Int.mul_sub, Int.mul_comm m ps.sum]
theorem left_bound (g : Good m ps) : 0 ≤ leftS m ps ∧ leftS m ps ≤ nzS m ps ∧ (nzS m ps : Int) ≤ ps.length := by
 have h1 := left_sum m ps g.s
 have h2 := nz_bound ps.sum ((rng ps.length).map (remS m ps)) fun r hr => by obtain ⟨i, _, rfl⟩ := List.mem_map.1 hr; exact rem_bound g i
 rw [← h1, List.countP_map] at h2
 have h3 : (List.countP ((fun r => decide (0 < r)) ∘ remS m ps) (rng ps.length)) = nzS m ps := rfl
 rw [h3] at h2
 have hs := g.s
 refine ⟨?_, ?_, ?_⟩
 ·by_cases h : 0 ≤ leftS m ps
  ·exact h
  ·have : ps.sum * leftS m ps < 0 := Int.mul_neg_of_pos_of_neg hs (by omega)
   omega
 ·have h4 : (nzS m ps : Int) * (ps.sum - 1) ≤ ps.sum * (nzS m ps : Int) := by
   rw [Int.mul_sub, Int.mul_comm]; omega
  exact Int.le_of_mul_le_mul_left (Int.le_trans h2.2 h4) hs
 ·have : nzS m ps ≤ (rng ps.length).length := List.countP_le_length
  rw [rng_len] at this; omega
theorem rank_nz (g : Good m ps) {i : Int} (h : (rank (keyS m ps) ps.length i : Int) < leftS m ps) : 0 < remS m ps i := by
 by_cases h0 : 0 < remS m ps i
 ·exact h0
 ·have hz : remS m ps i = 0 := by have := rem_bound g i; omega
  have : nzS m ps ≤ rank (keyS m ps) ps.length i := by
   unfold nzS rank
   refine List.countP_mono_left fun j _ hj => ?_
   have hj : 0 < remS m ps j := by simpa using hj
   simp only [decide_eq_true_eq]
   left; unfold keyS; omega
  have := (left_bound g).2.1
  omega
noncomputable def shareS (m : Int) (ps : List Int) : List Int := (rng ps.length).map fun i => quoS m ps i + if rank (keyS m ps) ps.length i < (leftS m ps).toNat then 1 else 0
theorem share_len (m : Int) (ps : List Int) : (shareS m ps).length = ps.length := by simp [shareS, rng_len]
theorem share_at {i : Nat} (h : i < (shareS m ps).length) : (shareS m ps)[i] = quoS m ps i + if rank (keyS m ps) ps.length i < (leftS m ps).toNat then 1 else 0 := by
 simp only [shareS, List.getElem_map, rng_get]
theorem sums_bound (g : Good m ps) : ∀ i : Nat, 0 ≤ ((rng i).map (quoS m ps)).sum ∧ ((rng i).map (quoS m ps)).sum ≤ 1000000000000 * i
 | 0 => by simp [rng]
 | i + 1 => by
  have ih := sums_bound g i
  have := quo_bound g i
  rw [rng_succ, List.map_append, List.sum_append]
  simp only [List.map_cons, List.map_nil, List.sum_cons, List.sum_nil]
  omega
theorem sum_take (ps : List Int) {i : Nat} (h : i < ps.length) : (ps.take (i + 1)).sum = (ps.take i).sum + ps[i] := by
 rw [List.take_succ_eq_append_getElem h, List.sum_append]; simp
theorem s7 (g : Good m ps) : f7 m ps = some (shareS m ps, 0) := by
 have hl := g.l
 have hsb := g.sum
 have hm0 := g.m0; have hm1 := g.m1
 refine Yes.eq ?_
 unfold f7
 refine Yes.bind (Yes.mono (Q' := fun r => r = ps.sum) ?_ fun r hr => ?_)
 ·refine Yes.upto ps.length (by omega) (fun i s => s = (ps.take i).sum) rfl (fun i s k hi hI hk => ?_) (fun s k hI => ?_)
  ·have hx := g.p _ (List.getElem_mem hi)
   have hb := sum_bound (ps := ps.take i) fun x hx => g.p x (List.mem_of_mem_take hx)
   rw [List.length_take] at hb
   refine qtake (by simp; omega) (Yes.bind (Yes.bind (Yes.idx rfl hi (Yes.some ?_))))
   rw [min64_eq, max64_eq, show min (max ps[i] 0) 1000 = ps[i] by omega, w64_id (by omega) (by omega)]
   exact hk _ (by rw [sum_take ps hi, hI])
  ·exact qskip (by simp) (Yes.some (by rw [hI, List.take_length]))
 subst hr
 refine Yes.jn ?_
 have h21 : ([m] : List Int).all (btw 0 1000000000) = true := by simp [btw]; omega
 have h22 : ps.all (btw 0 1000) = true := List.all_eq_true.2 fun x hx => btw_iff.2 (g.p x hx)
 rw [s21 _ _ _ (by simp), s21 _ _ _ (by omega), h21, h22]
 refine Yes.bind (Yes.some (qskip rfl (qskip (by simp; omega) (Yes.bind (Yes.bind (Yes.some (qskip rfl (Yes.some (qskip ?_ ?_)))))))))
 ·have := g.s; simp; omega
 refine qbind (List.replicate ps.length 0) (by unfold mks; rw [if_pos ⟨by omega, by omega, by omega⟩]; simp) ?_
 refine Yes.bind (Yes.mono (Q' := fun r => r = ((rng ps.length).map (quoS m ps), leftS m ps, rng ps.length)) ?_ fun r hr => ?_)
 ·refine Yes.lp (fun s => ∃ i : Nat, s.2.2.2 = i ∧ i ≤ ps.length ∧ s.1 = (rng i).map (quoS m ps) ∧ s.2.1 = m - ((rng i).map (quoS m ps)).sum ∧ s.2.2.1.length = ps.length ∧ ∀ j (h : j < s.2.2.1.length), j < i → s.2.2.1[j] = (j : Int)) (fun s => ps.length - s.2.2.2.toNat)
   ⟨0, rfl, Nat.zero_le _, rfl, by simp [rng], by simp, fun _ _ h => absurd h (Nat.not_lt_zero _)⟩ (by simp only; omega) ?_
  rintro ⟨xs, l, od, i'⟩ k ⟨i, hi, hle, hx, hlft, hol, hod⟩ hk
  simp only at hi hx hlft hol hod
  subst hi
  refine Yes.cond (fun h => ?_) (fun h => Yes.some ?_)
  ·have hlt : i < ps.length := by simp at h; omega
   have hat : ps[i] = ps.getD (i : Int).toNat 0 := by rw [Int.toNat_natCast, List.getD_eq_getElem?_getD, List.getElem?_eq_getElem hlt]; rfl
   have hp := g.prod (i : Int)
   have hq := quo_bound g (i : Int)
   have hsum := sums_bound g i
   refine Yes.bind (Yes.bind (Yes.idx rfl hlt ?_))
   rw [hat, w64_id (n := m * _) (by omega) (by omega)]
   refine qbind (quoS m ps i) (quo_nn hp.1 (by omega) g.s) ?_
   have hxl : xs.length = i := by rw [hx]; simp [rng_len]
   refine Yes.bind (Yes.apnd (by simp; omega) (by simp; omega) (Yes.bind (Yes.idx rfl (by omega) (Yes.bind (Yes.idx (n := i) rfl (by simp; omega) (Yes.some ?_))))))
   have he : (xs ++ [quoS m ps i])[i]'(by simp; omega) = quoS m ps i := by rw [List.getElem_append_right (by omega)]; simp [hxl]
   rw [he, w64_id (n := l - quoS m ps i) (by omega) (by omega), w64_id (n := (i : Int) + 1) (by omega) (by omega)]
   refine hk _ ⟨i + 1, by simp, hlt, ?_, ?_, by simp [hol], fun j hj hji => ?_⟩ (by simp only; omega)
   ·rw [rng_succ, List.map_append, ← hx]; rfl
   ·simp only; rw [rng_succ, List.map_append, List.sum_append, hlft]; simp; omega
   ·simp only [Int.toNat_natCast] at hj ⊢
    rw [List.getElem_set]
    split
    ·rename_i e; rw [e]
    ·rename_i e
     exact hod j (by simpa using hj) (by omega)
  ·have : i = ps.length := by simp at h; omega
   subst this
   rw [hx, hlft]
   have : od = rng ps.length := List.ext_getElem (by rw [hol, rng_len]) fun j h1 h2 => by rw [hod j h1 (by omega), rng_get]
   rw [this]; rfl
 subst hr
 simp only
 refine Yes.bind (Yes.mono (s22 g) fun o ho => ?_)
 obtain ⟨ho1, ho2⟩ := ho
 have hlb := left_bound g
 have hol : o.length = ps.length := by rw [← (ord_perm ho1).length_eq, rng_len]
 refine Yes.bind (Yes.mono (Q' := fun r => r = shareS m ps) ?_ fun r hr => by rw [hr]; exact Yes.some rfl)
 refine qbind (o.take (leftS m ps).toNat) (by unfold cut; rw [if_pos ⟨by omega, hlb.1, by omega⟩]; rfl) ?_
 refine Yes.upto (o.take (leftS m ps).toNat).length (by rw [List.length_take]; omega) (fun j s => s.length = ps.length ∧ ∀ i (h : i < s.length), s[i] = quoS m ps i + (((o.take (leftS m ps).toNat).take j).count (i : Int) : Nat)) ⟨by simp [rng_len], fun i h => by simp [rng_get]⟩ (fun j s k hj hI hk => ?_) (fun s k hI => ?_)
 ·obtain ⟨hsl, hI⟩ := hI
  have hmem : (o.take (leftS m ps).toNat)[j] ∈ rng ps.length := (ord_perm ho1).mem_iff.2 (List.mem_of_mem_take (List.getElem_mem hj))
  obtain ⟨h0, h1⟩ := mem_rng.1 hmem
  obtain ⟨x, hx⟩ : ∃ x, x = (o.take (leftS m ps).toNat)[j] := ⟨_, rfl⟩
  rw [← hx] at h0 h1
  have hq := quo_bound g x
  have hxn : x.toNat < s.length := by omega
  have hcnt : ((o.take (leftS m ps).toNat).take j).count ((x.toNat : Nat) : Int) ≤ 10 := by
   refine Nat.le_trans List.count_le_length ?_
   rw [List.length_take, List.length_take]; omega
  refine qtake (decide_eq_true (by omega)) (Yes.bind (Yes.bind (Yes.idx rfl hj ?_)))
  rw [← hx]
  have hxe : x = ((x.toNat : Nat) : Int) := by omega
  refine Yes.bind (Yes.idx (n := x.toNat) hxe hxn (Yes.bind (Yes.idx (n := x.toNat) hxe hxn (Yes.some (hk _ ⟨by simp [hsl], fun i hi => ?_⟩)))))
  rw [List.take_succ_eq_append_getElem hj, ← hx, List.count_append, List.getElem_set]
  have e0 := hI x.toNat hxn
  rw [show ((x.toNat : Nat) : Int) = x by omega] at e0 hcnt
  split
  ·rename_i e
   subst e
   rw [e0, show ((x.toNat : Nat) : Int) = x by omega, w64_id (by omega) (by omega)]
   simp; omega
  ·rename_i e
   have hne : ¬ x = (i : Int) := fun h => e (by omega)
   rw [hI i (by simpa using hi)]
   simp [hne]
 ·obtain ⟨hsl, hI⟩ := hI
  refine qskip (by simp) (Yes.some ?_)
  refine List.ext_getElem (by rw [hsl, share_len]) fun i h1 h2 => ?_
  have h3 : i < ps.length := by rw [← hsl]; exact h1
  rw [hI i h1, share_at h2, List.take_length, ord_take ho1 ho2 (by omega)]
  split <;> rfl
end
end Go.Proofs.Ytkmbkaoolacofaa
/- Plain laws: shares add up; with all parts multiplied, and with a part of nothing more, they stay. -/
set_option maxRecDepth 8000
namespace Go.Proofs.Ytkmbkaoolacofaa
open Go.RowKit
open Classical

theorem getD_in {ps : List Int} {i : Nat} (h : i < ps.length) : ps.getD (i : Int).toNat 0 = ps[i] := by
 rw [Int.toNat_natCast, List.getD_eq_getElem?_getD, List.getElem?_eq_getElem h]; rfl
section
variable {m : Int} {ps : List Int}
end
end Go.Proofs.Ytkmbkaoolacofaa
