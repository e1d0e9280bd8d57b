/- Plain laws: pay's own check of a table (PayMends). -/
import Derived.Test.YtkmbkaoolacofaaGreatLawMA
set_option maxRecDepth 8000
namespace Go.Proofs.YtkmbkaoolacofaaGreat
open Go.RowKit
open Classical

theorem s99 {n : Int} (h0 : 0 ≤ n) (h1 : n ≤ 1000) : f99 n = some [] := by
 refine Yes.eq ?_
 unfold f99
 have hw : w64 (n - w64 (((0 : Nat) : Int) - ((([] : List Int)).length : Int))) = n := by
  rw [show (((0 : Nat) : Int) - ((([] : List Int)).length : Int)) = 0 by simp, w64_id (n := 0) (by omega) (by omega), w64_id (by omega) (by omega)]; omega
 refine Yes.bind (qskip (decide_eq_false (by omega)) (Yes.some (Yes.bind ?_)))
 rw [hw]
 refine Yes.cond (fun hc => qbind () ?_ (Yes.some (Yes.some rfl))) (fun _ => Yes.some (Yes.some rfl))
 have := of_decide_eq_true hc
 unfold grwz; rw [if_pos ⟨by omega, by omega, by omega⟩]
theorem flat_snoc {xs : List (List Int)} {i : Nat} (h : i < xs.length) : (xs.take (i + 1)).flatten = (xs.take i).flatten ++ xs[i] := by
 rw [take_succ' h, List.flatten_append]; simp
theorem flat_le : ∀ {xs : List (List Int)} {k : Nat}, (∀ x ∈ xs, x.length ≤ k) → xs.flatten.length ≤ xs.length * k
 | [], _, _ => by simp
 | x :: xs, k, h => by
  have h1 := flat_le (xs := xs) (k := k) fun y hy => h y (by simp [hy])
  have h2 := h x (by simp)
  simp only [List.flatten_cons, List.length_append, List.length_cons, Nat.add_mul, Nat.one_mul]
  omega
theorem s69 {xs : List (List Int)} (h1 : xs.length ≤ 10) (h2 : ∀ x ∈ xs, x.length ≤ 10) : f69 xs = some xs.flatten := by
 refine Yes.eq ?_
 have hb : ∀ i, (xs.take i).flatten.length ≤ 100 := fun i => by
  have := flat_le (xs := xs.take i) (k := 10) fun x hx => h2 x (List.mem_of_mem_take hx)
  have h3 : (xs.take i).length ≤ 10 := by simp; omega
  have := Nat.mul_le_mul_right 10 h3
  omega
 unfold f69
 refine Yes.bind (Yes.mono (Q' := fun r => r = (xs.flatten.length : Int)) ?_ fun n hn => ?_)
 ·refine Yes.upto xs.length (by omega) (fun i s => s = ((xs.take i).flatten.length : Int)) (by simp) (fun i s k hi hI hk => ?_) (fun s k hI => qskip (by simp) (Yes.some (by rw [hI, List.take_length])))
  have h3 := hb i
  have h4 := h2 _ (List.getElem_mem hi)
  have hw : w64 (s + (xs[i].length : Int)) = ((xs.take (i + 1)).flatten.length : Int) := by
   rw [flat_snoc hi, List.length_append, hI, w64_id (by omega) (by omega)]; simp
  refine qtake (by simp; omega) (Yes.bind (qbind _ (qidx hi) ?_))
  rw [hw]
  exact qskip (decide_eq_false (by omega)) (Yes.some (hk _ rfl))
 ·subst hn
  have h3 := hb xs.length
  rw [List.take_length] at h3
  refine qbind _ (s99 (by omega) (by omega)) (Yes.bind (Yes.mono (Q' := fun r => r = xs.flatten) ?_ fun r hr => Yes.some hr))
  refine Yes.upto xs.length (by omega) (fun i s => s = (xs.take i).flatten) (by simp) (fun i s k hi hI hk => ?_) (fun s k hI => qskip (by simp) (Yes.some (by rw [hI, List.take_length])))
  have h3 := hb i
  have h4 := h2 _ (List.getElem_mem hi)
  rw [← hI] at h3
  exact qtake (by simp; omega) (Yes.bind (qbind _ (qidx hi) (Yes.bind (Yes.apnd (by omega) (by omega) (Yes.some (hk _ (by rw [flat_snoc hi, hI])))))))
theorem s108 (xs : List (List Int)) (φ : List Int → Option Bool) (p : List Int → Bool) (hl : xs.length < 9223372036854775807) (h : ∀ a ∈ xs, φ a = some (p a)) : f108 xs φ = some (xs.any p) :=
 Yes.eq (Yes.bind (Yes.mono (index_is xs φ p hl h) fun _ hr => Yes.some (index_any hr)))
theorem s84 {t : PayTable} (h : Smt t) : f84 ⟨t⟩ = some (decide (lng t)) := by
 refine Yes.eq ?_
 unfold f84
 have hr := h.r
 refine Yes.bind (Yes.cond (fun hc => Yes.some (Yes.some ?_)) (fun hc => qbind _ (s108 _ _ (fun a => decide ((a.length : Int) > 6)) (by show t.Rows.length < _; omega) fun a _ => rfl) (Yes.some (Yes.some ?_))))
 ·refine Eq.symm (decide_eq_true (.inl ?_))
  have : (t.Rows.length : Int) > 6 := of_decide_eq_true hc
  omega
 ·have hn : ¬ (t.Rows.length : Int) > 6 := of_decide_eq_false hc
  rw [Bool.eq_iff_iff, List.any_eq_true, decide_eq_true_iff]
  constructor
  ·rintro ⟨x, hx, h⟩; exact .inr ⟨x, hx, by have := of_decide_eq_true h; omega⟩
  ·rintro (h | ⟨x, hx, h⟩)
   ·omega
   ·exact ⟨x, hx, decide_eq_true (by omega)⟩
theorem s85 {t : PayTable} (h : Smt t) : f85 ⟨t⟩ = some (decide (Sqr t)) := by
 refine Yes.eq ?_
 have hr := h.r
 unfold f85
 refine Yes.jn (Yes.bind (Yes.mono (Q' := fun b => (b = true → ¬ Sqr t) ∧ (b = false → ∃ h0 : 0 < t.Rows.length, 0 < t.Rows[0].length ∧ t.Across.length = t.Rows.length ∧ t.Down.length = t.Rows[0].length)) ?_ fun b hb => Yes.cond (fun hc2 => Yes.some (decide_eq_false (hb.1 hc2)).symm) (fun hc2 => ?_)))
 ·refine Yes.cond (fun hc2 => Yes.some ⟨fun _ hs => ?_, fun h => by cases h⟩) (fun hc2 => ?_)
  ·have := hs.r; have e : (t.Rows.length : Int) = 0 := beq_iff_eq.1 hc2; omega
  ·have h0 : 0 < t.Rows.length := by have e : (t.Rows.length : Int) ≠ 0 := beq_eq_false_iff_ne.1 hc2; omega
   have hx0 : idx t.Rows (0 : Int) = some (t.Rows[0]) := qidx (i := 0) h0
   refine qbind _ hx0 (Yes.cond (fun hc3 => Yes.some ⟨fun _ hs => ?_, fun h => by cases h⟩) (fun hc3 => Yes.cond (fun hc4 => Yes.some ⟨fun _ hs => ?_, fun h => by cases h⟩) (fun hc4 => qbind _ hx0 (Yes.some ⟨fun hh hs => ?_, fun hh => ⟨h0, ?_, ?_, ?_⟩⟩))))
   ·have := hs.c _ (List.getElem_mem h0); have := hs.d; have e := beq_iff_eq.1 hc3; omega
   ·have := hs.a; have e : (t.Across.length : Int) ≠ (t.Rows.length : Int) := by simpa using hc4
    omega
   ·have := hs.c _ (List.getElem_mem h0); have e : (t.Down.length : Int) ≠ (t.Rows[0].length : Int) := by simpa using hh
    omega
   ·have := beq_eq_false_iff_ne.1 hc3; omega
   ·have e : (t.Across.length : Int) = (t.Rows.length : Int) := by simpa using hc4
    omega
   ·have e : (t.Down.length : Int) = (t.Rows[0].length : Int) := by simpa using hh
    omega
 ·obtain ⟨h0, hn0, hna, hnd⟩ := hb.2 hc2
  refine qbind _ (s108 _ _ (fun a => ((a.length : Int) != (t.Down.length : Int))) (by show t.Rows.length < _; omega) fun a _ => rfl) (Yes.some ?_)
  rw [Bool.eq_iff_iff, decide_eq_true_iff, Bool.not_eq_true', Bool.eq_false_iff, Ne, List.any_eq_true]
  constructor
  ·intro hn
   exact ⟨h0, by omega, hna, fun x hx => Classical.byContradiction fun hne => hn ⟨x, hx, by simp only [bne_iff_ne]; omega⟩⟩
  ·rintro hs ⟨x, hx, hne⟩
   have := hs.c x hx
   simp only [bne_iff_ne] at hne
   omega
theorem s86 (xs : List Int) (hl : xs.length < 9223372036854775807) : f86 xs = some (xs.all (btw (-1) 1000000)) := by unfold f86; rw [s54 _ _ _ hl]; rfl
theorem s72 (xs : List Int) (hl : xs.length < 9223372036854775807) : f72 xs = some (xs.all (btw 0 1000000000)) := by unfold f72; rw [s54 _ _ _ hl]; rfl
theorem s87 {t : PayTable} (h : Smt t) : Yes (f87 ⟨t⟩) (fun l => l.length = blo t.Rows) := by
 have hr := h.r
 unfold f87
 have hbl : ∀ i, blo (t.Rows.take i) ≤ 100 := fun i => by
  have := blo_le (rows := t.Rows.take i) (k := 10) fun x hx => h.c x (List.mem_of_mem_take hx)
  have h3 : (t.Rows.take i).length ≤ 10 := by simp; omega
  have := Nat.mul_le_mul_right 10 h3
  omega
 refine Yes.bind (Yes.mono (Q' := fun r => r.length = blo t.Rows) ?_ fun r hr => Yes.some hr)
 refine Yes.upto t.Rows.length (by omega) (fun i s => s.length = blo (t.Rows.take i)) rfl (fun i s k hi hI hk => ?_) (fun s k hI => qskip (by simp) (Yes.some (by rw [hI, List.take_length])))
 have hri := h.c _ (List.getElem_mem hi)
 have hb := hbl i
 refine qtake (by simp; omega) (Yes.bind (qbind _ (qidx hi) ?_))
 refine Yes.upto t.Rows[i].length (by omega) (fun j s => s.length = blo (t.Rows.take i) + (t.Rows[i].take j).count (-1)) (by simp [hI]) (fun j s k' hj hL hk' => ?_) (fun s k' hL => qskip (by simp) (Yes.some (hk _ (by rw [blo_snoc hi, hL, List.take_length]))))
 have hct : (t.Rows[i].take j).count (-1) ≤ j := Nat.le_trans List.count_le_length (by simp; omega)
 have hcs : (t.Rows[i].take (j + 1)).count (-1) = (t.Rows[i].take j).count (-1) + if t.Rows[i][j] = -1 then 1 else 0 := by
  rw [take_succ' hj, List.count_append, List.count_singleton]
  by_cases he : t.Rows[i][j] = -1 <;> simp [he]
 refine qtake (by simp; omega) (Yes.bind (qbind _ (qidx hj) (Yes.cond (fun hc => Yes.bind (Yes.apnd (by simp only [List.length_singleton]; omega) (by simp only [List.length_singleton]; omega) (Yes.some (hk' _ ?_)))) (fun hc => Yes.some (hk' _ ?_)))))
 ·rw [hcs, if_pos (beq_iff_eq.1 hc), List.length_append, hL]; simp; omega
 ·rw [hcs, if_neg (beq_eq_false_iff_ne.1 hc), hL]; rfl
theorem s63 {t : PayTable} (h : Smt t) : f63 t = some (⟨t⟩, chkT t) := by
  refine Yes.eq ?_
  have h1 := h.r; have h2 := h.a; have h3 := h.d
  unfold f63
  refine Yes.jn (qbind _ (s84 h) (Yes.cond (fun hc => Yes.some ?_) (fun hc => qbind _ (s85 h) (Yes.cond (fun hc2 => Yes.some ?_) (fun hc2 => ?_)))))
  · unfold chkT; rw [if_pos (of_decide_eq_true hc)]
  · have hn : ¬ Sqr t := by have : decide (Sqr t) = false := by simpa using hc2
                            exact of_decide_eq_false this
    unfold chkT; rw [if_neg (of_decide_eq_false hc), if_pos hn]
  · have hs : Sqr t := by have : decide (Sqr t) = true := by simpa using hc2
                          exact of_decide_eq_true this
    have hfl : t.Rows.flatten.length ≤ 100 := by
      have := flat_le (xs := t.Rows) (k := 10) h.c
      have := Nat.mul_le_mul_right 10 h1
      omega
    refine Yes.bind (Yes.mono (Q' := fun b => b = decide (¬ Rng t)) ?_ fun b hb => ?_)
    · refine qbind _ (s69 h1 h.c) (qbind _ (s86 _ (by omega)) (Yes.cond (fun hc3 => Yes.some ?_) (fun hc3 => qbind _ (s72 _ (by omega)) (Yes.cond (fun hc4 => Yes.some ?_) (fun hc4 => qbind _ (s72 _ (by omega)) (Yes.cond (fun hc5 => Yes.some ?_) (fun hc5 => qbind _ (s72 _ (by simp)) (Yes.some ?_))))))))
      · rw [hc3]
        refine Eq.symm (decide_eq_true fun hg => ?_)
        have : t.Rows.flatten.all (btw (-1) 1000000) = true := List.all_eq_true.2 fun n hn => by
          obtain ⟨x, hx, hn⟩ := List.mem_flatten.1 hn
          exact hg.m x hx n hn
        rw [this] at hc3; cases hc3
      · rw [hc4]
        refine Eq.symm (decide_eq_true fun hg => ?_)
        rw [List.all_eq_true.2 hg.a] at hc4; cases hc4
      · rw [hc5]
        refine Eq.symm (decide_eq_true fun hg => ?_)
        rw [List.all_eq_true.2 hg.d] at hc5; cases hc5
      · have e3 : t.Rows.flatten.all (btw (-1) 1000000) = true := by simpa using hc3
        have e4 : t.Across.all (btw 0 1000000000) = true := by simpa using hc4
        have e5 : t.Down.all (btw 0 1000000000) = true := by simpa using hc5
        simp only [List.all_cons, List.all_nil, Bool.and_true]
        cases hb : btw 0 1000000000 t.Total with
        | true => exact (decide_eq_false fun hn => hn ⟨fun x hx n hn => List.all_eq_true.1 e3 n (List.mem_flatten.2 ⟨x, hx, hn⟩), List.all_eq_true.1 e4, List.all_eq_true.1 e5, hb⟩).symm
        | false => exact Eq.symm (decide_eq_true fun hg => by rw [hg.t] at hb; cases hb)
    · subst hb
      refine Yes.cond (fun hc3 => Yes.some ?_) (fun hc3 => Yes.bind ((s87 h).mono fun l hl => Yes.cond (fun hc4 => Yes.some ?_) (fun hc4 => Yes.some ?_)))
      · unfold chkT; rw [if_neg (of_decide_eq_false hc), if_neg (fun h => h hs), if_pos (of_decide_eq_true hc3)]
      · have : (l.length : Int) > 12 := of_decide_eq_true hc4
        unfold chkT; rw [if_neg (of_decide_eq_false hc), if_neg (fun h => h hs), if_neg (of_decide_eq_false hc3), if_pos (by omega)]
      · have : ¬ (l.length : Int) > 12 := of_decide_eq_false hc4
        unfold chkT; rw [if_neg (of_decide_eq_false hc), if_neg (fun h => h hs), if_neg (of_decide_eq_false hc3), if_neg (by omega)]
noncomputable def chkR (t : PayTable) : Int := if chkT t = 0 ∧ blo t.Rows > 0 then 7 else chkT t
theorem s66 {t : PayTable} (h : Smt t) : f66 t = some (⟨t⟩, chkR t) := by
 refine Yes.eq ?_
 unfold f66
 refine qbind _ (s63 h) (Yes.bind (Yes.bind (Yes.mono (Q' := fun b => b = decide (chkT t = 0 ∧ blo t.Rows > 0)) ?_ fun b hb => ?_)))
 ·refine Yes.cond (fun hc => Yes.bind ((s87 h).mono fun l hl => Yes.some ?_)) (fun hc => Yes.some (decide_eq_false fun hh => beq_eq_false_iff_ne.1 hc hh.1).symm)
  rw [decide_eq_decide]
  have : chkT t = 0 := beq_iff_eq.1 hc
  constructor
  ·intro hh; exact ⟨this, by omega⟩
  ·rintro ⟨_, hh⟩; omega
 ·subst hb
  refine Yes.cond (fun hc => Yes.some (Yes.some ?_)) (fun hc => Yes.some (Yes.some ?_))
  ·unfold chkR; rw [if_pos (of_decide_eq_true hc)]
  ·unfold chkR; rw [if_neg (of_decide_eq_false hc)]
end Go.Proofs.YtkmbkaoolacofaaGreat
