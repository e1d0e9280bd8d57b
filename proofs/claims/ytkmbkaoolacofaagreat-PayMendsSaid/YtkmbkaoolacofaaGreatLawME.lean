/- Plain laws: is a table right (PayMends). -/
import Derived.Test.YtkmbkaoolacofaaGreatLawMC
set_option maxRecDepth 8000
namespace Go.Proofs.YtkmbkaoolacofaaGreat
open Go.RowKit
open Classical

structure RightP (t : PayTable) : Prop where
 r : ∀ i, i < t.Rows.length → ro t i = 0
 c : ∀ k, k < t.Down.length → co t k = 0
 a : ac t = 0
 d : dn t = 0
theorem chkT0 {t : PayTable} (h : chkT t = 0) : Sqr t ∧ Rng t ∧ t.Rows.length ≤ 6 ∧ ∀ x ∈ t.Rows, x.length ≤ 6 := by
 unfold chkT at h
 split at h
 ·cases h
 ·rename_i h1
  split at h
  ·cases h
  ·rename_i h2
   split at h
   ·cases h
   ·rename_i h3
    have h1' : ¬ (t.Rows.length > 6 ∨ ∃ x ∈ t.Rows, x.length > 6) := h1
    exact ⟨Classical.not_not.1 h2, Classical.not_not.1 h3, Nat.not_lt.1 fun h => h1' (.inl h), fun x hx => Nat.not_lt.1 fun h => h1' (.inr ⟨x, hx, h⟩)⟩
theorem tok_of {t : PayTable} (h : chkT t = 0) (hb : blo t.Rows = 0) : TOk t := by
 obtain ⟨h1, h2, h3, h4⟩ := chkT0 h
 refine ⟨h1, h2, h3, ?_, hb⟩
 have h0 := h1.r
 have := h1.c _ (List.getElem_mem h0)
 have := h4 _ (List.getElem_mem h0)
 omega
theorem tok_chk {t : PayTable} (h : chkR t = 0) : TOk t ∧ chkT t = 0 := by
 unfold chkR at h
 split at h
 ·cases h
 ·rename_i hn
  exact ⟨tok_of h (by have := fun hb => hn ⟨h, hb⟩; omega), h⟩
theorem s41 {t : PayTable} (h : Smt t) : f41 t = some (if chkR t = 0 then (decide (RightP t), 0) else (false, chkR t)) := by
 refine Yes.eq ?_
 unfold f41
 refine qbind _ (s66 h) (Yes.jn (Yes.cond (fun hc => Yes.some ?_) (fun hc => ?_)))
 ·have : chkR t ≠ 0 := by simpa using hc
  rw [if_neg this]
 ·have h0 : chkR t = 0 := by simpa using hc
  obtain ⟨hk, _⟩ := tok_chk h0
  have hr := hk.r; have hd := hk.d
  have v1 : f69 [(List.range t.Rows.length).map (ro t), (List.range t.Down.length).map (co t), [ac t, dn t]] = some ((List.range t.Rows.length).map (ro t) ++ ((List.range t.Down.length).map (co t) ++ [ac t, dn t])) := by
   rw [s69 (by simp) (fun x hx => ?_)]
   ·simp
   ·simp only [List.mem_cons, List.not_mem_nil, or_false] at hx
    rcases hx with rfl | rfl | rfl
    ·simp; omega
    ·simp; omega
    ·simp
  refine qbind _ (s67 hk) (qbind _ v1 (qbind _ (s68 _ _ (fun a => a != 0) (by simp; omega) fun a _ => rfl) (Yes.some ?_)))
  rw [if_pos h0]
  congr 1
  rw [Bool.eq_iff_iff, decide_eq_true_iff, Bool.not_eq_true', Bool.eq_false_iff, Ne, List.any_eq_true]
  constructor
  ·intro hn
   have all : ∀ x ∈ (List.range t.Rows.length).map (ro t) ++ ((List.range t.Down.length).map (co t) ++ [ac t, dn t]), x = 0 := fun x hx => Classical.byContradiction fun hne => hn ⟨x, hx, by simpa using hne⟩
   exact ⟨fun i hi => all _ (List.mem_append_left _ (List.mem_map.2 ⟨i, List.mem_range.2 hi, rfl⟩)), fun k hk => all _ (List.mem_append_right _ (List.mem_append_left _ (List.mem_map.2 ⟨k, List.mem_range.2 hk, rfl⟩))), all _ (by simp), all _ (by simp)⟩
  ·rintro ⟨h1, h2, h3, h4⟩ ⟨x, hx, hne⟩
   have hne : x ≠ 0 := by simpa using hne
   rcases List.mem_append.1 hx with hx | hx
   ·obtain ⟨i, hi, rfl⟩ := List.mem_map.1 hx; exact hne (h1 i (List.mem_range.1 hi))
   ·rcases List.mem_append.1 hx with hx | hx
    ·obtain ⟨i, hi, rfl⟩ := List.mem_map.1 hx; exact hne (h2 i (List.mem_range.1 hi))
    ·simp only [List.mem_cons, List.not_mem_nil, or_false] at hx
     rcases hx with rfl | rfl
     ·exact hne h3
     ·exact hne h4
theorem s46 {t : PayTable} (h : TOk t) : f46 t = some (decide (RightP t)) := by
 obtain ⟨ha, hd, ht⟩ := h.acb
 have hr := h.r; have hdl := h.d; have hal := h.s.a
 refine Yes.eq ?_
 unfold f46
 refine Yes.jn (Yes.upto t.Rows.length (by omega) (fun i s => s = (t.Across.take i).sum ∧ ∀ j, j < i → ro t j = 0) ⟨by simp, fun j hj => absurd hj (Nat.not_lt_zero _)⟩ (fun i s k hi hI hk => ?_) (fun s k hI => ?_))
 ·obtain ⟨hI1, hI2⟩ := hI
  have hia : i < t.Across.length := by omega
  have h1 := h.rowb hi
  have h2 := ha _ (List.getElem_mem hia)
  have hl := h.s.c _ (List.getElem_mem hi)
  have hsum := sum_bd (xs := t.Across.take i) (B := 1000000000) fun n hn => by have := ha n (List.mem_of_mem_take hn); omega
  have hlt : (t.Across.take i).length ≤ 6 := by simp; omega
  rw [h.row hi] at h1
  refine Yes.jn (qtake (by simp; omega) (Yes.jn (Yes.bind (Yes.mono (Q' := fun r => r = t.Rows[i].sum) ?_ fun r hr' => ?_))))
  ·refine Yes.upto t.Rows[i].length (by omega) (fun j s => s = (t.Rows[i].take j).sum) (by simp) (fun j s k' hj hL hk' => ?_) (fun s k' hL => Yes.jn (qbind _ (qidx hi) (qskip (by simp) (Yes.some (by rw [hL, List.take_length])))))
   have b1 := sum_bd (xs := t.Rows[i].take j) (B := 1000000) fun n hn => by have := h.num (List.getElem_mem hi) (List.mem_of_mem_take hn); omega
   have b2 := h.num (List.getElem_mem hi) (List.getElem_mem hj)
   have b3 : (t.Rows[i].take j).length ≤ 6 := by simp; omega
   refine Yes.jn (qbind _ (qidx hi) (qtake (by simp; omega) (Yes.jn (Yes.bind (qbind _ (qidx hi) (qbind _ (qidx hj) ?_))))))
   refine Yes.some (hk' _ ?_)
   rw [sum_take hj, hL, w64_id (by omega) (by omega)]
  ·subst hr'
   have hro : ro t i = t.Rows[i].sum - t.Across[i] := by unfold ro; rw [h.row hi, getD_is hia]
   refine Yes.jn (qbind _ (qidx hia) (Yes.cond (fun hc => Yes.some ?_) (fun hc => hk _ ⟨?_, fun j hj => ?_⟩)))
   ·have hne : t.Rows[i].sum ≠ t.Across[i] := by simpa using hc
    exact (decide_eq_false fun hp => by have := hp.r i hi; omega).symm
   ·have he : t.Rows[i].sum = t.Across[i] := by simpa using hc
    rw [sum_take hia, hI1, he, w64_id (by omega) (by omega)]
   ·have he : t.Rows[i].sum = t.Across[i] := by simpa using hc
    by_cases hji : j = i
    ·subst hji; omega
    ·exact hI2 j (by omega)
 obtain ⟨hI1, hI2⟩ := hI
 rw [← hal, List.take_length] at hI1
 have hsumA := sum_bd (xs := t.Across) (B := 1000000000) fun n hn => by have := ha n hn; omega
 refine Yes.jn (qskip (by simp) (Yes.jn (Yes.upto t.Down.length (by omega) (fun i s => s = (t.Down.take i).sum ∧ ∀ j, j < i → co t j = 0) ⟨by simp, fun j hj => absurd hj (Nat.not_lt_zero _)⟩ (fun i s2 k hi hJ hk => ?_) (fun s2 k hJ => ?_))))
 ·obtain ⟨hJ1, hJ2⟩ := hJ
  have h1 := h.colb hi
  have h2 := hd _ (List.getElem_mem hi)
  have hsum := sum_bd (xs := t.Down.take i) (B := 1000000000) fun n hn => by have := hd n (List.mem_of_mem_take hn); omega
  have hlt : (t.Down.take i).length ≤ 6 := by simp; omega
  refine Yes.jn (qtake (by simp; omega) (Yes.jn (Yes.bind (Yes.mono (Q' := fun r => r = (col t.Rows i).sum) ?_ fun r hr' => ?_))))
  ·refine Yes.upto t.Rows.length (by omega) (fun j s => s = (col (t.Rows.take j) i).sum) (by simp [col]) (fun j s k' hj hL hk' => ?_) (fun s k' hL => Yes.jn (qskip (by simp) (Yes.some (by rw [hL, List.take_length]))))
   have hij : i < t.Rows[j].length := by rw [h.s.c _ (List.getElem_mem hj)]; exact hi
   have b1 := sum_bd (xs := col (t.Rows.take j) i) (B := 1000000) fun n hn => by
    have hm : n ∈ col t.Rows i := by
     unfold col at hn ⊢
     obtain ⟨r, hr, rfl⟩ := List.mem_map.1 hn
     exact List.mem_map.2 ⟨r, List.mem_of_mem_take hr, rfl⟩
    have := h.colm hi n hm; omega
   have b2 := h.num (List.getElem_mem hj) (List.getElem_mem hij)
   have b3 : (col (t.Rows.take j) i).length ≤ 6 := by simp [col]; omega
   refine Yes.jn (qtake (by simp; omega) (Yes.jn (Yes.bind (qbind _ (qidx hj) (qbind _ (qidx hij) ?_)))))
   refine Yes.some (hk' _ ?_)
   rw [hL, w64_id (by omega) (by omega), take_succ' hj]
   unfold col
   rw [List.map_append, List.map_cons, List.map_nil, List.sum_append, getD_is hij]; simp
  ·subst hr'
   have hco : co t i = (col t.Rows i).sum - t.Down[i] := by unfold co; rw [getD_is hi]
   refine Yes.jn (qbind _ (qidx hi) (Yes.cond (fun hc => Yes.some ?_) (fun hc => hk _ ⟨?_, fun j hj => ?_⟩)))
   ·have hne : (col t.Rows i).sum ≠ t.Down[i] := by simpa using hc
    exact (decide_eq_false fun hp => by have := hp.c i hi; omega).symm
   ·have he : (col t.Rows i).sum = t.Down[i] := by simpa using hc
    rw [sum_take hi, hJ1, he, w64_id (by omega) (by omega)]
   ·have he : (col t.Rows i).sum = t.Down[i] := by simpa using hc
    by_cases hji : j = i
    ·subst hji; omega
    ·exact hJ2 j (by omega)
 ·obtain ⟨hJ1, hJ2⟩ := hJ
  rw [List.take_length] at hJ1
  refine Yes.jn (qskip (by simp) (Yes.jn (Yes.bind (Yes.cond (fun hc => Yes.some (Yes.some ?_)) (fun hc => Yes.some (Yes.some ?_))))))
  ·have e1 : s = t.Total := beq_iff_eq.1 hc
   rw [Bool.eq_iff_iff, decide_eq_true_iff, beq_iff_eq]
   constructor
   ·intro e2
    exact ⟨hI2, hJ2, by unfold ac; omega, by unfold dn; omega⟩
   ·intro hp; have := hp.d; unfold dn at this; omega
  ·have e1 : s ≠ t.Total := beq_eq_false_iff_ne.1 hc
   exact (decide_eq_false fun hp => by have := hp.a; unfold ac at this; omega).symm
end Go.Proofs.YtkmbkaoolacofaaGreat
/- Plain laws: a table with an entry; the only one that is not 0 (PayMends). -/
set_option maxRecDepth 8000
namespace Go.Proofs.YtkmbkaoolacofaaGreat
open Go.RowKit
open Classical

def many (xs : List Int) : Nat := xs.countP fun x => x != 0
def lastP (xs : List Int) (at' : Int) : Prop := (many xs = 0 → at' = 0) ∧ (0 < many xs → ∃ i : Nat, at' = (i : Int) ∧ ∃ h : i < xs.length, xs[i] ≠ 0)
theorem many_snoc {xs : List Int} {i : Nat} (h : i < xs.length) : many (xs.take (i + 1)) = many (xs.take i) + if xs[i] = 0 then 0 else 1 := by
 unfold many
 rw [take_succ' h, List.countP_append]
 by_cases he : xs[i] = 0 <;> simp [he]
theorem s71 {xs : List Int} (hl : xs.length ≤ 100) : Yes (f71 xs) (fun r => r.2 = (many xs : Int) ∧ lastP xs r.1) := by
 unfold f71
 refine Yes.bind (Yes.mono (Q' := fun r => r.2 = (many xs : Int) ∧ lastP xs r.1) ?_ fun r hr => Yes.some hr)
 refine Yes.upto2 (s0 := (0 : Int)) (t0 := (0 : Int)) xs.length (by omega) (fun i a m => m = (many (xs.take i) : Int) ∧ (many (xs.take i) = 0 → a = 0) ∧ (0 < many (xs.take i) → ∃ j : Nat, a = (j : Int) ∧ ∃ h : j < xs.length, xs[j] ≠ 0)) ⟨by simp [many], fun _ => rfl, fun h => absurd h (by simp [many])⟩ (fun i a m k hi hI hk => ?_) (fun a m k hI => ?_)
 ·obtain ⟨h1, h2, h3⟩ := hI
  have hm : many (xs.take i) ≤ 100 := Nat.le_trans List.countP_le_length (by simp; omega)
  refine qtake (by simp; omega) (Yes.bind (qbind _ (qidx hi) (Yes.cond (fun hc => Yes.some (hk _ _ ⟨?_, ?_, ?_⟩)) (fun hc => Yes.some (hk _ _ ⟨?_, ?_, ?_⟩)))))
  ·have hne : xs[i] ≠ 0 := by simpa using hc
   rw [many_snoc hi, if_neg hne, h1, w64_id (by omega) (by omega)]; simp
  ·have hne : xs[i] ≠ 0 := by simpa using hc
   rw [many_snoc hi, if_neg hne]; intro h; omega
  ·have hne : xs[i] ≠ 0 := by simpa using hc
   exact fun _ => ⟨i, rfl, hi, hne⟩
  ·have he : xs[i] = 0 := by simpa using hc
   rw [many_snoc hi, if_pos he, h1]; simp
  ·have he : xs[i] = 0 := by simpa using hc
   rw [many_snoc hi, if_pos he]; exact h2
  ·have he : xs[i] = 0 := by simpa using hc
   rw [many_snoc hi, if_pos he]; exact h3
 ·obtain ⟨h1, h2, h3⟩ := hI
  rw [List.take_length] at h1 h2 h3
  exact qskip (by simp) (Yes.some ⟨h1, h2, h3⟩)
theorem many_one : ∀ {xs : List Int}, many xs = 1 → ∀ i j (hi : i < xs.length) (hj : j < xs.length), xs[i] ≠ 0 → xs[j] ≠ 0 → i = j
 | [], h => by simp [many] at h
 | x :: xs, h => by
  intro i j hi hj h1 h2
  have hz : many xs = 0 → ∀ k (hk : k < xs.length), xs[k] = 0 := fun h0 k hk => by
   have := List.countP_eq_zero.1 h0 xs[k] (List.getElem_mem hk)
   simpa using this
  have hc : many (x :: xs) = many xs + if x = 0 then 0 else 1 := by
   unfold many; rw [List.countP_cons]; by_cases hx : x = 0 <;> simp [hx]
  rw [hc] at h
  by_cases hx : x = 0
  ·rw [if_pos hx] at h
   cases i with
   | zero => exact absurd hx h1
   | succ i =>
    cases j with
    | zero => exact absurd hx h2
    | succ j =>
     simp only [List.getElem_cons_succ, List.length_cons] at h1 h2 hi hj
     rw [many_one (by omega) i j (by omega) (by omega) h1 h2]
  ·rw [if_neg hx] at h
   have h0 := hz (by omega)
   cases i with
   | zero =>
    cases j with
    | zero => rfl
    | succ j =>
     simp only [List.getElem_cons_succ, List.length_cons] at h2 hj
     exact absurd (h0 j (by omega)) h2
   | succ i =>
    simp only [List.getElem_cons_succ, List.length_cons] at h1 hi
    exact absurd (h0 i (by omega)) h1
theorem many_zero {xs : List Int} : many xs = 0 ↔ ∀ x ∈ xs, x = 0 := by
 unfold many
 rw [List.countP_eq_zero]
 exact ⟨fun h x hx => by simpa using h x hx, fun h x hx => by simpa using h x hx⟩
/-! ### A table with an entry -/
def wth (t : PayTable) (x : PayEntry) : PayTable :=
 if x.Kind = 1 then { t with Rows := t.Rows.set x.Row.toNat ((t.Rows.getD x.Row.toNat []).set x.Column.toNat x.Number) }
 else if x.Kind = 2 then { t with Across := t.Across.set x.Row.toNat x.Number }
 else if x.Kind = 3 then { t with Down := t.Down.set x.Column.toNat x.Number }
 else { t with Total := x.Number }
def inT (t : PayTable) (x : PayEntry) : Prop := (x.Kind = 1 → ∃ i k : Nat, x.Row = i ∧ x.Column = k ∧ i < t.Rows.length ∧ k < t.Down.length) ∧ (x.Kind = 2 → ∃ i : Nat, x.Row = i ∧ i < t.Across.length) ∧ (x.Kind = 3 → ∃ k : Nat, x.Column = k ∧ k < t.Down.length)
theorem s74 {t : PayTable} (h : Smt t) (hs : Sqr t) {x : PayEntry} (hx : inT t x) : f74 t x = some (wth t x) := by
 obtain ⟨x1, x2, x3⟩ := hx
 refine Yes.eq ?_
 unfold f74
 refine qbind _ (s62 h) (Yes.bind (Yes.cond (fun hc => ?_) (fun hc => Yes.cond (fun hc2 => ?_) (fun hc2 => Yes.cond (fun hc3 => ?_) (fun hc3 => Yes.some (Yes.some ?_))))))
 ·have e := beq_iff_eq.1 hc
  obtain ⟨i, k, e1, e2, hi, hk⟩ := x1 e
  have hki : k < t.Rows[i].length := by rw [hs.c _ (List.getElem_mem hi)]; exact hk
  rw [e1, e2]
  refine qbind _ (qidx hi) (qbind _ (qidx hki) (Yes.some (Yes.some ?_)))
  unfold wth
  rw [if_pos e, e1, e2]
  simp [List.getD, List.getElem?_eq_getElem hi]
 ·have e0 := beq_eq_false_iff_ne.1 hc
  have e := beq_iff_eq.1 hc2
  obtain ⟨i, e1, hi⟩ := x2 e
  rw [e1]
  refine qbind _ (qidx hi) (Yes.some (Yes.some ?_))
  unfold wth
  rw [if_neg e0, if_pos e, e1]
 ·have e0 := beq_eq_false_iff_ne.1 hc
  have e1' := beq_eq_false_iff_ne.1 hc2
  have e := beq_iff_eq.1 hc3
  obtain ⟨k, e1, hk⟩ := x3 e
  rw [e1]
  refine qbind _ (qidx hk) (Yes.some (Yes.some ?_))
  unfold wth
  rw [if_neg e0, if_neg e1', if_pos e, e1]
 ·unfold wth
  rw [if_neg (beq_eq_false_iff_ne.1 hc), if_neg (beq_eq_false_iff_ne.1 hc2), if_neg (beq_eq_false_iff_ne.1 hc3)]
theorem wth_smt {t : PayTable} (h : Smt t) (x : PayEntry) : Smt (wth t x) := by
 obtain ⟨h1, h2, h3, h4⟩ := h
 unfold wth
 split
 ·refine ⟨by simpa using h1, fun r hr => ?_, h3, h4⟩
  rcases List.mem_or_eq_of_mem_set hr with hr | rfl
  ·exact h2 r hr
  ·rw [List.length_set]
   by_cases hi : x.Row.toNat < t.Rows.length
   ·rw [List.getD, List.getElem?_eq_getElem hi]; exact h2 _ (List.getElem_mem hi)
   ·rw [List.getD, List.getElem?_eq_none (by omega)]; simp
 ·split
  ·exact ⟨h1, h2, by simpa using h3, h4⟩
  ·split
   ·exact ⟨h1, h2, h3, by simpa using h4⟩
   ·exact ⟨h1, h2, h3, h4⟩
end Go.Proofs.YtkmbkaoolacofaaGreat
