/- Plain laws: the error of a table, its blots, copies (PayMends). -/
import Derived.Test.YtkmbkaoolacofaaGreatLawA
set_option maxRecDepth 8000
namespace Go.Proofs.YtkmbkaoolacofaaGreat
open Go.RowKit
open Classical

theorem take_succ' {α : Type} {xs : List α} {i : Nat} (h : i < xs.length) : xs.take (i + 1) = xs.take i ++ [xs[i]] := by
 rw [List.take_add_one, List.getElem?_eq_getElem h]; rfl
structure Smt (t : PayTable) : Prop where
 r : t.Rows.length ≤ 10
 c : ∀ x ∈ t.Rows, x.length ≤ 10
 a : t.Across.length ≤ 10
 d : t.Down.length ≤ 10
theorem s30 (t : PayTable) : f30 t = some (decide (¬ Smt t)) := by
 refine Yes.eq ?_
 unfold f30
 refine Yes.jn (Yes.lp (fun o => ∃ i : Nat, o = (i : Int) ∧ i ≤ 11 ∧ i ≤ t.Rows.length ∧ ∀ x ∈ t.Rows.take i, x.length ≤ 10) (fun o => 12 - o.toNat) ⟨0, rfl, by omega, by omega, by simp⟩ (by simp) ?_)
 rintro o kk ⟨i, rfl, h1, h2, h3⟩ hk
 refine Yes.jn (Yes.bind (Yes.mono (Q' := fun b => b = decide (i < t.Rows.length ∧ i < 11)) ?_ fun b hb => ?_))
 ·refine Yes.cond (fun hc => Yes.some ?_) (fun hc => Yes.some ?_)
  ·have := of_decide_eq_true hc
   rw [decide_eq_decide]; omega
  ·have := of_decide_eq_false hc
   exact (decide_eq_false (by omega)).symm
 ·subst hb
  refine Yes.cond (fun hc => ?_) (fun hc => ?_)
  ·obtain ⟨hi, hi2⟩ := of_decide_eq_true hc
   refine Yes.jn (qbind _ (qidx hi) (Yes.cond (fun hc2 => Yes.some ?_) (fun hc2 => ?_)))
   ·have hgt := of_decide_eq_true hc2
    refine Eq.symm (decide_eq_true ?_)
    intro hs
    have := hs.c _ (List.getElem_mem hi)
    omega
   ·have hle := of_decide_eq_false hc2
    rw [w64_id (by omega) (by omega)]
    refine hk _ ⟨i + 1, by simp, by omega, by omega, fun x hx => ?_⟩ (by show 12 - ((i : Int) + 1).toNat < 12 - ((i : Int)).toNat; omega)
    rw [take_succ' hi] at hx
    rcases List.mem_append.1 hx with hx | hx
    ·exact h3 x hx
    ·rw [List.mem_singleton.1 hx]; omega
  ·have hn := of_decide_eq_false hc
   refine Yes.bind (Yes.mono (Q' := fun b => b = decide (¬ Smt t)) ?_ fun b hb => Yes.some hb)
   have hall : t.Rows.length ≤ 10 → ∀ x ∈ t.Rows, x.length ≤ 10 := fun h x hx => h3 x (by rw [List.take_of_length_le (by omega)]; exact hx)
   refine Yes.cond (fun hc => Yes.some ?_) (fun hc => Yes.cond (fun hc2 => Yes.some ?_) (fun hc2 => Yes.some ?_))
   ·have := of_decide_eq_true hc
    refine Eq.symm (decide_eq_true ?_)
    intro hs; have := hs.r; omega
   ·have := of_decide_eq_true hc2
    refine Eq.symm (decide_eq_true ?_)
    intro hs; have := hs.a; omega
   ·have e1 := of_decide_eq_false hc
    have e2 := of_decide_eq_false hc2
    rw [decide_eq_decide]
    constructor
    ·intro h hs; have := hs.d; omega
    ·intro h
     exact Classical.byContradiction fun hd => h ⟨by omega, hall (by omega), by omega, by omega⟩
theorem s62 {t : PayTable} (h : Smt t) : f62 t = some t := by
 obtain ⟨h1, h2, h3, h4⟩ := h
 refine Yes.eq ?_
 unfold f62
 refine Yes.bind (Yes.apnd (by simp; omega) (by simp; omega) (Yes.bind (Yes.apnd (by simp; omega) (by simp; omega) (Yes.bind ?_))))
 refine Yes.upto t.Rows.length (by omega) (fun i s => s = ⟨t.Rows.take i, t.Across, t.Down, t.Total⟩) (by simp) (fun i s k hi hI hk => ?_) (fun s k hI => ?_)
 ·subst hI
  have hr := h2 _ (List.getElem_mem hi)
  have htk : (t.Rows.take i).length ≤ 10 := by simp; omega
  refine Yes.jn (qtake (by simp; omega) (Yes.jn (Yes.bind (qbind _ (qidx hi) (Yes.bind ?_)))))
  refine Yes.apnd (by simp only [List.length_nil]; omega) (by simp only [List.length_nil]; omega) (Yes.bind ?_)
  refine Yes.apnd (by show ((t.Rows.take i).length + 1) * 24 ≤ 140737488355328; omega) (by show (t.Rows.take i).length + 1 ≤ 9223372036854775807; omega) (Yes.some (hk _ ?_))
  show (⟨t.Rows.take i ++ [[] ++ t.Rows[i]], t.Across, t.Down, t.Total⟩ : PayTable) = _
  rw [take_succ' hi, List.nil_append]
 ·subst hI
  refine Yes.jn (qskip (by simp) (Yes.some (Yes.some ?_)))
  rw [List.take_length]
theorem s35 {t : PayTable} (h : Smt t) : f35 t = some t := by unfold f35; rw [s62 h]; rfl
/-! ### The error of a table -/
def lng (t : PayTable) : Prop := t.Rows.length > 6 ∨ ∃ x ∈ t.Rows, x.length > 6
structure Sqr (t : PayTable) : Prop where
 r : 0 < t.Rows.length
 d : 0 < t.Down.length
 a : t.Across.length = t.Rows.length
 c : ∀ x ∈ t.Rows, x.length = t.Down.length
structure Rng (t : PayTable) : Prop where
 m : ∀ x ∈ t.Rows, ∀ n ∈ x, btw (-1) 1000000 n = true
 a : ∀ n ∈ t.Across, btw 0 1000000000 n = true
 d : ∀ n ∈ t.Down, btw 0 1000000000 n = true
 t : btw 0 1000000000 t.Total = true
def blo (rows : List (List Int)) : Nat := (rows.map fun x => x.count (-1)).sum
noncomputable def chkT (t : PayTable) : Int := if lng t then 5 else if ¬ Sqr t then 4 else if ¬ Rng t then 2 else if blo t.Rows > 12 then 8 else 0
theorem blo_snoc {rows : List (List Int)} {i : Nat} (h : i < rows.length) : blo (rows.take (i + 1)) = blo (rows.take i) + rows[i].count (-1) := by
 unfold blo; rw [take_succ' h, List.map_append, List.sum_append]; simp
theorem blo_le : ∀ {rows : List (List Int)} {k : Nat}, (∀ x ∈ rows, x.length ≤ k) → blo rows ≤ rows.length * k
 | [], _, _ => by simp [blo]
 | x :: rows, k, h => by
  have h1 := blo_le (rows := rows) (k := k) fun y hy => h y (by simp [hy])
  have h2 := h x (by simp)
  have h3 : x.count (-1) ≤ x.length := List.count_le_length
  unfold blo at h1 ⊢
  simp only [List.map_cons, List.sum_cons, List.length_cons, Nat.add_mul, Nat.one_mul]
  omega
theorem s31 {t : PayTable} (h : Smt t) : f31 t = some (chkT t) := by
 obtain ⟨h1, h2, h3, h4⟩ := h
 refine Yes.eq ?_
 unfold f31
 have lngQ : lng t → (5 : Int) = chkT t := fun h => by unfold chkT; rw [if_pos h]
 refine Yes.jn (Yes.cond (fun hc => Yes.some (lngQ (.inl (by have := of_decide_eq_true hc; omega)))) (fun hc => Yes.jn ?_))
 have hr6 : t.Rows.length ≤ 6 := by have := of_decide_eq_false hc; omega
 refine Yes.upto0 t.Rows.length (by omega) (fun i => ∀ x ∈ t.Rows.take i, x.length ≤ 6) (by simp) (fun i k hi hI hk => ?_) (fun k hI => ?_)
 ·refine Yes.jn (qtake (by simp; omega) (Yes.jn (qbind _ (qidx hi) (Yes.cond (fun hc2 => Yes.some (lngQ (.inr ⟨_, List.getElem_mem hi, by have := of_decide_eq_true hc2; omega⟩))) (fun hc2 => hk fun x hx => ?_)))))
  rw [take_succ' hi] at hx
  rcases List.mem_append.1 hx with hx | hx
  ·exact hI x hx
  ·rw [List.mem_singleton.1 hx]; have := of_decide_eq_false hc2; omega
 rw [List.take_length] at hI
 have hnl : ¬ lng t := fun h => by
  rcases h with h | ⟨x, hx, h⟩
  ·omega
  ·have := hI x hx; omega
 have sqrQ : ¬ Sqr t → (4 : Int) = chkT t := fun h => by unfold chkT; rw [if_neg hnl, if_pos h]
 refine Yes.jn (qskip (by simp) (Yes.jn (Yes.bind (Yes.mono (Q' := fun b => (b = true → ¬ Sqr t) ∧ (b = false → ∃ h0 : 0 < t.Rows.length, 0 < t.Rows[0].length ∧ t.Across.length = t.Rows.length ∧ t.Down.length = t.Rows[0].length)) ?_ fun b hb => Yes.cond (fun hc2 => Yes.some (sqrQ (hb.1 hc2))) (fun hc2 => Yes.jn ?_)))))
 ·refine Yes.cond (fun hc2 => Yes.some ⟨fun _ hs => ?_, fun h => by cases h⟩) (fun hc2 => ?_)
  ·have := hs.r; have e := beq_iff_eq.1 hc2; omega
  ·have h0 : 0 < t.Rows.length := by have := beq_eq_false_iff_ne.1 hc2; omega
   have hx0 : idx t.Rows (0 : Int) = some (t.Rows[0]) := qidx (i := 0) h0
   refine qbind _ hx0 (Yes.cond (fun hc3 => Yes.some ⟨fun _ hs => ?_, fun h => by cases h⟩) (fun hc3 => Yes.cond (fun hc4 => Yes.some ⟨fun _ hs => ?_, fun h => by cases h⟩) (fun hc4 => qbind _ hx0 (Yes.some ⟨fun hh hs => ?_, fun hh => ⟨h0, ?_, ?_, ?_⟩⟩))))
   ·have := hs.c _ (List.getElem_mem h0); have := hs.d; have e := beq_iff_eq.1 hc3; omega
   ·have := hs.a; have e : (t.Across.length : Int) ≠ (t.Rows.length : Int) := by simpa using hc4
    omega
   ·have := hs.c _ (List.getElem_mem h0); have e : (t.Down.length : Int) ≠ (t.Rows[0].length : Int) := by simpa using hh
    omega
   ·have := beq_eq_false_iff_ne.1 hc3; omega
   ·have e : (t.Across.length : Int) = (t.Rows.length : Int) := by simpa using hc4
    omega
   ·have e : (t.Down.length : Int) = (t.Rows[0].length : Int) := by simpa using hh
    omega
 obtain ⟨h0, hn0, hna, hnd⟩ := hb.2 hc2
 have hx0 : idx t.Rows (0 : Int) = some (t.Rows[0]) := qidx (i := 0) h0
 refine Yes.upto0 t.Rows.length (by omega) (fun i => ∀ x ∈ t.Rows.take i, x.length = t.Rows[0].length) (by simp) (fun i k hi hJ hk => ?_) (fun k hJ => ?_)
 ·refine Yes.jn (qtake (by simp; omega) (Yes.jn (qbind _ (qidx hi) (qbind _ hx0 (Yes.cond (fun hc3 => Yes.some (sqrQ fun hs => ?_)) (fun hc3 => hk fun x hx => ?_))))))
  ·have e : (t.Rows[i].length : Int) ≠ (t.Rows[0].length : Int) := by simpa using hc3
   have := hs.c _ (List.getElem_mem hi); have := hs.c _ (List.getElem_mem h0)
   omega
  ·rw [take_succ' hi] at hx
   rcases List.mem_append.1 hx with hx | hx
   ·exact hJ x hx
   ·rw [List.mem_singleton.1 hx]
    have e : (t.Rows[i].length : Int) = (t.Rows[0].length : Int) := by simpa using hc3
    omega
 rw [List.take_length] at hJ
 have hsq : Sqr t := ⟨h0, by omega, hna, fun x hx => by rw [hJ x hx, hnd]⟩
 have rngQ : ¬ Rng t → (2 : Int) = chkT t := fun h => by unfold chkT; rw [if_neg hnl, if_neg (fun h => h hsq), if_pos h]
 refine Yes.jn (qskip (by simp) (Yes.jn ?_))
 refine Yes.upto t.Rows.length (by omega) (fun i s => s = (blo (t.Rows.take i) : Int) ∧ (∀ x ∈ t.Rows.take i, ∀ n ∈ x, btw (-1) 1000000 n = true) ∧ ∀ n ∈ t.Across.take i, btw 0 1000000000 n = true) ⟨rfl, by simp, by simp⟩ (fun i s k hi hK hk => ?_) (fun s k hK => ?_)
 ·obtain ⟨k1, k2, k3⟩ := hK
  have hri := hI _ (List.getElem_mem hi)
  have hbl := blo_le (rows := t.Rows.take i) (k := 6) fun x hx => hI x (List.mem_of_mem_take hx)
  have hbl2 : blo (t.Rows.take i) ≤ 60 := Nat.le_trans hbl (by simp; omega)
  refine Yes.jn (qtake (by simp; omega) (Yes.jn (Yes.jn ?_)))
  refine Yes.upto t.Rows[i].length (by omega) (fun j s => s = (blo (t.Rows.take i) : Int) + ((t.Rows[i].take j).count (-1) : Nat) ∧ ∀ n ∈ t.Rows[i].take j, btw (-1) 1000000 n = true) ⟨by simp [k1], by simp⟩ (fun j s k' hj hL hk' => ?_) (fun s k' hL => ?_)
  ·obtain ⟨l1, l2⟩ := hL
   have hct : (t.Rows[i].take j).count (-1) ≤ j := Nat.le_trans List.count_le_length (by simp; omega)
   refine Yes.jn (qbind _ (qidx hi) (qtake (by simp; omega) (Yes.jn (qbind _ (qidx hi) (qbind _ (qidx hj) (qbind _ (s25 _ _ _) (Yes.cond (fun hc3 => Yes.some (rngQ fun hs => ?_)) (fun hc3 => Yes.jn (Yes.jn (qbind _ (qidx hi) (qbind _ (qidx hj) ?_)))))))))))
   ·have := hs.m _ (List.getElem_mem hi) _ (List.getElem_mem hj)
    rw [this] at hc3; cases hc3
   ·have hb : btw (-1) 1000000 t.Rows[i][j] = true := by simpa using hc3
    have l2' : ∀ n ∈ t.Rows[i].take (j + 1), btw (-1) 1000000 n = true := fun n hn => by
     rw [take_succ' hj] at hn
     rcases List.mem_append.1 hn with hn | hn
     ·exact l2 n hn
     ·rw [List.mem_singleton.1 hn]; exact hb
    have hcs : (t.Rows[i].take (j + 1)).count (-1) = (t.Rows[i].take j).count (-1) + if t.Rows[i][j] = -1 then 1 else 0 := by
     rw [take_succ' hj, List.count_append, List.count_singleton]
     by_cases he : t.Rows[i][j] = -1 <;> simp [he]
    refine Yes.cond (fun hc4 => hk' _ ⟨?_, l2'⟩) (fun hc4 => hk' _ ⟨?_, l2'⟩)
    ·rw [hcs, if_pos (beq_iff_eq.1 hc4), l1, w64_id (by omega) (by omega)]; omega
    ·rw [hcs, if_neg (beq_eq_false_iff_ne.1 hc4), l1]; simp
  ·obtain ⟨l1, l2⟩ := hL
   rw [List.take_length] at l1 l2
   have hia : i < t.Across.length := by omega
   refine Yes.jn (qbind _ (qidx hi) (qskip (by simp) (Yes.jn (qbind _ (qidx hia) (qbind _ (s25 _ _ _) ?_)))))
   refine Yes.cond (fun hc3 => Yes.some (rngQ fun hs => ?_)) (fun hc3 => hk _ ⟨?_, fun x hx => ?_, fun n hn => ?_⟩)
   ·have := hs.a _ (List.getElem_mem hia)
    rw [this] at hc3; cases hc3
   ·rw [blo_snoc hi, l1]; simp
   ·rw [take_succ' hi] at hx
    rcases List.mem_append.1 hx with hx | hx
    ·exact k2 x hx
    ·rw [List.mem_singleton.1 hx]; exact l2
   ·rw [take_succ' hia] at hn
    rcases List.mem_append.1 hn with hn | hn
    ·exact k3 n hn
    ·rw [List.mem_singleton.1 hn]; simpa using hc3
 obtain ⟨k1, k2, k3⟩ := hK
 rw [List.take_length] at k1 k2
 rw [← hna, List.take_length] at k3
 have hbl := blo_le (rows := t.Rows) (k := 6) hI
 refine Yes.jn (qskip (by simp) (Yes.jn ?_))
 refine Yes.upto0 t.Down.length (by omega) (fun i => ∀ n ∈ t.Down.take i, btw 0 1000000000 n = true) (by simp) (fun i k hi hL hk => ?_) (fun k hL => ?_)
 ·refine Yes.jn (qtake (by simp; omega) (Yes.jn (qbind _ (qidx hi) (qbind _ (s25 _ _ _) (Yes.cond (fun hc3 => Yes.some (rngQ fun hs => ?_)) (fun hc3 => hk fun n hn => ?_))))))
  ·have := hs.d _ (List.getElem_mem hi)
   rw [this] at hc3; cases hc3
  ·rw [take_succ' hi] at hn
   rcases List.mem_append.1 hn with hn | hn
   ·exact hL n hn
   ·rw [List.mem_singleton.1 hn]; simpa using hc3
 rw [List.take_length] at hL
 refine Yes.jn (qskip (by simp) (Yes.jn (qbind _ (s25 _ _ _) (Yes.cond (fun hc3 => Yes.some (rngQ fun hs => ?_)) (fun hc3 => Yes.jn (Yes.cond (fun hc4 => Yes.some ?_) (fun hc4 => Yes.some ?_)))))))
 ·have := hs.t
  rw [this] at hc3; cases hc3
 ·have hg : Rng t := ⟨k2, k3, hL, by simpa using hc3⟩
  have : s > 12 := of_decide_eq_true hc4
  unfold chkT; rw [if_neg hnl, if_neg (fun h => h hsq), if_neg (fun h => h hg), if_pos (by omega)]
 ·have hg : Rng t := ⟨k2, k3, hL, by simpa using hc3⟩
  have : ¬ s > 12 := of_decide_eq_false hc4
  unfold chkT; rw [if_neg hnl, if_neg (fun h => h hsq), if_neg (fun h => h hg), if_neg (by omega)]
end Go.Proofs.YtkmbkaoolacofaaGreat
