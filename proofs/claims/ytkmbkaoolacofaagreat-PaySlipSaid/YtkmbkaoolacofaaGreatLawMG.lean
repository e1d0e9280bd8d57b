/- Plain laws: sums of a table, and by how much they are off (PayMends). -/
import Derived.Test.YtkmbkaoolacofaaGreatLawMB
set_option maxRecDepth 8000
namespace Go.Proofs.YtkmbkaoolacofaaGreat
open Go.RowKit
open Classical

theorem sum_take {xs : List Int} {i : Nat} (h : i < xs.length) : (xs.take (i + 1)).sum = (xs.take i).sum + xs[i] := by
 rw [take_succ' h, List.sum_append]; simp
theorem sum_bd : ∀ {xs : List Int} {B : Nat}, (∀ x ∈ xs, -(B : Int) ≤ x ∧ x ≤ B) → -((xs.length * B : Nat) : Int) ≤ xs.sum ∧ xs.sum ≤ ((xs.length * B : Nat) : Int)
 | [], _, _ => by simp
 | x :: xs, B, h => by
  have h1 := sum_bd (xs := xs) (B := B) fun y hy => h y (by simp [hy])
  have h2 := h x (by simp)
  have e : (((x :: xs).length * B : Nat) : Int) = ((xs.length * B : Nat) : Int) + B := by simp only [List.length_cons, Nat.add_mul, Nat.one_mul]; omega
  rw [e, List.sum_cons]
  omega
theorem sum_nn : ∀ {xs : List Int}, (∀ x ∈ xs, 0 ≤ x) → 0 ≤ xs.sum
 | [], _ => by simp
 | x :: xs, h => by
  have h1 := sum_nn (xs := xs) fun y hy => h y (by simp [hy])
  have h2 := h x (by simp)
  rw [List.sum_cons]; omega
theorem s89 {xs : List Int} (hl : xs.length ≤ 100) (hb : ∀ x ∈ xs, -1000000000 ≤ x ∧ x ≤ 1000000000) : f89 xs = some xs.sum := by
 refine Yes.eq ?_
 unfold f89
 refine Yes.bind (Yes.mono (Q' := fun r => r = xs.sum) ?_ fun r hr => Yes.some hr)
 refine Yes.upto xs.length (by omega) (fun i s => s = (xs.take i).sum) (by simp) (fun i s k hi hI hk => ?_) (fun s k hI => qskip (by simp) (Yes.some (by rw [hI, List.take_length])))
 have h1 := sum_bd (xs := xs.take i) (B := 1000000000) fun x hx => hb x (List.mem_of_mem_take hx)
 have h2 := hb _ (List.getElem_mem hi)
 have h3 : (xs.take i).length ≤ 100 := by simp; omega
 refine qtake (by simp; omega) (Yes.bind (qbind _ (qidx hi) (Yes.some (hk _ ?_))))
 rw [sum_take hi, hI, w64_id (by omega) (by omega)]
def col (rows : List (List Int)) (k : Nat) : List Int := rows.map fun r => r.getD k 0
theorem getD_is {xs : List Int} {i : Nat} (h : i < xs.length) : xs.getD i 0 = xs[i] := by simp [List.getD, List.getElem?_eq_getElem h]
theorem s97 {t : PayTable} (hs : Sqr t) (hr : t.Rows.length ≤ 10) {k : Nat} (hk : k < t.Down.length) : f97 ⟨t⟩ (k : Int) = some (col t.Rows k) := by
 refine Yes.eq ?_
 unfold f97
 refine Yes.bind (Yes.mono (Q' := fun r => r = col t.Rows k) ?_ fun r hr => Yes.some hr)
 refine Yes.upto t.Rows.length (by omega) (fun i s => s = col (t.Rows.take i) k) rfl (fun i s kk hi hI hkk => ?_) (fun s kk hI => qskip (by simp) (Yes.some (by rw [hI, List.take_length])))
 have hki : k < t.Rows[i].length := by rw [hs.c _ (List.getElem_mem hi)]; exact hk
 have hl : s.length ≤ 10 := by rw [hI]; simp [col]; omega
 refine qtake (by simp; omega) (Yes.bind (qbind _ (qidx hi) (qbind _ (qidx hki) (Yes.bind (Yes.apnd (by simp only [List.length_singleton]; omega) (by simp only [List.length_singleton]; omega) (Yes.some (hkk _ ?_)))))))
 rw [take_succ' hi, hI]
 unfold col
 rw [List.map_append, List.map_cons, List.map_nil, getD_is hki]
def ro (t : PayTable) (i : Nat) : Int := (t.Rows.getD i []).sum - t.Across.getD i 0
def co (t : PayTable) (k : Nat) : Int := (col t.Rows k).sum - t.Down.getD k 0
def ac (t : PayTable) : Int := t.Across.sum - t.Total
def dn (t : PayTable) : Int := t.Down.sum - t.Total
structure TOk (t : PayTable) : Prop where
 s : Sqr t
 g : Rng t
 r : t.Rows.length ≤ 6
 d : t.Down.length ≤ 6
 b : blo t.Rows = 0
theorem TOk.num {t : PayTable} (h : TOk t) {x : List Int} (hx : x ∈ t.Rows) {n : Int} (hn : n ∈ x) : 0 ≤ n ∧ n ≤ 1000000 := by
 have h1 := btw_iff.1 (h.g.m x hx n hn)
 have : x.count (-1) = 0 := by
  have hb := h.b
  unfold blo at hb
  have := List.sum_eq_zero_iff_forall_eq_nat.1 hb (x.count (-1)) (List.mem_map.2 ⟨x, hx, rfl⟩)
  exact this
 have hne : n ≠ -1 := fun he => by subst he; exact List.count_eq_zero.1 this hn
 omega
theorem TOk.row {t : PayTable} (h : TOk t) {i : Nat} (hi : i < t.Rows.length) : t.Rows.getD i [] = t.Rows[i] := by simp [List.getD, List.getElem?_eq_getElem hi]
theorem TOk.rowb {t : PayTable} (h : TOk t) {i : Nat} (hi : i < t.Rows.length) : 0 ≤ (t.Rows.getD i []).sum ∧ (t.Rows.getD i []).sum ≤ 6000000 := by
 rw [h.row hi]
 have hl := h.s.c _ (List.getElem_mem hi)
 have hd := h.d
 have h1 := sum_bd (xs := t.Rows[i]) (B := 1000000) fun n hn => by have := h.num (List.getElem_mem hi) hn; omega
 refine ⟨?_, by omega⟩
 exact sum_nn fun n hn => (h.num (List.getElem_mem hi) hn).1
theorem TOk.colm {t : PayTable} (h : TOk t) {k : Nat} (hk : k < t.Down.length) : ∀ n ∈ col t.Rows k, 0 ≤ n ∧ n ≤ 1000000 := fun n hn => by
 unfold col at hn
 obtain ⟨r, hr, rfl⟩ := List.mem_map.1 hn
 have hkr : k < r.length := by rw [h.s.c r hr]; exact hk
 rw [getD_is hkr]
 exact h.num hr (List.getElem_mem hkr)
theorem TOk.colb {t : PayTable} (h : TOk t) {k : Nat} (hk : k < t.Down.length) : 0 ≤ (col t.Rows k).sum ∧ (col t.Rows k).sum ≤ 6000000 := by
 have hl : (col t.Rows k).length ≤ 6 := by unfold col; rw [List.length_map]; exact h.r
 have h1 := sum_bd (xs := col t.Rows k) (B := 1000000) fun n hn => by have := h.colm hk n hn; omega
 exact ⟨sum_nn fun n hn => (h.colm hk n hn).1, by omega⟩
theorem TOk.acb {t : PayTable} (h : TOk t) : (∀ n ∈ t.Across, 0 ≤ n ∧ n ≤ 1000000000) ∧ (∀ n ∈ t.Down, 0 ≤ n ∧ n ≤ 1000000000) ∧ 0 ≤ t.Total ∧ t.Total ≤ 1000000000 := ⟨fun n hn => btw_iff.1 (h.g.a n hn), fun n hn => btw_iff.1 (h.g.d n hn), btw_iff.1 h.g.t⟩
theorem s67 {t : PayTable} (h : TOk t) : f67 ⟨t⟩ = some ((List.range t.Rows.length).map (ro t), (List.range t.Down.length).map (co t), ac t, dn t) := by
 obtain ⟨ha, hd, ht⟩ := h.acb
 have hr := h.r; have hdl := h.d; have hal := h.s.a
 refine Yes.eq ?_
 unfold f67
 refine Yes.bind (Yes.mono (Q' := fun r => r = (List.range t.Rows.length).map (ro t)) ?_ fun r hr' => Yes.bind (Yes.mono (Q' := fun r => r = (List.range t.Down.length).map (co t)) ?_ fun r2 hr2 => ?_))
 ·refine Yes.upto t.Rows.length (by omega) (fun i s => s = (List.range i).map (ro t)) rfl (fun i s k hi hI hk => ?_) (fun s k hI => qskip (by simp) (Yes.some hI))
  have hia : i < t.Across.length := by omega
  have h1 := h.rowb hi
  have h2 := ha _ (List.getElem_mem hia)
  have hl := h.s.c _ (List.getElem_mem hi)
  have hsl : s.length ≤ 6 := by rw [hI]; simp; omega
  rw [h.row hi] at h1
  refine qtake (by simp; omega) (Yes.bind (qbind _ (qidx hi) (qbind _ (s89 (by omega) fun n hn => by have := h.num (List.getElem_mem hi) hn; omega) (qbind _ (qidx hia) (Yes.bind (Yes.apnd (by simp only [List.length_singleton]; omega) (by simp only [List.length_singleton]; omega) (Yes.some (hk _ ?_))))))))
  rw [List.range_succ, List.map_append, hI, w64_id (by omega) (by omega)]
  simp only [List.map_cons, List.map_nil]
  unfold ro
  rw [h.row hi, getD_is hia]
 ·refine Yes.upto t.Down.length (by omega) (fun i s => s = (List.range i).map (co t)) rfl (fun i s k hi hI hk => ?_) (fun s k hI => qskip (by simp) (Yes.some hI))
  have h1 := h.colb hi
  have h2 := hd _ (List.getElem_mem hi)
  have hsl : s.length ≤ 6 := by rw [hI]; simp; omega
  have hl : (col t.Rows i).length ≤ 6 := by unfold col; rw [List.length_map]; exact h.r
  refine qtake (by simp; omega) (Yes.bind (qbind _ (qidx hi) (qbind _ (s97 h.s (by omega) hi) (qbind _ (s89 (by omega) fun n hn => by have := h.colm hi n hn; omega) (Yes.bind (Yes.apnd (by simp only [List.length_singleton]; omega) (by simp only [List.length_singleton]; omega) (Yes.some (hk _ ?_))))))))
  rw [List.range_succ, List.map_append, hI, w64_id (by omega) (by omega)]
  simp only [List.map_cons, List.map_nil]
  unfold co
  rw [getD_is hi]
 ·subst hr' hr2
  have b1 := sum_bd (xs := t.Across) (B := 1000000000) fun n hn => by have := ha n hn; omega
  have b2 := sum_bd (xs := t.Down) (B := 1000000000) fun n hn => by have := hd n hn; omega
  have v1 : f89 t.Across = some t.Across.sum := s89 (by omega) fun n hn => by have := ha n hn; omega
  have v2 : f89 t.Down = some t.Down.sum := s89 (by omega) fun n hn => by have := hd n hn; omega
  refine qbind _ v1 (qbind _ v2 (Yes.some ?_))
  show (_, _, w64 (t.Across.sum - t.Total), w64 (t.Down.sum - t.Total)) = _
  rw [w64_id (by omega) (by omega), w64_id (by omega) (by omega)]; rfl
end Go.Proofs.YtkmbkaoolacofaaGreat
/- Plain laws: is a table right (PayMends). -/
set_option maxRecDepth 8000
namespace Go.Proofs.YtkmbkaoolacofaaGreat
open Go.RowKit
open Classical

structure RightP (t : PayTable) : Prop where
 r : ∀ i, i < t.Rows.length → ro t i = 0
 c : ∀ k, k < t.Down.length → co t k = 0
 a : ac t = 0
 d : dn t = 0
theorem chkT0 {t : PayTable} (h : chkT t = 0) : Sqr t ∧ Rng t ∧ t.Rows.length ≤ 6 ∧ ∀ x ∈ t.Rows, x.length ≤ 6 := by
 unfold chkT at h
 split at h
 ·cases h
 ·rename_i h1
  split at h
  ·cases h
  ·rename_i h2
   split at h
   ·cases h
   ·rename_i h3
    have h1' : ¬ (t.Rows.length > 6 ∨ ∃ x ∈ t.Rows, x.length > 6) := h1
    exact ⟨Classical.not_not.1 h2, Classical.not_not.1 h3, Nat.not_lt.1 fun h => h1' (.inl h), fun x hx => Nat.not_lt.1 fun h => h1' (.inr ⟨x, hx, h⟩)⟩
theorem tok_of {t : PayTable} (h : chkT t = 0) (hb : blo t.Rows = 0) : TOk t := by
 obtain ⟨h1, h2, h3, h4⟩ := chkT0 h
 refine ⟨h1, h2, h3, ?_, hb⟩
 have h0 := h1.r
 have := h1.c _ (List.getElem_mem h0)
 have := h4 _ (List.getElem_mem h0)
 omega
theorem tok_chk {t : PayTable} (h : chkR t = 0) : TOk t ∧ chkT t = 0 := by
 unfold chkR at h
 split at h
 ·cases h
 ·rename_i hn
  exact ⟨tok_of h (by have := fun hb => hn ⟨h, hb⟩; omega), h⟩
theorem s41 {t : PayTable} (h : Smt t) : f41 t = some (if chkR t = 0 then (decide (RightP t), 0) else (false, chkR t)) := by
 refine Yes.eq ?_
 unfold f41
 refine qbind _ (s66 h) (Yes.jn (Yes.cond (fun hc => Yes.some ?_) (fun hc => ?_)))
 ·have : chkR t ≠ 0 := by simpa using hc
  rw [if_neg this]
 ·have h0 : chkR t = 0 := by simpa using hc
  obtain ⟨hk, _⟩ := tok_chk h0
  have hr := hk.r; have hd := hk.d
  have v1 : f69 [(List.range t.Rows.length).map (ro t), (List.range t.Down.length).map (co t), [ac t, dn t]] = some ((List.range t.Rows.length).map (ro t) ++ ((List.range t.Down.length).map (co t) ++ [ac t, dn t])) := by
   rw [s69 (by simp) (fun x hx => ?_)]
   ·simp
   ·simp only [List.mem_cons, List.not_mem_nil, or_false] at hx
    rcases hx with rfl | rfl | rfl
    ·simp; omega
    ·simp; omega
    ·simp
  refine qbind _ (s67 hk) (qbind _ v1 (qbind _ (s68 _ _ (fun a => a != 0) (by simp; omega) fun a _ => rfl) (Yes.some ?_)))
  rw [if_pos h0]
  congr 1
  rw [Bool.eq_iff_iff, decide_eq_true_iff, Bool.not_eq_true', Bool.eq_false_iff, Ne, List.any_eq_true]
  constructor
  ·intro hn
   have all : ∀ x ∈ (List.range t.Rows.length).map (ro t) ++ ((List.range t.Down.length).map (co t) ++ [ac t, dn t]), x = 0 := fun x hx => Classical.byContradiction fun hne => hn ⟨x, hx, by simpa using hne⟩
   exact ⟨fun i hi => all _ (List.mem_append_left _ (List.mem_map.2 ⟨i, List.mem_range.2 hi, rfl⟩)), fun k hk => all _ (List.mem_append_right _ (List.mem_append_left _ (List.mem_map.2 ⟨k, List.mem_range.2 hk, rfl⟩))), all _ (by simp), all _ (by simp)⟩
  ·rintro ⟨h1, h2, h3, h4⟩ ⟨x, hx, hne⟩
   have hne : x ≠ 0 := by simpa using hne
   rcases List.mem_append.1 hx with hx | hx
   ·obtain ⟨i, hi, rfl⟩ := List.mem_map.1 hx; exact hne (h1 i (List.mem_range.1 hi))
   ·rcases List.mem_append.1 hx with hx | hx
    ·obtain ⟨i, hi, rfl⟩ := List.mem_map.1 hx; exact hne (h2 i (List.mem_range.1 hi))
    ·simp only [List.mem_cons, List.not_mem_nil, or_false] at hx
     rcases hx with rfl | rfl
     ·exact hne h3
     ·exact hne h4
end Go.Proofs.YtkmbkaoolacofaaGreat
/- Plain laws: a table with an entry; the only one that is not 0 (PayMends). -/
set_option maxRecDepth 8000
namespace Go.Proofs.YtkmbkaoolacofaaGreat
open Go.RowKit
open Classical

def many (xs : List Int) : Nat := xs.countP fun x => x != 0
def lastP (xs : List Int) (at' : Int) : Prop := (many xs = 0 → at' = 0) ∧ (0 < many xs → ∃ i : Nat, at' = (i : Int) ∧ ∃ h : i < xs.length, xs[i] ≠ 0)
theorem many_snoc {xs : List Int} {i : Nat} (h : i < xs.length) : many (xs.take (i + 1)) = many (xs.take i) + if xs[i] = 0 then 0 else 1 := by
 unfold many
 rw [take_succ' h, List.countP_append]
 by_cases he : xs[i] = 0 <;> simp [he]
theorem s71 {xs : List Int} (hl : xs.length ≤ 100) : Yes (f71 xs) (fun r => r.2 = (many xs : Int) ∧ lastP xs r.1) := by
 unfold f71
 refine Yes.bind (Yes.mono (Q' := fun r => r.2 = (many xs : Int) ∧ lastP xs r.1) ?_ fun r hr => Yes.some hr)
 refine Yes.upto2 (s0 := (0 : Int)) (t0 := (0 : Int)) xs.length (by omega) (fun i a m => m = (many (xs.take i) : Int) ∧ (many (xs.take i) = 0 → a = 0) ∧ (0 < many (xs.take i) → ∃ j : Nat, a = (j : Int) ∧ ∃ h : j < xs.length, xs[j] ≠ 0)) ⟨by simp [many], fun _ => rfl, fun h => absurd h (by simp [many])⟩ (fun i a m k hi hI hk => ?_) (fun a m k hI => ?_)
 ·obtain ⟨h1, h2, h3⟩ := hI
  have hm : many (xs.take i) ≤ 100 := Nat.le_trans List.countP_le_length (by simp; omega)
  refine qtake (by simp; omega) (Yes.bind (qbind _ (qidx hi) (Yes.cond (fun hc => Yes.some (hk _ _ ⟨?_, ?_, ?_⟩)) (fun hc => Yes.some (hk _ _ ⟨?_, ?_, ?_⟩)))))
  ·have hne : xs[i] ≠ 0 := by simpa using hc
   rw [many_snoc hi, if_neg hne, h1, w64_id (by omega) (by omega)]; simp
  ·have hne : xs[i] ≠ 0 := by simpa using hc
   rw [many_snoc hi, if_neg hne]; intro h; omega
  ·have hne : xs[i] ≠ 0 := by simpa using hc
   exact fun _ => ⟨i, rfl, hi, hne⟩
  ·have he : xs[i] = 0 := by simpa using hc
   rw [many_snoc hi, if_pos he, h1]; simp
  ·have he : xs[i] = 0 := by simpa using hc
   rw [many_snoc hi, if_pos he]; exact h2
  ·have he : xs[i] = 0 := by simpa using hc
   rw [many_snoc hi, if_pos he]; exact h3
 ·obtain ⟨h1, h2, h3⟩ := hI
  rw [List.take_length] at h1 h2 h3
  exact qskip (by simp) (Yes.some ⟨h1, h2, h3⟩)
theorem many_one : ∀ {xs : List Int}, many xs = 1 → ∀ i j (hi : i < xs.length) (hj : j < xs.length), xs[i] ≠ 0 → xs[j] ≠ 0 → i = j
 | [], h => by simp [many] at h
 | x :: xs, h => by
  intro i j hi hj h1 h2
  have hz : many xs = 0 → ∀ k (hk : k < xs.length), xs[k] = 0 := fun h0 k hk => by
   have := List.countP_eq_zero.1 h0 xs[k] (List.getElem_mem hk)
   simpa using this
  have hc : many (x :: xs) = many xs + if x = 0 then 0 else 1 := by
   unfold many; rw [List.countP_cons]; by_cases hx : x = 0 <;> simp [hx]
  rw [hc] at h
  by_cases hx : x = 0
  ·rw [if_pos hx] at h
   cases i with
   | zero => exact absurd hx h1
   | succ i =>
    cases j with
    | zero => exact absurd hx h2
    | succ j =>
     simp only [List.getElem_cons_succ, List.length_cons] at h1 h2 hi hj
     rw [many_one (by omega) i j (by omega) (by omega) h1 h2]
  ·rw [if_neg hx] at h
   have h0 := hz (by omega)
   cases i with
   | zero =>
    cases j with
    | zero => rfl
    | succ j =>
     simp only [List.getElem_cons_succ, List.length_cons] at h2 hj
     exact absurd (h0 j (by omega)) h2
   | succ i =>
    simp only [List.getElem_cons_succ, List.length_cons] at h1 hi
    exact absurd (h0 i (by omega)) h1
theorem many_zero {xs : List Int} : many xs = 0 ↔ ∀ x ∈ xs, x = 0 := by
 unfold many
 rw [List.countP_eq_zero]
 exact ⟨fun h x hx => by simpa using h x hx, fun h x hx => by simpa using h x hx⟩
/-! ### A table with an entry -/
def wth (t : PayTable) (x : PayEntry) : PayTable :=
 if x.Kind = 1 then { t with Rows := t.Rows.set x.Row.toNat ((t.Rows.getD x.Row.toNat []).set x.Column.toNat x.Number) }
 else if x.Kind = 2 then { t with Across := t.Across.set x.Row.toNat x.Number }
 else if x.Kind = 3 then { t with Down := t.Down.set x.Column.toNat x.Number }
 else { t with Total := x.Number }
end Go.Proofs.YtkmbkaoolacofaaGreat
/- Plain laws: all entries of a table (PayMends). -/
set_option maxRecDepth 8000
namespace Go.Proofs.YtkmbkaoolacofaaGreat
open Go.RowKit
open Classical

def entA (t : PayTable) (i : Nat) (k : Nat) : PayEntry := ⟨1, (i : Int), (k : Int), (t.Rows.getD i []).getD k 0 - ro t i⟩
def entC (t : PayTable) (i : Nat) : PayEntry := ⟨2, (i : Int), 0, (t.Rows.getD i []).sum⟩
def entD (t : PayTable) (k : Nat) : PayEntry := ⟨3, 0, (k : Int), (col t.Rows k).sum⟩
def entT (t : PayTable) : PayEntry := ⟨4, 0, 0, t.Across.sum⟩
def entsA (t : PayTable) (n : Nat) : List PayEntry := (List.range n).flatMap fun i => (List.range t.Down.length).map (entA t i)
def ents (t : PayTable) : List PayEntry := entsA t t.Rows.length ++ (List.range t.Rows.length).map (entC t) ++ (List.range t.Down.length).map (entD t) ++ [entT t]
end Go.Proofs.YtkmbkaoolacofaaGreat
/- Plain laws: all entries that make a table right alone, by the reference (PayMends). -/
set_option maxRecDepth 8000
namespace Go.Proofs.YtkmbkaoolacofaaGreat
open Go.RowKit
open Classical

theorem mem_ents {t : PayTable} {x : PayEntry} : x ∈ ents t ↔ (∃ i k, i < t.Rows.length ∧ k < t.Down.length ∧ x = entA t i k) ∨ (∃ i, i < t.Rows.length ∧ x = entC t i) ∨ (∃ k, k < t.Down.length ∧ x = entD t k) ∨ x = entT t := by
 unfold ents entsA
 simp only [List.mem_append, List.mem_flatMap, List.mem_map, List.mem_range, List.mem_singleton]
 constructor
 ·rintro (((⟨i, hi, k, hk, rfl⟩ | ⟨i, hi, rfl⟩) | ⟨k, hk, rfl⟩) | rfl)
  ·exact .inl ⟨i, k, hi, hk, rfl⟩
  ·exact .inr (.inl ⟨i, hi, rfl⟩)
  ·exact .inr (.inr (.inl ⟨k, hk, rfl⟩))
  ·exact .inr (.inr (.inr rfl))
 ·rintro (⟨i, k, hi, hk, rfl⟩ | ⟨i, hi, rfl⟩ | ⟨k, hk, rfl⟩ | rfl)
  ·exact .inl (.inl (.inl ⟨i, hi, k, hk, rfl⟩))
  ·exact .inl (.inl (.inr ⟨i, hi, rfl⟩))
  ·exact .inl (.inr ⟨k, hk, rfl⟩)
  ·exact .inr rfl
def Good (t : PayTable) (x : PayEntry) : Prop := chkT (wth t x) = 0 ∧ blo (wth t x).Rows = 0 ∧ RightP (wth t x)
end Go.Proofs.YtkmbkaoolacofaaGreat
