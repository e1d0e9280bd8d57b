/- Plain laws: sums of a table, and by how much they are off (PayMends). -/
import Derived.Test.YtkmbkaoolacofaaGreatLawMB
set_option maxRecDepth 8000
namespace Go.Proofs.YtkmbkaoolacofaaGreat
open Go.RowKit
open Classical

theorem sum_take {xs : List Int} {i : Nat} (h : i < xs.length) : (xs.take (i + 1)).sum = (xs.take i).sum + xs[i] := by
 rw [take_succ' h, List.sum_append]; simp
theorem sum_bd : ∀ {xs : List Int} {B : Nat}, (∀ x ∈ xs, -(B : Int) ≤ x ∧ x ≤ B) → -((xs.length * B : Nat) : Int) ≤ xs.sum ∧ xs.sum ≤ ((xs.length * B : Nat) : Int)
 | [], _, _ => by simp
 | x :: xs, B, h => by
  have h1 := sum_bd (xs := xs) (B := B) fun y hy => h y (by simp [hy])
  have h2 := h x (by simp)
  have e : (((x :: xs).length * B : Nat) : Int) = ((xs.length * B : Nat) : Int) + B := by simp only [List.length_cons, Nat.add_mul, Nat.one_mul]; omega
  rw [e, List.sum_cons]
  omega
theorem sum_nn : ∀ {xs : List Int}, (∀ x ∈ xs, 0 ≤ x) → 0 ≤ xs.sum
 | [], _ => by simp
 | x :: xs, h => by
  have h1 := sum_nn (xs := xs) fun y hy => h y (by simp [hy])
  have h2 := h x (by simp)
  rw [List.sum_cons]; omega
theorem s89 {xs : List Int} (hl : xs.length ≤ 100) (hb : ∀ x ∈ xs, -1000000000 ≤ x ∧ x ≤ 1000000000) : f89 xs = some xs.sum := by
 refine Yes.eq ?_
 unfold f89
 refine Yes.bind (Yes.mono (Q' := fun r => r = xs.sum) ?_ fun r hr => Yes.some hr)
 refine Yes.upto xs.length (by omega) (fun i s => s = (xs.take i).sum) (by simp) (fun i s k hi hI hk => ?_) (fun s k hI => qskip (by simp) (Yes.some (by rw [hI, List.take_length])))
 have h1 := sum_bd (xs := xs.take i) (B := 1000000000) fun x hx => hb x (List.mem_of_mem_take hx)
 have h2 := hb _ (List.getElem_mem hi)
 have h3 : (xs.take i).length ≤ 100 := by simp; omega
 refine qtake (by simp; omega) (Yes.bind (qbind _ (qidx hi) (Yes.some (hk _ ?_))))
 rw [sum_take hi, hI, w64_id (by omega) (by omega)]
def col (rows : List (List Int)) (k : Nat) : List Int := rows.map fun r => r.getD k 0
theorem getD_is {xs : List Int} {i : Nat} (h : i < xs.length) : xs.getD i 0 = xs[i] := by simp [List.getD, List.getElem?_eq_getElem h]
theorem s97 {t : PayTable} (hs : Sqr t) (hr : t.Rows.length ≤ 10) {k : Nat} (hk : k < t.Down.length) : f97 ⟨t⟩ (k : Int) = some (col t.Rows k) := by
 refine Yes.eq ?_
 unfold f97
 refine Yes.bind (Yes.mono (Q' := fun r => r = col t.Rows k) ?_ fun r hr => Yes.some hr)
 refine Yes.upto t.Rows.length (by omega) (fun i s => s = col (t.Rows.take i) k) rfl (fun i s kk hi hI hkk => ?_) (fun s kk hI => qskip (by simp) (Yes.some (by rw [hI, List.take_length])))
 have hki : k < t.Rows[i].length := by rw [hs.c _ (List.getElem_mem hi)]; exact hk
 have hl : s.length ≤ 10 := by rw [hI]; simp [col]; omega
 refine qtake (by simp; omega) (Yes.bind (qbind _ (qidx hi) (qbind _ (qidx hki) (Yes.bind (Yes.apnd (by simp only [List.length_singleton]; omega) (by simp only [List.length_singleton]; omega) (Yes.some (hkk _ ?_)))))))
 rw [take_succ' hi, hI]
 unfold col
 rw [List.map_append, List.map_cons, List.map_nil, getD_is hki]
def ro (t : PayTable) (i : Nat) : Int := (t.Rows.getD i []).sum - t.Across.getD i 0
def co (t : PayTable) (k : Nat) : Int := (col t.Rows k).sum - t.Down.getD k 0
def ac (t : PayTable) : Int := t.Across.sum - t.Total
def dn (t : PayTable) : Int := t.Down.sum - t.Total
structure TOk (t : PayTable) : Prop where
 s : Sqr t
 g : Rng t
 r : t.Rows.length ≤ 6
 d : t.Down.length ≤ 6
 b : blo t.Rows = 0
theorem TOk.num {t : PayTable} (h : TOk t) {x : List Int} (hx : x ∈ t.Rows) {n : Int} (hn : n ∈ x) : 0 ≤ n ∧ n ≤ 1000000 := by
 have h1 := btw_iff.1 (h.g.m x hx n hn)
 have : x.count (-1) = 0 := by
  have hb := h.b
  unfold blo at hb
  have := List.sum_eq_zero_iff_forall_eq_nat.1 hb (x.count (-1)) (List.mem_map.2 ⟨x, hx, rfl⟩)
  exact this
 have hne : n ≠ -1 := fun he => by subst he; exact List.count_eq_zero.1 this hn
 omega
theorem TOk.row {t : PayTable} (h : TOk t) {i : Nat} (hi : i < t.Rows.length) : t.Rows.getD i [] = t.Rows[i] := by simp [List.getD, List.getElem?_eq_getElem hi]
theorem TOk.rowb {t : PayTable} (h : TOk t) {i : Nat} (hi : i < t.Rows.length) : 0 ≤ (t.Rows.getD i []).sum ∧ (t.Rows.getD i []).sum ≤ 6000000 := by
 rw [h.row hi]
 have hl := h.s.c _ (List.getElem_mem hi)
 have hd := h.d
 have h1 := sum_bd (xs := t.Rows[i]) (B := 1000000) fun n hn => by have := h.num (List.getElem_mem hi) hn; omega
 refine ⟨?_, by omega⟩
 exact sum_nn fun n hn => (h.num (List.getElem_mem hi) hn).1
theorem TOk.colm {t : PayTable} (h : TOk t) {k : Nat} (hk : k < t.Down.length) : ∀ n ∈ col t.Rows k, 0 ≤ n ∧ n ≤ 1000000 := fun n hn => by
 unfold col at hn
 obtain ⟨r, hr, rfl⟩ := List.mem_map.1 hn
 have hkr : k < r.length := by rw [h.s.c r hr]; exact hk
 rw [getD_is hkr]
 exact h.num hr (List.getElem_mem hkr)
theorem TOk.colb {t : PayTable} (h : TOk t) {k : Nat} (hk : k < t.Down.length) : 0 ≤ (col t.Rows k).sum ∧ (col t.Rows k).sum ≤ 6000000 := by
 have hl : (col t.Rows k).length ≤ 6 := by unfold col; rw [List.length_map]; exact h.r
 have h1 := sum_bd (xs := col t.Rows k) (B := 1000000) fun n hn => by have := h.colm hk n hn; omega
 exact ⟨sum_nn fun n hn => (h.colm hk n hn).1, by omega⟩
theorem TOk.acb {t : PayTable} (h : TOk t) : (∀ n ∈ t.Across, 0 ≤ n ∧ n ≤ 1000000000) ∧ (∀ n ∈ t.Down, 0 ≤ n ∧ n ≤ 1000000000) ∧ 0 ≤ t.Total ∧ t.Total ≤ 1000000000 := ⟨fun n hn => btw_iff.1 (h.g.a n hn), fun n hn => btw_iff.1 (h.g.d n hn), btw_iff.1 h.g.t⟩
theorem s67 {t : PayTable} (h : TOk t) : f67 ⟨t⟩ = some ((List.range t.Rows.length).map (ro t), (List.range t.Down.length).map (co t), ac t, dn t) := by
 obtain ⟨ha, hd, ht⟩ := h.acb
 have hr := h.r; have hdl := h.d; have hal := h.s.a
 refine Yes.eq ?_
 unfold f67
 refine Yes.bind (Yes.mono (Q' := fun r => r = (List.range t.Rows.length).map (ro t)) ?_ fun r hr' => Yes.bind (Yes.mono (Q' := fun r => r = (List.range t.Down.length).map (co t)) ?_ fun r2 hr2 => ?_))
 ·refine Yes.upto t.Rows.length (by omega) (fun i s => s = (List.range i).map (ro t)) rfl (fun i s k hi hI hk => ?_) (fun s k hI => qskip (by simp) (Yes.some hI))
  have hia : i < t.Across.length := by omega
  have h1 := h.rowb hi
  have h2 := ha _ (List.getElem_mem hia)
  have hl := h.s.c _ (List.getElem_mem hi)
  have hsl : s.length ≤ 6 := by rw [hI]; simp; omega
  rw [h.row hi] at h1
  refine qtake (by simp; omega) (Yes.bind (qbind _ (qidx hi) (qbind _ (s89 (by omega) fun n hn => by have := h.num (List.getElem_mem hi) hn; omega) (qbind _ (qidx hia) (Yes.bind (Yes.apnd (by simp only [List.length_singleton]; omega) (by simp only [List.length_singleton]; omega) (Yes.some (hk _ ?_))))))))
  rw [List.range_succ, List.map_append, hI, w64_id (by omega) (by omega)]
  simp only [List.map_cons, List.map_nil]
  unfold ro
  rw [h.row hi, getD_is hia]
 ·refine Yes.upto t.Down.length (by omega) (fun i s => s = (List.range i).map (co t)) rfl (fun i s k hi hI hk => ?_) (fun s k hI => qskip (by simp) (Yes.some hI))
  have h1 := h.colb hi
  have h2 := hd _ (List.getElem_mem hi)
  have hsl : s.length ≤ 6 := by rw [hI]; simp; omega
  have hl : (col t.Rows i).length ≤ 6 := by unfold col; rw [List.length_map]; exact h.r
  refine qtake (by simp; omega) (Yes.bind (qbind _ (qidx hi) (qbind _ (s97 h.s (by omega) hi) (qbind _ (s89 (by omega) fun n hn => by have := h.colm hi n hn; omega) (Yes.bind (Yes.apnd (by simp only [List.length_singleton]; omega) (by simp only [List.length_singleton]; omega) (Yes.some (hk _ ?_))))))))
  rw [List.range_succ, List.map_append, hI, w64_id (by omega) (by omega)]
  simp only [List.map_cons, List.map_nil]
  unfold co
  rw [getD_is hi]
 ·subst hr' hr2
  have b1 := sum_bd (xs := t.Across) (B := 1000000000) fun n hn => by have := ha n hn; omega
  have b2 := sum_bd (xs := t.Down) (B := 1000000000) fun n hn => by have := hd n hn; omega
  have v1 : f89 t.Across = some t.Across.sum := s89 (by omega) fun n hn => by have := ha n hn; omega
  have v2 : f89 t.Down = some t.Down.sum := s89 (by omega) fun n hn => by have := hd n hn; omega
  refine qbind _ v1 (qbind _ v2 (Yes.some ?_))
  show (_, _, w64 (t.Across.sum - t.Total), w64 (t.Down.sum - t.Total)) = _
  rw [w64_id (by omega) (by omega), w64_id (by omega) (by omega)]; rfl
end Go.Proofs.YtkmbkaoolacofaaGreat
