/- Plain laws: what an entry does to the sums of a table (PayMends). -/
import Derived.Test.YtkmbkaoolacofaaGreatLawMG
set_option maxRecDepth 8000
namespace Go.Proofs.YtkmbkaoolacofaaGreat
open Go.RowKit
open Classical

theorem blo_zero {rows : List (List Int)} : blo rows = 0 ↔ ∀ r ∈ rows, ∀ n ∈ r, n ≠ -1 := by
 unfold blo
 rw [List.sum_eq_zero_iff_forall_eq_nat]
 constructor
 ·intro h r hr n hn he
  have h1 := h (r.count (-1)) (List.mem_map.2 ⟨r, hr, rfl⟩)
  subst he
  exact List.count_eq_zero.1 h1 hn
 ·intro h c hc
  obtain ⟨r, hr, rfl⟩ := List.mem_map.1 hc
  exact List.count_eq_zero.2 fun hn => h r hr _ hn rfl
theorem chk_iff {t : PayTable} (hs : Sqr t) (h6 : t.Rows.length ≤ 6) (hd : t.Down.length ≤ 6) : (chkT t = 0 ∧ blo t.Rows = 0) ↔ (∀ r ∈ t.Rows, ∀ n ∈ r, 0 ≤ n ∧ n ≤ 1000000) ∧ (∀ n ∈ t.Across, 0 ≤ n ∧ n ≤ 1000000000) ∧ (∀ n ∈ t.Down, 0 ≤ n ∧ n ≤ 1000000000) ∧ 0 ≤ t.Total ∧ t.Total ≤ 1000000000 := by
 constructor
 ·rintro ⟨h1, h2⟩
  have hk := tok_of h1 h2
  exact ⟨fun r hr n hn => hk.num hr hn, hk.acb⟩
 ·rintro ⟨h1, h2, h3, h4⟩
  have hb : blo t.Rows = 0 := blo_zero.2 fun r hr n hn => by have := h1 r hr n hn; omega
  refine ⟨?_, hb⟩
  have hnl : ¬ lng t := by
   rintro (h | ⟨x, hx, h⟩)
   ·omega
   ·have := hs.c x hx; omega
  have hg : Rng t := ⟨fun r hr n hn => btw_iff.2 (by have := h1 r hr n hn; omega), fun n hn => btw_iff.2 (h2 n hn), fun n hn => btw_iff.2 (h3 n hn), btw_iff.2 h4⟩
  unfold chkT
  rw [if_neg hnl, if_neg (fun h => h hs), if_neg (fun h => h hg), if_neg (by omega)]
theorem sum_set : ∀ {xs : List Int} {i : Nat} (h : i < xs.length) (v : Int), (xs.set i v).sum = xs.sum - xs[i] + v
 | [], i, h, _ => absurd h (Nat.not_lt_zero _)
 | x :: xs, 0, _, v => by simp only [List.set_cons_zero, List.sum_cons, List.getElem_cons_zero]; omega
 | x :: xs, i + 1, h, v => by
  have := sum_set (xs := xs) (i := i) (by simpa using h) v
  simp only [List.set_cons_succ, List.sum_cons, List.getElem_cons_succ, this]; omega
theorem getD_st {xs : List Int} {i j : Nat} {v d : Int} (h : i < xs.length) : (xs.set i v).getD j d = if i = j then v else xs.getD j d := by
 rw [List.getD, List.getElem?_set]
 by_cases hij : i = j
 ·rw [if_pos hij, if_pos hij, if_pos (by omega)]; rfl
 ·rw [if_neg hij, if_neg hij]; rfl
theorem getD_sL {xs : List (List Int)} {i j : Nat} {v d : List Int} (h : i < xs.length) : (xs.set i v).getD j d = if i = j then v else xs.getD j d := by
 rw [List.getD, List.getElem?_set]
 by_cases hij : i = j
 ·rw [if_pos hij, if_pos hij, if_pos (by omega)]; rfl
 ·rw [if_neg hij, if_neg hij]; rfl
theorem col_set {rows : List (List Int)} {i m : Nat} {v : List Int} : col (rows.set i v) m = (col rows m).set i (v.getD m 0) := by
 unfold col; rw [List.map_set]
/-! ### The four kinds of entries -/
theorem wC {t : PayTable} {i : Nat} : wth t (entC t i) = { t with Across := t.Across.set i (t.Rows.getD i []).sum } := by
 unfold wth
 rw [if_neg (by show ¬ (2 : Int) = 1; omega), if_pos (by rfl)]
 rfl
theorem wD {t : PayTable} {k : Nat} : wth t (entD t k) = { t with Down := t.Down.set k (col t.Rows k).sum } := by
 unfold wth
 rw [if_neg (by show ¬ (3 : Int) = 1; omega), if_neg (by show ¬ (3 : Int) = 2; omega), if_pos (by rfl)]
 rfl
theorem wT {t : PayTable} : wth t (entT t) = { t with Total := t.Across.sum } := by
 unfold wth
 rw [if_neg (by show ¬ (4 : Int) = 1; omega), if_neg (by show ¬ (4 : Int) = 2; omega), if_neg (by show ¬ (4 : Int) = 3; omega)]
 rfl
theorem wA {t : PayTable} {i k : Nat} : wth t (entA t i k) = { t with Rows := t.Rows.set i ((t.Rows.getD i []).set k ((t.Rows.getD i []).getD k 0 - ro t i)) } := by
 unfold wth
 rw [if_pos (by rfl)]
 rfl
theorem goodC {t : PayTable} (h : TOk t) {i : Nat} (hi : i < t.Rows.length) : Good t (entC t i) ↔ (∀ j, j < t.Rows.length → j ≠ i → ro t j = 0) ∧ (∀ k, k < t.Down.length → co t k = 0) ∧ ac t + ro t i = 0 ∧ dn t = 0 := by
 have hia : i < t.Across.length := by have := h.s.a; omega
 obtain ⟨ha, hd, ht⟩ := h.acb
 unfold Good
 rw [wC, ← and_assoc, chk_iff (t := { t with Across := t.Across.set i (t.Rows.getD i []).sum }) ⟨h.s.r, h.s.d, by show (t.Across.set i _).length = _; rw [List.length_set]; exact h.s.a, h.s.c⟩ h.r h.d]
 have hrow := h.rowb hi
 have hro : ∀ j, ro { t with Across := t.Across.set i (t.Rows.getD i []).sum } j = if i = j then 0 else ro t j := fun j => by
  unfold ro
  show (t.Rows.getD j []).sum - (t.Across.set i (t.Rows.getD i []).sum).getD j 0 = _
  rw [getD_st hia]
  split
  ·rename_i he; subst he; omega
  ·rfl
 have hac : ac { t with Across := t.Across.set i (t.Rows.getD i []).sum } = ac t + ro t i := by
  unfold ac ro
  show (t.Across.set i (t.Rows.getD i []).sum).sum - t.Total = _
  rw [sum_set hia, getD_is hia]; omega
 constructor
 ·rintro ⟨_, hp⟩
  refine ⟨fun j hj hji => ?_, hp.c, by rw [← hac]; exact hp.a, hp.d⟩
  have := hp.r j hj
  rw [hro, if_neg (fun h => hji h.symm)] at this
  exact this
 ·rintro ⟨g1, g2, g3, g4⟩
  refine ⟨⟨fun r hr n hn => h.num hr hn, fun n hn => ?_, hd, ht⟩, ⟨fun j hj => ?_, g2, by rw [hac]; exact g3, g4⟩⟩
  ·rcases List.mem_or_eq_of_mem_set hn with hn | rfl
   ·exact ha n hn
   ·omega
  ·rw [hro]
   split
   ·rfl
   ·rename_i hne; exact g1 j hj fun h => hne h.symm
theorem goodD {t : PayTable} (h : TOk t) {k : Nat} (hk : k < t.Down.length) : Good t (entD t k) ↔ (∀ i, i < t.Rows.length → ro t i = 0) ∧ (∀ j, j < t.Down.length → j ≠ k → co t j = 0) ∧ ac t = 0 ∧ dn t + co t k = 0 := by
 obtain ⟨ha, hd, ht⟩ := h.acb
 have hcol := h.colb hk
 have hs' : Sqr { t with Down := t.Down.set k (col t.Rows k).sum } := ⟨h.s.r, by show 0 < (t.Down.set k _).length; rw [List.length_set]; exact h.s.d, h.s.a, fun x hx => by show _ = (t.Down.set k _).length; rw [List.length_set]; exact h.s.c x hx⟩
 unfold Good
 rw [wD, ← and_assoc, chk_iff (t := { t with Down := t.Down.set k (col t.Rows k).sum }) hs' h.r (by show (t.Down.set k _).length ≤ 6; rw [List.length_set]; exact h.d)]
 have hco : ∀ j, co { t with Down := t.Down.set k (col t.Rows k).sum } j = if k = j then 0 else co t j := fun j => by
  unfold co
  show (col t.Rows j).sum - (t.Down.set k (col t.Rows k).sum).getD j 0 = _
  rw [getD_st hk]
  split
  ·rename_i he; subst he; omega
  ·rfl
 have hdn : dn { t with Down := t.Down.set k (col t.Rows k).sum } = dn t + co t k := by
  unfold dn co
  show (t.Down.set k (col t.Rows k).sum).sum - t.Total = _
  rw [sum_set hk, getD_is hk]; omega
 constructor
 ·rintro ⟨_, hp⟩
  refine ⟨hp.r, fun j hj hjk => ?_, hp.a, by rw [← hdn]; exact hp.d⟩
  have := hp.c j (by show j < (t.Down.set k _).length; rw [List.length_set]; exact hj)
  rw [hco, if_neg (fun h => hjk h.symm)] at this
  exact this
 ·rintro ⟨g1, g2, g3, g4⟩
  refine ⟨⟨fun r hr n hn => h.num hr hn, ha, fun n hn => ?_, ht⟩, ⟨g1, fun j hj => ?_, g3, by rw [hdn]; exact g4⟩⟩
  ·rcases List.mem_or_eq_of_mem_set hn with hn | rfl
   ·exact hd n hn
   ·omega
  ·have hj' : j < (t.Down.set k (col t.Rows k).sum).length := hj
   rw [List.length_set] at hj'
   rw [hco]
   split
   ·rfl
   ·rename_i hne; exact g2 j hj' fun h => hne h.symm
theorem goodT {t : PayTable} (h : TOk t) : Good t (entT t) ↔ (∀ i, i < t.Rows.length → ro t i = 0) ∧ (∀ j, j < t.Down.length → co t j = 0) ∧ ac t = dn t ∧ 0 ≤ t.Total + ac t ∧ t.Total + ac t ≤ 1000000000 := by
 obtain ⟨ha, hd, ht⟩ := h.acb
 unfold Good
 rw [wT, ← and_assoc, chk_iff (t := { t with Total := t.Across.sum }) ⟨h.s.r, h.s.d, h.s.a, h.s.c⟩ h.r h.d]
 constructor
 ·rintro ⟨⟨_, _, _, e⟩, hp⟩
  have e1 : t.Down.sum - t.Across.sum = 0 := hp.d
  have e2 : 0 ≤ t.Across.sum ∧ t.Across.sum ≤ 1000000000 := e
  refine ⟨hp.r, hp.c, by unfold ac dn; omega, by unfold ac; omega, by unfold ac; omega⟩
 ·rintro ⟨g1, g2, g3, g4, g5⟩
  unfold ac at g3 g4 g5
  unfold dn at g3
  refine ⟨⟨fun r hr n hn => h.num hr hn, ha, hd, by show 0 ≤ t.Across.sum ∧ t.Across.sum ≤ 1000000000; omega⟩, ⟨g1, g2, by show t.Across.sum - t.Across.sum = 0; omega, by show t.Down.sum - t.Across.sum = 0; omega⟩⟩
theorem goodA {t : PayTable} (h : TOk t) {i k : Nat} (hi : i < t.Rows.length) (hk : k < t.Down.length) : Good t (entA t i k) ↔ (∀ j, j < t.Rows.length → j ≠ i → ro t j = 0) ∧ (∀ m, m < t.Down.length → m ≠ k → co t m = 0) ∧ co t k = ro t i ∧ ac t = 0 ∧ dn t = 0 ∧ 0 ≤ (t.Rows.getD i []).getD k 0 - ro t i ∧ (t.Rows.getD i []).getD k 0 - ro t i ≤ 1000000 := by
 obtain ⟨ha, hd, ht⟩ := h.acb
 have hki : k < (t.Rows.getD i []).length := by rw [h.row hi, h.s.c _ (List.getElem_mem hi)]; exact hk
 obtain ⟨n, hn⟩ : ∃ n, n = (t.Rows.getD i []).getD k 0 - ro t i := ⟨_, rfl⟩
 obtain ⟨v, hv⟩ : ∃ v, v = (t.Rows.getD i []).set k n := ⟨_, rfl⟩
 have hvl : v.length = t.Down.length := by rw [hv, List.length_set, h.row hi, h.s.c _ (List.getElem_mem hi)]
 have hmemv : n ∈ v := by rw [hv]; exact List.mem_set hki n
 have hs' : Sqr { t with Rows := t.Rows.set i v } := ⟨by show 0 < (t.Rows.set i v).length; rw [List.length_set]; exact h.s.r, h.s.d, by show _ = (t.Rows.set i v).length; rw [List.length_set]; exact h.s.a, fun x hx => by
  rcases List.mem_or_eq_of_mem_set hx with hx | rfl
  ·exact h.s.c x hx
  ·exact hvl⟩
 unfold Good
 rw [wA, ← hn, ← hv, ← and_assoc, chk_iff (t := { t with Rows := t.Rows.set i v }) hs' (by show (t.Rows.set i v).length ≤ 6; rw [List.length_set]; exact h.r) h.d]
 have hvs : v.sum = (t.Rows.getD i []).sum - ro t i := by rw [hv, sum_set hki, hn, getD_is hki]; omega
 have hro : ∀ j, ro { t with Rows := t.Rows.set i v } j = if i = j then 0 else ro t j := fun j => by
  unfold ro
  show ((t.Rows.set i v).getD j []).sum - t.Across.getD j 0 = _
  rw [getD_sL hi]
  split
  ·rename_i he; subst he; rw [hvs]; unfold ro; omega
  ·rfl
 have hco : ∀ m, m < t.Down.length → co { t with Rows := t.Rows.set i v } m = if k = m then co t m - ro t i else co t m := fun m hm => by
  have hic : i < (col t.Rows m).length := by unfold col; rw [List.length_map]; exact hi
  have hci : (col t.Rows m)[i] = (t.Rows.getD i []).getD m 0 := by simp only [col, List.getElem_map, h.row hi]
  unfold co
  show (col (t.Rows.set i v) m).sum - t.Down.getD m 0 = _
  rw [col_set, sum_set hic, hci, hv, getD_st hki]
  split
  ·rename_i he; subst he; rw [hn]; omega
  ·omega
 constructor
 ·rintro ⟨⟨e, _⟩, hp⟩
  have hnv := e v (List.mem_set hi v) n hmemv
  have hlen : ∀ j, j < t.Rows.length → j < (t.Rows.set i v).length := fun j hj => by rw [List.length_set]; exact hj
  refine ⟨fun j hj hji => ?_, fun m hm hmk => ?_, ?_, hp.a, hp.d, hnv⟩
  ·have := hp.r j (hlen j hj)
   rw [hro, if_neg (fun h => hji h.symm)] at this
   exact this
  ·have := hp.c m hm
   rw [hco m hm, if_neg (fun h => hmk h.symm)] at this
   exact this
  ·have := hp.c k hk
   rw [hco k hk, if_pos rfl] at this
   omega
 ·rintro ⟨g1, g2, g3, g4, g5, g6⟩
  refine ⟨⟨fun r hr x hx => ?_, ha, hd, ht⟩, ⟨fun j hj => ?_, fun m hm => ?_, g4, g5⟩⟩
  ·rcases List.mem_or_eq_of_mem_set hr with hr | rfl
   ·exact h.num hr hx
   ·rw [hv] at hx
    rcases List.mem_or_eq_of_mem_set hx with hx | rfl
    ·rw [h.row hi] at hx; exact h.num (List.getElem_mem hi) hx
    ·exact g6
  ·have hj' : j < (t.Rows.set i v).length := hj
   rw [List.length_set] at hj'
   rw [hro]
   split
   ·rfl
   ·rename_i hne; exact g1 j hj' fun h => hne h.symm
  ·have hm' : m < t.Down.length := hm
   rw [hco m hm']
   split
   ·rename_i he; subst he; omega
   ·rename_i hne; exact g2 m hm' fun h => hne h.symm
end Go.Proofs.YtkmbkaoolacofaaGreat
