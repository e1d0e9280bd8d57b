/- A table made out of bytes: it is right; and another number. -/
import Derived.Test.YtkmbkaoolacofaaGreatLawMI
set_option maxRecDepth 8000
namespace Go.Proofs.YtkmbkaoolacofaaGreat
open Go.RowKit
open Classical

theorem prem {a b : Int} (ha : 0 ≤ a) (hb : 0 < b) : ∃ r, rem64 a b = some r ∧ 0 ≤ r ∧ r < b := by
 unfold rem64
 rw [if_neg (by omega), Int.tmod_eq_emod_of_nonneg ha]
 exact ⟨_, rfl, Int.emod_nonneg _ (by omega), Int.emod_lt_of_pos _ hb⟩
theorem pu8 (c : UInt8) : 0 ≤ ((c.toNat : Nat) : Int) ∧ ((c.toNat : Nat) : Int) ≤ 255 := by have := c.toNat_lt; omega
theorem Yes.upto3 {σ τ υ α : Type} {Q : α → Prop} {body : (σ × τ × υ × Int → Option α) → σ × τ × υ × Int → Option α} {s0 : σ} {t0 : τ} {u0 : υ} (n : Nat) (hn : n < 9223372036854775807) (I : Nat → σ → τ → υ → Prop) (h0 : I 0 s0 t0 u0)
  (hb : ∀ (i : Nat) (s : σ) (t : τ) (u : υ) (k : σ × τ × υ × Int → Option α), i < n → I i s t u → (∀ s' t' u', I (i + 1) s' t' u' → Yes (k (s', t', u', w64 ((i : Int) + 1))) Q) → Yes (body k (s, t, u, (i : Int))) Q)
  (he : ∀ (s : σ) (t : τ) (u : υ) (k : σ × τ × υ × Int → Option α), I n s t u → Yes (body k (s, t, u, (n : Int))) Q) : Yes (Go.Proofs.YtkmbkaoolacofaaGreat.lp body big (s0, t0, u0, 0)) Q := by
 refine Yes.lp (fun s => ∃ i : Nat, s.2.2.2 = i ∧ i ≤ n ∧ I i s.1 s.2.1 s.2.2.1) (fun s => n - s.2.2.2.toNat) ⟨0, rfl, Nat.zero_le _, h0⟩ (by simp; omega) ?_
 rintro ⟨s, t, u, j⟩ k ⟨i, hi, hle, hI⟩ hk
 simp only at hi hI
 subst hi
 by_cases hlt : i < n
 ·refine hb i s t u k hlt hI fun s' t' u' hs' => ?_
  rw [w64_id (by omega) (by omega)]
  refine hk _ ⟨i + 1, by simp, hlt, hs'⟩ ?_
  simp only [Int.toNat_natCast]
  omega
 ·obtain rfl : i = n := by omega
  exact he s t u k hI
theorem apnd_one {xs : List Int} {y : Int} (h : xs.length ≤ 1000) : apnd 8 xs [y] = some (xs ++ [y]) := by
 unfold apnd; rw [if_pos ⟨by simp; omega, by simp; omega⟩]
theorem s43 {n b most : Int} (h0 : 0 ≤ n) (h1 : n ≤ most) (hm : most ≤ 1000000000) (hm1 : 1 ≤ most) (hb0 : 0 ≤ b) (hb : b ≤ 65535) : Yes (f43 n b most) (fun r => r ≠ n ∧ 0 ≤ r ∧ r ≤ most) := by
 unfold f43
 have e1 : w64 (w64 (n + b) - 30000) = n + b - 30000 := by rw [w64_id (n := n + b) (by omega) (by omega), w64_id (by omega) (by omega)]
 rw [e1]
 refine Yes.jn (Yes.bind (Yes.mono (Q' := fun c => c = true → n + b - 30000 ≠ n ∧ 0 ≤ n + b - 30000 ∧ n + b - 30000 ≤ most) ?_ fun c hc => ?_))
 ·refine Yes.cond (fun h2 => Yes.cond (fun h3 => Yes.some fun h4 => ?_) (fun _ => Yes.some fun h => by cases h)) (fun _ => Yes.some fun h => by cases h)
  have h2 := bne_iff_ne.1 h2
  have h3 := of_decide_eq_true h3
  have h4 := of_decide_eq_true h4
  exact ⟨h2, h3, h4⟩
 ·refine Yes.cond (fun h2 => Yes.some (hc h2)) (fun _ => Yes.jn (Yes.cond (fun h2 => Yes.some ?_) (fun h2 => Yes.some ?_)))
  ·have h2 := of_decide_eq_true h2
   rw [w64_id (by omega) (by omega)]; omega
  ·have h2 := of_decide_eq_false h2
   rw [w64_id (by omega) (by omega)]; omega
theorem getD_app {xs : List Int} {y : Int} {m : Nat} : (xs ++ [y]).getD m 0 = if m = xs.length then y else xs.getD m 0 := by
 simp only [List.getD]
 by_cases h : m < xs.length
 ·rw [List.getElem?_append_left h, if_neg (by omega)]
 ·by_cases h2 : m = xs.length
  ·subst h2; simp
  ·rw [if_neg h2, List.getElem?_eq_none (by simp; omega), List.getElem?_eq_none (by omega)]
theorem getD_appL {xs : List (List Int)} {y : List Int} {m : Nat} : (xs ++ [y]).getD m [] = if m = xs.length then y else xs.getD m [] := by
 simp only [List.getD]
 by_cases h : m < xs.length
 ·rw [List.getElem?_append_left h, if_neg (by omega)]
 ·by_cases h2 : m = xs.length
  ·subst h2; simp
  ·rw [if_neg h2, List.getElem?_eq_none (by simp; omega), List.getElem?_eq_none (by omega)]
theorem sum_pt : ∀ {D' D R : List Int}, D'.length = D.length → R.length = D.length → (∀ m, m < D.length → D'.getD m 0 = D.getD m 0 + R.getD m 0) → D'.sum = D.sum + R.sum
 | [], [], [], _, _, _ => rfl
 | [], [], _ :: _, _, h, _ => by simp at h
 | [], _ :: _, _, h, _, _ => by simp at h
 | _ :: _, [], _, h, _, _ => by simp at h
 | _ :: _, _ :: _, [], _, h, _ => by simp at h
 | a :: D', b :: D, c :: R, h1, h2, h => by
  have h0 := h 0 (by simp)
  have ih := sum_pt (D' := D') (D := D) (R := R) (by simpa using h1) (by simpa using h2) fun m hm => by
   have := h (m + 1) (by simpa using hm)
   simpa using this
  simp only [List.getD_cons_zero] at h0
  simp only [List.sum_cons]; omega
structure TabR (c i : Nat) (t : PayTable) : Prop where
 d : t.Down.length = c
 r : t.Rows.length = i
 a : t.Across.length = i
 w : ∀ x ∈ t.Rows, x.length = c ∧ ∀ n ∈ x, 0 ≤ n ∧ n ≤ 65535
 ro : ∀ j, j < i → ro t j = 0
 co : ∀ k, k < c → co t k = 0
 ac : ac t = 0
 dn : dn t = 0
 bd : ∀ n ∈ t.Down, 0 ≤ n ∧ n ≤ 65535 * (i : Int)
 ba : ∀ n ∈ t.Across, 0 ≤ n ∧ n ≤ 393210
 bt : 0 ≤ t.Total ∧ t.Total ≤ 393210 * (i : Int)
theorem u16_nn (c : UInt16) : 0 ≤ ((c.toNat : Nat) : Int) ∧ ((c.toNat : Nat) : Int) ≤ 65535 := by have := c.toNat_lt; omega
theorem sum_row {xs : List Int} {c : Nat} (hc : xs.length = c) (h6 : c ≤ 6) (h : ∀ n ∈ xs, 0 ≤ n ∧ n ≤ 65535) : 0 ≤ xs.sum ∧ xs.sum ≤ 393210 := by
 have h1 := sum_bd (xs := xs) (B := 65535) fun n hn => by have := h n hn; omega
 have h2 := sum_nn fun n hn => (h n hn).1
 rw [hc] at h1
 have : c * 65535 ≤ 393210 := by omega
 omega
theorem tab_row {c i : Nat} {t t' : PayTable} {row : List Int} {s : Int} (h : TabR c i t) (hc : c ≤ 6) (h1 : t'.Rows = t.Rows ++ [row]) (h2 : t'.Across = t.Across ++ [s]) (h3 : t'.Down.length = c) (h4 : t'.Total = t.Total + s)
  (hr : row.length = c) (hb : ∀ n ∈ row, 0 ≤ n ∧ n ≤ 65535) (hs : s = row.sum) (hd : ∀ m, m < c → t'.Down.getD m 0 = t.Down.getD m 0 + row.getD m 0) : TabR c (i + 1) t' := by
 have hsb := sum_row hr hc hb
 have hbt := h.bt
 refine ⟨h3, by rw [h1]; simp [h.r], by rw [h2]; simp [h.a], fun x hx => ?_, fun j hj => ?_, fun k hk => ?_, ?_, ?_, fun n hn => ?_, fun n hn => ?_, by rw [h4, hs]; omega⟩
 ·rw [h1] at hx
  rcases List.mem_append.1 hx with hx | hx
  ·exact h.w x hx
  ·rw [List.mem_singleton] at hx; subst hx; exact ⟨hr, hb⟩
 ·show (t'.Rows.getD j []).sum - t'.Across.getD j 0 = 0
  rw [h1, h2, getD_appL, getD_app, h.r, h.a]
  by_cases hji : j = i
  ·rw [if_pos hji, if_pos hji]; omega
  ·rw [if_neg hji, if_neg hji]; exact h.ro j (by omega)
 ·have := h.co k hk
  unfold Go.Proofs.YtkmbkaoolacofaaGreat.co col at this ⊢
  rw [h1, List.map_append, List.sum_append, hd k hk]
  simp only [List.map_cons, List.map_nil, List.sum_cons, List.sum_nil]
  omega
 ·have := h.ac
  unfold Go.Proofs.YtkmbkaoolacofaaGreat.ac at this ⊢
  rw [h2, h4, List.sum_append]; simp only [List.sum_cons, List.sum_nil]; omega
 ·have := h.dn
  unfold Go.Proofs.YtkmbkaoolacofaaGreat.dn at this ⊢
  rw [sum_pt (D := t.Down) (R := row) (by rw [h3, h.d]) (by rw [hr, h.d]) (fun m hm => hd m (by rw [← h.d]; exact hm)), h4]; omega
 ·obtain ⟨m, hm, rfl⟩ := List.getElem_of_mem hn
  have e1 := hd m (by omega)
  rw [getD_is hm, getD_is (by rw [h.d]; omega), getD_is (by omega)] at e1
  have e2 := h.bd _ (List.getElem_mem (show m < t.Down.length by rw [h.d]; omega))
  have e3 := hb _ (List.getElem_mem (show m < row.length by omega))
  rw [e1]; omega
 ·rw [h2] at hn
  rcases List.mem_append.1 hn with hn | hn
  ·exact h.ba n hn
  ·rw [List.mem_singleton] at hn; omega
theorem s40 (x : Sheet) : Yes (f40 x) (fun t => ∃ c i : Nat, 1 ≤ c ∧ c ≤ 6 ∧ 1 ≤ i ∧ i ≤ 6 ∧ TabR c i t) := by
 unfold f40
 obtain ⟨y5, hy5, h50, h55⟩ := prem (pu8 x.Columns).1 (show (0 : Int) < 6 by decide)
 obtain ⟨nE, hnE, hn0, hn5⟩ := prem (pu8 x.Rows).1 (show (0 : Int) < 6 by decide)
 obtain ⟨c0, rfl⟩ : ∃ c : Nat, y5 = (c : Int) := ⟨y5.toNat, by omega⟩
 obtain ⟨r0, rfl⟩ : ∃ r : Nat, nE = (r : Int) := ⟨nE.toNat, by omega⟩
 have hw : w64 ((1 : Int) + (c0 : Int)) = ((c0 + 1 : Nat) : Int) := by rw [qw64 (by omega) (by omega)]; omega
 have hmk : mka 8 (0 : Int) (w64 ((1 : Int) + (c0 : Int))) = some (List.replicate (c0 + 1) 0) := by
  rw [hw]; unfold mka; rw [if_pos ⟨by omega, by omega, by omega⟩, Int.toNat_natCast]
 refine qbind _ hy5 (qbind _ hmk (Yes.bind ?_))
 have hc6 : c0 + 1 ≤ 6 := by omega
 have hr6 : r0 + 1 ≤ 6 := by omega
 generalize hcc : c0 + 1 = c at hc6
 refine Yes.upto (σ := PayTable) (r0 + 1) (by omega) (fun i t => TabR c i t) ?_ (fun i t k hi hI hk => ?_) (fun t k hI => ?_)
 ·refine ⟨by simp, rfl, rfl, fun x hx => (by cases hx), fun j hj => absurd hj (Nat.not_lt_zero _), fun k hk => ?_, rfl, ?_, fun n hn => ?_, fun n hn => (by cases hn), ⟨Int.le_refl _, by simp⟩⟩
  ·unfold co col
   rw [getD_is (by simpa using hk)]; simp
  ·unfold dn; simp
  ·have := List.eq_of_mem_replicate hn; subst this; exact ⟨Int.le_refl _, by omega⟩
 ·dsimp only
  refine Yes.jn (qbind _ hnE (qtake (decide_eq_true (by omega)) ?_))
  refine Yes.bind ?_
  refine Yes.bind (Yes.mono (Q' := fun (q : PayTable × List Int × Int) => q.1 = { t with Down := q.1.Down } ∧ q.1.Down.length = c ∧ q.2.1.length = c ∧ (∀ n ∈ q.2.1, 0 ≤ n ∧ n ≤ 65535) ∧ q.2.2 = q.2.1.sum ∧ ∀ m, m < c → q.1.Down.getD m 0 = t.Down.getD m 0 + q.2.1.getD m 0) ?_ fun q hq => ?_)
  ·refine Yes.upto3 (σ := PayTable) (τ := List Int) (υ := Int) c (by omega) (fun k t' row s => t' = { t with Down := t'.Down } ∧ t'.Down.length = c ∧ row.length = k ∧ (∀ n ∈ row, 0 ≤ n ∧ n ≤ 65535) ∧ s = row.sum ∧ ∀ m, m < c → t'.Down.getD m 0 = t.Down.getD m 0 + (if m < k then row.getD m 0 else 0)) ?_ (fun k t' row s kk hk2 hJ hkk => ?_) (fun t' row s kk hJ => ?_)
   ·exact ⟨rfl, hI.d, rfl, fun n hn => (by cases hn), rfl, fun m _ => by simp⟩
   ·obtain ⟨j1, j2, j3, j4, j5, j6⟩ := hJ
    have hds : decide ((k : Int) < (t'.Down.length : Int)) = true := decide_eq_true (by rw [j2]; omega)
    refine Yes.jn (qtake hds (Yes.bind ?_))
    refine Yes.bind (Yes.mono (Q' := fun v => 0 ≤ v ∧ v ≤ 65535) ?_ fun v hv => ?_)
    ·refine Yes.cond (fun hc => ?_) (fun _ => Yes.some ⟨by omega, by omega⟩)
     have hc := of_decide_eq_true hc
     have e1 : w64 (w64 ((6 : Int) * (i : Int)) + (k : Int)) = 6 * (i : Int) + k := by rw [qw64 (n := (6 : Int) * (i : Int)) (by omega) (by omega), qw64 (by omega) (by omega)]
     rw [e1]
     obtain ⟨r, hr, hr0, hr1⟩ := prem (a := 6 * (i : Int) + k) (b := (x.Amounts.length : Int)) (by omega) (by omega)
     obtain ⟨rn, rfl⟩ : ∃ rn : Nat, r = (rn : Int) := ⟨r.toNat, by omega⟩
     exact qbind _ hr (qbind _ (qidx (show rn < x.Amounts.length by omega)) (Yes.some (u16_nn _)))
    ·have hsb := sum_row (xs := row) rfl (by omega) j4
     have hdk := j6 k hk2
     rw [getD_is (by rw [j2]; exact hk2), if_neg (by omega), getD_is (by rw [hI.d]; exact hk2)] at hdk
     have hbd := hI.bd _ (List.getElem_mem (show k < t.Down.length by rw [hI.d]; exact hk2))
     refine qbind _ (show apnd 8 row [v] = some (row ++ [v]) from apnd_one (by omega)) (qbind _ (qidx (show k < t'.Down.length by rw [j2]; exact hk2)) (Yes.some ?_))
     rw [qw64 (n := t'.Down[k]'(by rw [j2]; exact hk2) + v) (by omega) (by omega), qw64 (n := s + v) (by omega) (by omega), Int.toNat_natCast]
     refine hkk _ _ _ ⟨?_, by simp [j2], by simp [j3], fun n hn => ?_, by rw [List.sum_append, j5]; simp, fun m hm => ?_⟩
     ·have er : t'.Rows = t.Rows := by rw [j1]
      have ea : t'.Across = t.Across := by rw [j1]
      have et : t'.Total = t.Total := by rw [j1]
      simp only [er, ea, et]
     ·rcases List.mem_append.1 hn with hn | hn
      ·exact j4 n hn
      ·rw [List.mem_singleton] at hn; omega
     ·rw [getD_st (by rw [j2]; exact hk2), getD_app, j3]
      by_cases hkm : k = m
      ·subst hkm
       rw [if_pos rfl, if_pos (by omega), if_pos rfl, hdk, getD_is (by rw [hI.d]; exact hk2)]; omega
      ·rw [if_neg hkm, j6 m hm]
       by_cases hmk : m < k
       ·rw [if_pos hmk, if_pos (by omega), if_neg (by omega)]
       ·rw [if_neg hmk, if_neg (by omega)]
   ·obtain ⟨j1, j2, j3, j4, j5, j6⟩ := hJ
    have hds : decide ((c : Int) < (t'.Down.length : Int)) = false := decide_eq_false (by rw [j2]; omega)
    refine Yes.jn (qskip hds (Yes.some ⟨j1, j2, j3, j4, j5, fun m hm => ?_⟩))
    have := j6 m hm
    rw [if_pos hm] at this; exact this
  ·obtain ⟨t', row, s⟩ := q
   obtain ⟨j1, j2, j3, j4, j5, j6⟩ := hq
   simp only at j1 j2 j3 j4 j5 j6
   have hsb := sum_row j3 hc6 j4
   have hbt := hI.bt
   have er : t'.Rows = t.Rows := by rw [j1]
   have ea : t'.Across = t.Across := by rw [j1]
   have et : t'.Total = t.Total := by rw [j1]
   refine qbind _ (show apnd 24 t'.Rows [row] = some (t'.Rows ++ [row]) from by unfold apnd; rw [if_pos ⟨by simp [er, hI.r]; omega, by simp [er, hI.r]; omega⟩]) (qbind _ (show apnd 8 t'.Across [s] = some (t'.Across ++ [s]) from apnd_one (by rw [ea, hI.a]; omega)) (Yes.some (hk _ ?_)))
   exact tab_row hI hc6 (by simp only [er]) (by simp only [ea]) j2 (by simp only [et]; rw [qw64 (by omega) (by omega)]) j3 j4 j5 j6
 ·dsimp only
  refine Yes.jn (qbind _ hnE (qskip (decide_eq_false (by omega)) (Yes.some (Yes.some ⟨c, r0 + 1, by omega, hc6, by omega, hr6, hI⟩))))
end Go.Proofs.YtkmbkaoolacofaaGreat
