/- FaultLooks as a plain function: it returns true. -/
import Derived.Test.YtpiaipiehjcflaaApart
set_option maxRecDepth 8000
namespace Go.Proofs.Ytpiaipiehjcflaa
open Go.RowKit

theorem max64_comm (a b : Int) : max64 a b = max64 b a := by
  unfold max64
  by_cases h : b > a
  · rw [if_pos h, if_neg (by omega)]
  · by_cases h2 : a > b
    · rw [if_neg h, if_pos h2]
    · rw [if_neg h, if_neg h2]; omega
/-- How many damages are left at most, by how many of N lift the place. -/
def worst (N up : Nat) : Int := max64 (up : Int) ((N : Int) - (up : Int))
def ups (l : FaultLoom) (ds : List FaultDamage) (p w : Nat) : Nat := ds.countP fun d => rc l [d] p w
def look (l : FaultLoom) (ds : List FaultDamage) (p w : Nat) : Int := worst ds.length (ups l ds p w)
/-- The first place with the least number. -/
def stepL (V : Nat → Nat → Int) (p : Nat) (s : Int × Int × Int) (w : Nat) : Int × Int × Int := if V p w < s.2.2 then ((p : Int), (w : Int), V p w) else s
def rowL (V : Nat → Nat → Int) (_m p k : Nat) (s : Int × Int × Int) : Int × Int × Int := (List.range k).foldl (stepL V p) s
def scanL (V : Nat → Nat → Int) (m : Nat) (s : Int × Int × Int) : Nat → Int × Int × Int
  | 0 => s
  | i + 1 => rowL V m i m (scanL V m s i)
theorem rowL_succ (V : Nat → Nat → Int) (m p k : Nat) (s : Int × Int × Int) : rowL V m p (k + 1) s = stepL V p (rowL V m p k s) k := by
  unfold rowL; rw [List.range_succ, List.foldl_append]; rfl
theorem stepL_le (V : Nat → Nat → Int) (p : Nat) (s : Int × Int × Int) (w : Nat) : (stepL V p s w).2.2 ≤ s.2.2 ∧ (stepL V p s w).2.2 ≤ V p w := by
  unfold stepL
  split
  · exact ⟨by show V p w ≤ s.2.2; omega, Int.le_refl _⟩
  · exact ⟨Int.le_refl _, by omega⟩
theorem rowL_le (V : Nat → Nat → Int) (m p : Nat) (s : Int × Int × Int) : ∀ k, (rowL V m p k s).2.2 ≤ s.2.2 ∧ ∀ w, w < k → (rowL V m p k s).2.2 ≤ V p w
  | 0 => ⟨Int.le_refl _, fun w h => absurd h (Nat.not_lt_zero _)⟩
  | k + 1 => by
    rw [rowL_succ]
    obtain ⟨h1, h2⟩ := rowL_le V m p s k
    obtain ⟨h3, h4⟩ := stepL_le V p (rowL V m p k s) k
    refine ⟨by omega, fun w hw => ?_⟩
    by_cases e : w = k
    · subst e; exact h4
    · have := h2 w (by omega); omega
theorem scanL_le (V : Nat → Nat → Int) (m : Nat) (s : Int × Int × Int) : ∀ i, (scanL V m s i).2.2 ≤ s.2.2 ∧ ∀ p w, p < i → w < m → (scanL V m s i).2.2 ≤ V p w
  | 0 => ⟨Int.le_refl _, fun p w h => absurd h (Nat.not_lt_zero _)⟩
  | i + 1 => by
    obtain ⟨h1, h2⟩ := scanL_le V m s i
    obtain ⟨h3, h4⟩ := rowL_le V m i (scanL V m s i) m
    show (rowL V m i m (scanL V m s i)).2.2 ≤ _ ∧ ∀ p w, _ → _ → (rowL V m i m (scanL V m s i)).2.2 ≤ _
    refine ⟨by omega, fun p w hp hw => ?_⟩
    by_cases e : p = i
    · subst e; exact h4 w hw
    · have := h2 p w (by omega) hw; omega
theorem rowL_stay (V : Nat → Nat → Int) (m p : Nat) (s : Int × Int × Int) : ∀ k, (∀ w, w < k → s.2.2 ≤ V p w) → rowL V m p k s = s
  | 0, _ => rfl
  | k + 1, h => by
    rw [rowL_succ, rowL_stay V m p s k fun w hw => h w (by omega)]
    unfold stepL
    rw [if_neg (by have := h k (by omega); omega)]
theorem rowL_congr {V V' : Nat → Nat → Int} {m p : Nat} {s : Int × Int × Int} : ∀ k, (∀ w, w < k → V p w = V' p w) → rowL V m p k s = rowL V' m p k s
  | 0, _ => rfl
  | k + 1, h => by rw [rowL_succ, rowL_succ, rowL_congr k fun w hw => h w (by omega)]; unfold stepL; rw [h k (by omega)]
theorem rowL_start {V : Nat → Nat → Int} {m p : Nat} {s s' : Int × Int × Int} (h : V p 0 < s.2.2) (h' : V p 0 < s'.2.2) : ∀ k, 0 < k → rowL V m p k s = rowL V m p k s'
  | 1, _ => by
    rw [rowL_succ, rowL_succ]
    show stepL V p s 0 = stepL V p s' 0
    unfold stepL
    rw [if_pos h, if_pos h']
  | k + 2, _ => by rw [rowL_succ V m p (k + 1) s, rowL_succ V m p (k + 1) s', rowL_start h h' (k + 1) (by omega)]
theorem scanL_start {V : Nat → Nat → Int} {m : Nat} {s s' : Int × Int × Int} (hm : 0 < m) (h : V 0 0 < s.2.2) (h' : V 0 0 < s'.2.2) : ∀ i, 0 < i → scanL V m s i = scanL V m s' i
  | 1, _ => rowL_start h h' m hm
  | i + 2, _ => by
    show rowL V m (i + 1) m (scanL V m s (i + 1)) = rowL V m (i + 1) m (scanL V m s' (i + 1))
    rw [scanL_start hm h h' (i + 1) (by omega)]
theorem scanL_congr {V V' : Nat → Nat → Int} {m : Nat} {s : Int × Int × Int} : ∀ i, (∀ p w, p < i → w < m → V p w = V' p w) → scanL V m s i = scanL V' m s i
  | 0, _ => rfl
  | i + 1, h => by
    show rowL V m i m (scanL V m s i) = rowL V' m i m (scanL V' m s i)
    rw [scanL_congr i fun p w hp hw => h p w (by omega) hw, rowL_congr m fun w hw => h i w (by omega) hw]
/-- Rounds go on: nothing better is found behind the first one. -/
theorem scanL_round {V : Nat → Nat → Int} {m n : Nat} {s : Int × Int × Int} (hn : 0 < n) : ∀ i, scanL (fun p w => V (p % n) w) m s (n + i) = scanL V m s n
  | 0 => scanL_congr n fun p w hp _ => by rw [Nat.mod_eq_of_lt hp]
  | i + 1 => by
    show rowL (fun p w => V (p % n) w) m (n + i) m (scanL (fun p w => V (p % n) w) m s (n + i)) = _
    rw [scanL_round hn i]
    exact rowL_stay _ _ _ _ _ fun w hw => (scanL_le V m s n).2 _ w (Nat.mod_lt _ hn) hw
theorem scanL_min {V : Nat → Nat → Int} {m n k : Nat} {s : Int × Int × Int} (hn : 0 < n) : scanL (fun p w => V (p % n) w) m s k = scanL V m s (min k n) := by
  by_cases h : k ≤ n
  · rw [Nat.min_eq_left h]
    exact scanL_congr k fun p w hp _ => by rw [Nat.mod_eq_of_lt (by omega)]
  · rw [Nat.min_eq_right (by omega), show k = n + (k - n) by omega]
    exact scanL_round hn _
theorem ups_le (l : FaultLoom) (ds : List FaultDamage) (p w : Nat) : ups l ds p w ≤ ds.length := List.countP_le_length
theorem worst_le {N up : Nat} (h : up ≤ N) : 0 ≤ worst N up ∧ worst N up ≤ N := by unfold worst max64; split <;> omega
theorem look_le (l : FaultLoom) (ds : List FaultDamage) (p w : Nat) : 0 ≤ look l ds p w ∧ look l ds p w ≤ ds.length := worst_le (ups_le l ds p w)
def openE (l : FaultLoom) (ds : List FaultDamage) (k : Int) : Int := if chkE l ds ≠ 0 then chkE l ds else if btw 1 120 k then 0 else 3
theorem s54 (l : FaultLoom) (ds : List FaultDamage) (k : Int) : f54 l ds k = some (openE l ds k) := by
  refine Yes.eq ?_
  unfold f54
  refine Yes.jn (Yes.bind (Yes.of (s18 _ _) (Yes.cond (fun h => Yes.some ?_) (fun h => Yes.jn (Yes.bind (Yes.of (s62 1 120 [k] (by simp)) (Yes.cond (fun h2 => Yes.some ?_) (fun h2 => Yes.some ?_))))))))
  · have h : chkE l ds ≠ 0 := by simpa using h
    unfold openE; rw [if_pos h]
  all_goals
    have h : ¬ chkE l ds ≠ 0 := by simpa using h
    simp only [List.all_cons, List.all_nil, Bool.and_true, ← btw.eq_1] at h2
  · have h2 : btw 1 120 k = false := by simpa using h2
    unfold openE; rw [if_neg h, h2]; rfl
  · have h2 : btw 1 120 k = true := by simpa using h2
    unfold openE; rw [if_neg h, h2]; rfl
theorem ups_take {l : FaultLoom} {ds : List FaultDamage} {p w i : Nat} (hi : i < ds.length) : ups l (ds.take (i + 1)) p w = ups l (ds.take i) p w + if rc l [ds[i]] p w then 1 else 0 := by
  unfold ups
  rw [List.take_succ_eq_append_getElem hi, List.countP_append, List.countP_singleton]
/-- What fault.Look finds. -/
def lookR (l : FaultLoom) (ds : List FaultDamage) (k : Nat) : Int × Int × Int := scanL (look l ds) l.Harness.Warps.length (0, 0, (ds.length : Int) + 1) (min k l.Design.Rows.length)
theorem s41 (l : FaultLoom) (ds : List FaultDamage) (k : Int) : f41 l ds k = some (if openE l ds k ≠ 0 then (0, 0, 0, openE l ds k) else if ds.length = 0 then (0, 0, 0, 7) else ((lookR l ds k.toNat).1, (lookR l ds k.toNat).2.1, (lookR l ds k.toNat).2.2, 0)) := by
  refine Yes.eq ?_
  unfold f41
  refine Yes.jn (Yes.bind (Yes.of (s54 l ds k) (Yes.cond (fun h => Yes.some ?_) (fun h => ?_))))
  · have h : openE l ds k ≠ 0 := by simpa using h
    rw [if_pos h]
  have h : openE l ds k = 0 := by simpa using h
  refine Yes.jn (Yes.cond (fun h0 => Yes.some ?_) (fun h0 => ?_))
  · have h0 : ds.length = 0 := by simp at h0; simp [h0]
    rw [if_neg (fun hh => hh h), if_pos h0]
  have h0 : ds.length ≠ 0 := by simp at h0; simpa using h0
  rw [if_neg (fun hh => hh h), if_neg h0]
  have hc : chkE l ds = 0 := by
    unfold openE at h
    split at h
    · rename_i h1; exact absurd h h1
    · rename_i h1; exact Decidable.not_not.1 h1
  have hk : 1 ≤ k ∧ k ≤ 120 := by
    unfold openE at h
    rw [if_neg (fun hh => hh hc)] at h
    split at h
    · rename_i hb; simpa [btw] using hb
    · cases h
  obtain ⟨g, hlen, hd⟩ := chk_good hc
  have hr1 := g.r1
  have hw1 := g.w1
  refine Yes.jn (Yes.bind (Yes.of (s68 g (by omega) hd) (Yes.bind ?_)))
  have hXl : (ds.map fun d => rnd l [d]).length = ds.length := by simp
  have hXa : ∀ i (hi : i < (ds.map fun d => rnd l [d]).length), (ds.map fun d => rnd l [d])[i] = clothOf l.Design.Rows.length l.Harness.Warps.length (rc l [ds[i]'(by simpa using hi)]) := fun i hi => by rw [List.getElem_map]; rfl
  rw [hXl]
  have hmin : min64 k (l.Design.Rows.length : Int) = ((min k.toNat l.Design.Rows.length : Nat) : Int) := by unfold min64; split <;> omega
  rw [hmin, w64_id (n := (ds.length : Int) + 1) (by omega) (by omega)]
  generalize hM : min k.toNat l.Design.Rows.length = M
  have hMl : M ≤ l.Design.Rows.length := by omega
  have hdef : lookR l ds k.toNat = scanL (look l ds) l.Harness.Warps.length (0, 0, (ds.length : Int) + 1) M := by unfold lookR; rw [hM]
  rw [hdef]
  refine Yes.lp (fun s => ∃ i : Nat, s.2.2.2 = i ∧ i ≤ M ∧ (s.1, s.2.1, s.2.2.1) = scanL (look l ds) l.Harness.Warps.length (0, 0, (ds.length : Int) + 1) i) (fun s => M - s.2.2.2.toNat) ⟨0, rfl, Nat.zero_le _, rfl⟩ (by simp only; omega) ?_
  rintro ⟨a, b, c, j⟩ k1 ⟨i, hi, hle, hI⟩ hk1
  simp only at hi hI hk1
  subst hi
  refine Yes.cond (fun hlt => Yes.bind ?_) (fun hge => Yes.some ?_)
  rotate_left
  · have : i = M := by have : ¬ i < M := by simpa using hge
                       omega
    subst this
    refine Yes.some ?_
    rw [← hI]
  have hlt : i < M := by simpa using hlt
  refine Yes.lp (fun s => ∃ j : Nat, s.2.2.2 = j ∧ j ≤ l.Harness.Warps.length ∧ (s.1, s.2.1, s.2.2.1) = rowL (look l ds) l.Harness.Warps.length i j (scanL (look l ds) l.Harness.Warps.length (0, 0, (ds.length : Int) + 1) i)) (fun s => l.Harness.Warps.length - s.2.2.2.toNat) ⟨0, rfl, Nat.zero_le _, hI⟩ (by simp only; omega) ?_
  rintro ⟨a, b, c, j⟩ k2 ⟨j, hj, hjle, hJ⟩ hk2
  simp only at hj hJ hk2
  subst hj
  refine Yes.cond (fun hlt2 => Yes.bind ?_) (fun hge => Yes.some ?_)
  rotate_left
  · have : j = l.Harness.Warps.length := by have : ¬ j < l.Harness.Warps.length := by simpa using hge
                                            omega
    subst this
    rw [w64_id (by omega) (by omega)]
    exact hk1 _ ⟨i + 1, by simp, hlt, hJ⟩ (by simp only; omega)
  have hlt2 : j < l.Harness.Warps.length := by simpa using hlt2
  refine Yes.bind (Yes.mono (Q' := fun up => up = ((ups l ds i j : Nat) : Int)) ?_ fun up hup => ?_)
  · refine Yes.upto ds.length (by omega) (fun q up => up = ((ups l (ds.take q) i j : Nat) : Int)) rfl (fun q up k3 hq hI3 hk3 => ?_) (fun up k3 hI3 => ?_)
    · subst hI3
      have hul := ups_le l (ds.take q) i j
      rw [List.length_take] at hul
      rw [ups_take hq] at hk3
      refine Yes.cond (fun _ => Yes.bind (Yes.bind (Yes.idx rfl (by simpa using hq) ?_))) (fun h => absurd h (by simp; omega))
      rw [hXa]
      refine Yes.bind (Yes.idx rfl (by rw [cloth_len]; omega) ?_)
      rw [cloth_at]
      refine Yes.bind (Yes.idx rfl (by rw [line_len]; exact hlt2) ?_)
      rw [line_at, mark_x]
      refine Yes.cond (fun hu => Yes.some ?_) (fun hu => Yes.some ?_)
      · rw [w64_id (n := ((ups l (ds.take q) i j : Nat) : Int) + 1) (by omega) (by omega)]
        exact hk3 _ (by rw [hu]; simp)
      · exact hk3 _ (by rw [hu]; simp)
    · rw [List.take_length] at hI3
      exact Yes.cond (fun h => absurd h (by simp)) (fun _ => Yes.some hI3)
  · subst hup
    have hul := ups_le l ds i j
    rw [w64_id (n := (ds.length : Int) - ((ups l ds i j : Nat) : Int)) (by omega) (by omega)]
    have hv : max64 ((ups l ds i j : Nat) : Int) ((ds.length : Int) - ((ups l ds i j : Nat) : Int)) = look l ds i j := rfl
    rw [hv]
    have hnext : ∀ s' : Int × Int × Int, s' = rowL (look l ds) l.Harness.Warps.length i (j + 1) (scanL (look l ds) l.Harness.Warps.length (0, 0, (ds.length : Int) + 1) i) → _ := fun s' hs' => hk2 (s'.1, s'.2.1, s'.2.2, w64 ((j : Int) + 1)) ⟨j + 1, by simp only; rw [w64_id (by omega) (by omega)]; simp, hlt2, hs'⟩ (by simp only; rw [w64_id (by omega) (by omega)]; omega)
    rw [rowL_succ, ← hJ] at hnext
    unfold stepL at hnext
    simp only at hnext
    refine Yes.cond (fun hlt3 => Yes.some ?_) (fun hge => Yes.some ?_)
    · have hlt3 : look l ds i j < c := by simpa using hlt3
      exact hnext ((i : Int), (j : Int), look l ds i j) (by rw [if_pos hlt3])
    · have hge : ¬ look l ds i j < c := by simpa using hge
      exact hnext (a, b, c) (by rw [if_neg hge])
theorem s25 {n m : Nat} (hn : 0 < n) (c : Nat → Nat → Bool) {k : Int} (h0 : 0 ≤ k) (hk : k ≤ 1000) : f25 (clothOf n m c) k = some (clothOf k.toNat m fun p w => c (p % n) w) := by
  refine Yes.eq ?_
  unfold f25
  obtain ⟨k, rfl⟩ := Int.eq_ofNat_of_zero_le h0
  rw [Int.toNat_natCast, cloth_len]
  refine Yes.bind (Yes.upto k (by omega) (fun i r => r = clothOf i m fun p w => c (p % n) w) rfl (fun i r k2 hi hI hk2 => ?_) (fun r k2 hI => ?_))
  · subst hI
    have hlt : i % n < n := Nat.mod_lt _ hn
    refine Yes.jn (Yes.cond (fun _ => Yes.bind (Yes.bind (Yes.of (rem_nat hn) (Yes.bind (Yes.idx rfl (by rw [cloth_len]; exact hlt) ?_))))) (fun h => absurd h (by simp; omega)))
    rw [cloth_at]
    refine Yes.bind (Yes.apnd (by rw [cloth_len]; simp; omega) (by rw [cloth_len]; simp; omega) (Yes.some (hk2 _ ?_)))
    unfold clothOf
    rw [List.range_succ, List.map_append]; rfl
  · subst hI
    exact Yes.jn (Yes.cond (fun h => absurd h (by simp)) (fun _ => Yes.some (Yes.some rfl)))
/-- What the reference looks for. -/
theorem s7 (l : FaultLoom) (ds : List FaultDamage) (k : Int) : f7 l ds k = some true := by
  refine Yes.eq ?_
  unfold f7
  refine Yes.jn (Yes.bind (Yes.bind (Yes.of (s14 l) (Yes.cond (fun _ => Yes.some (Yes.cond (fun _ => Yes.bind (Yes.of known_ok (Yes.some rfl))) (fun h => nomatch h))) (fun h => Yes.some (Yes.cond (fun _ => Yes.bind (Yes.of known_ok (Yes.some rfl))) (fun h3 => ?_)))))))
  obtain ⟨h1, h2⟩ : l.Harness.Warps.length ≤ 110 ∧ l.Design.Rows.length ≤ 70 := by simp at h; omega
  have h3 : ds.length ≤ 110 := by simp at h3; omega
  refine Yes.jn (Yes.bind (Yes.of (s23 l ds) (Yes.bind (Yes.bind (Yes.mono (Q' := fun b => b = (decide (chkE l ds = 0) && !btw 1 120 k)) ?_ fun b hb => ?_)))))
  · refine Yes.cond (fun hc => Yes.bind (Yes.of (s24 _ _ _) (Yes.some ?_))) (fun hc => Yes.some ?_)
    · have hc : chkE l ds = 0 := by simpa using hc
      simp [hc, btw]
    · have hc : chkE l ds ≠ 0 := by simpa using hc
      simp [hc]
  subst hb
  have w1 : Yes (bif (decide (chkE l ds = 0) && !btw 1 120 k) then some (3 : Int) else some (chkE l ds)) (fun r => r = openE l ds k) := by
    refine Yes.cond (fun h => Yes.some ?_) (fun h => Yes.some ?_)
    · simp at h; unfold openE; simp [h]
    · unfold openE
      by_cases hc : chkE l ds = 0
      · simp [hc] at h; simp [hc, h]
      · simp [hc]
  refine w1.mono fun w1 hw1 => ?_
  subst hw1
  refine Yes.bind (Yes.bind (Yes.mono (Q' := fun b => b = decide (openE l ds k = 0 ∧ ds.length = 0)) ?_ fun b hb => ?_))
  · refine Yes.cond (fun hc => Yes.some ?_) (fun hc => Yes.some ?_)
    · have hc : openE l ds k = 0 := by simpa using hc
      rw [Bool.eq_iff_iff]; simp [hc]
    · have hc : openE l ds k ≠ 0 := by simpa using hc
      simp [hc]
  subst hb
  have w2 : Yes (bif decide (openE l ds k = 0 ∧ ds.length = 0) then some (7 : Int) else some (openE l ds k)) (fun r => r = if openE l ds k ≠ 0 then openE l ds k else if ds.length = 0 then 7 else 0) := by
    refine Yes.cond (fun h => Yes.some ?_) (fun h => Yes.some ?_)
    · have h := of_decide_eq_true h
      rw [if_neg (fun hh => hh h.1), if_pos h.2]
    · by_cases hc : openE l ds k = 0
      · simp [hc] at h; simp [hc, h]
      · simp [hc]
  refine w2.mono fun w2 hw2 => ?_
  refine Yes.jn (Yes.bind (Yes.mono (Q' := fun b => b = decide (w2 = 0 ∧ ds.length > 20)) ?_ fun b hb => ?_))
  · refine Yes.cond (fun hc => Yes.some ?_) (fun hc => Yes.some ?_)
    · have hc : w2 = 0 := by simpa using hc
      rw [decide_eq_decide]; simp [hc]; omega
    · have hc : w2 ≠ 0 := by simpa using hc
      simp [hc]
  subst hb
  refine Yes.cond (fun _ => Yes.bind (Yes.of known_ok (Yes.some rfl))) (fun h4 => ?_)
  refine Yes.jn (Yes.bind (Yes.of (s16 l (by omega) (by omega)) (Yes.bind (Yes.of (s17 ds (by omega)) (Yes.bind (Yes.of (s41 l ds k) ?_))))))
  refine Yes.jn (Yes.bind (Yes.bind (Yes.of (s21 l l (by omega) (by omega)) (Yes.cond (fun h => absurd h (by simp)) (fun _ => Yes.bind (Yes.of (s22 ds ds (by omega)) (Yes.some (Yes.cond (fun h => absurd h (by simp)) (fun _ => ?_)))))))))
  by_cases ho : openE l ds k = 0
  rotate_left
  · rw [if_pos ho] at hw2
    subst hw2
    rw [if_pos ho]
    refine Yes.jn (Yes.cond (fun _ => Yes.bind ?_) (fun h => absurd (by simpa using h) ho))
    exact Yes.cond (fun _ => Yes.cond (fun _ => Yes.cond (fun _ => Yes.cond (fun _ => Yes.bind (Yes.of known_ok (Yes.some (Yes.some rfl)))) (fun h => nomatch h)) (fun h => nomatch h)) (fun h => nomatch h)) (fun h => absurd h (by simp))
  rw [if_neg (fun hh => hh ho)] at hw2
  rw [if_neg (fun hh => hh ho)]
  by_cases h0 : ds.length = 0
  · rw [if_pos h0] at hw2
    subst hw2
    rw [if_pos h0]
    refine Yes.jn (Yes.cond (fun _ => Yes.bind ?_) (fun h => nomatch h))
    exact Yes.cond (fun _ => Yes.cond (fun _ => Yes.cond (fun _ => Yes.cond (fun _ => Yes.bind (Yes.of known_ok (Yes.some (Yes.some rfl)))) (fun h => nomatch h)) (fun h => nomatch h)) (fun h => nomatch h)) (fun h => nomatch h)
  rw [if_neg h0] at hw2
  subst hw2
  rw [if_neg h0]
  have h4 : ds.length ≤ 20 := by simpa using h4
  have hc : chkE l ds = 0 := by
    unfold openE at ho
    split at ho
    · rename_i h1; exact absurd ho h1
    · rename_i h1; exact Decidable.not_not.1 h1
  have hk : 1 ≤ k ∧ k ≤ 120 := by
    unfold openE at ho
    rw [if_neg (fun hh => hh hc)] at ho
    split at ho
    · rename_i hb; simpa [btw] using hb
    · cases ho
  obtain ⟨g, hlen, hd⟩ := chk_good hc
  have hr0 := g.r0
  have hr1 := g.r1
  have hw1 := g.w1
  have hw0 := g.w0
  refine Yes.jn (Yes.cond (fun h => nomatch h) (fun _ => Yes.bind ?_))
  obtain ⟨kn, rfl⟩ := Int.eq_ofNat_of_zero_le (show 0 ≤ k by omega)
  -- the reference's rounds
  refine Yes.mono (Q' := fun X => X = ds.map fun d => clothOf kn l.Harness.Warps.length fun p w => rc l [d] (p % l.Design.Rows.length) w) ?_ fun X hX => ?_
  · refine Yes.upto ds.length (by omega) (fun i r => r = (ds.take i).map fun d => clothOf kn l.Harness.Warps.length fun p w => rc l [d] (p % l.Design.Rows.length) w) rfl (fun i r k2 hi hI hk2 => ?_) (fun r k2 hI => ?_)
    · subst hI
      refine Yes.jn (Yes.cond (fun _ => Yes.bind (Yes.bind (Yes.idx rfl hi (Yes.bind (Yes.of (s36 g (hd _ (List.getElem_mem hi))) ?_))))) (fun h => absurd h (by simp; omega)))
      rw [rnd_is]
      refine Yes.bind (Yes.of (s25 hr0 (rc l [ds[i]]) (by omega) (by omega)) (Yes.bind (Yes.apnd (by simp; omega) (by simp; omega) (Yes.some (hk2 _ ?_)))))
      rw [List.take_succ_eq_append_getElem hi, List.map_append, Int.toNat_natCast]; rfl
    · subst hI
      rw [List.take_length]
      exact Yes.jn (Yes.cond (fun h => absurd h (by simp)) (fun _ => Yes.some rfl))
  have hXl : X.length = ds.length := by rw [hX]; simp
  have hXa : ∀ i (hi : i < X.length), X[i] = clothOf kn l.Harness.Warps.length fun p w => rc l [ds[i]'(by omega)] (p % l.Design.Rows.length) w := fun i hi => by subst hX; rw [List.getElem_map]
  clear hX
  generalize hV : (fun p w => look l ds (p % l.Design.Rows.length) w) = V
  have hVle : ∀ p w, 0 ≤ V p w ∧ V p w ≤ ds.length := fun p w => by rw [← hV]; exact look_le l ds _ _
  have hfin : ∀ (at2 : Vector Int 2) (le : Int), ((at2[0], at2[1], le) : Int × Int × Int) = scanL V l.Harness.Warps.length (0, 0, 1000) kn → at2 = ⟨#[(lookR l ds kn).1, (lookR l ds kn).2.1], rfl⟩ ∧ (lookR l ds kn).2.2 = le := fun at2 le he => by
    have e1 : lookR l ds kn = scanL V l.Harness.Warps.length (0, 0, 1000) kn := by
      unfold lookR
      rw [← scanL_min hr0, ← hV]
      exact scanL_start hw0 (by have := look_le l ds (0 % l.Design.Rows.length) 0; simp only; omega) (by have := look_le l ds (0 % l.Design.Rows.length) 0; simp only; omega) kn (by omega)
    rw [e1, ← he]
    refine ⟨Vector.ext fun i hi => ?_, rfl⟩
    match i, hi with
    | 0, _ => rfl
    | 1, _ => rfl
  refine Yes.bind ?_
  refine Yes.mono (Q' := fun s => ((s.1[0], s.1[1], s.2) : Int × Int × Int) = scanL V l.Harness.Warps.length (0, 0, 1000) kn) ?_ fun s hs => ?_
  rotate_left
  · obtain ⟨at2, le⟩ := s
    obtain ⟨ha, hle⟩ := hfin at2 le hs
    refine Yes.bind (Yes.cond (fun _ => Yes.cond (fun _ => Yes.cond (fun _ => Yes.bind (Yes.of known_ok (Yes.some (Yes.some rfl)))) (fun h => absurd h (by simpa using hle))) (fun h => absurd h (by rw [ha]; simp))) (fun h => nomatch h))
  refine Yes.lp (fun s => ∃ i : Nat, s.2.2 = i ∧ i ≤ kn ∧ ((s.1[0], s.1[1], s.2.1) : Int × Int × Int) = scanL V l.Harness.Warps.length (0, 0, 1000) i) (fun s => kn - s.2.2.toNat) ⟨0, rfl, Nat.zero_le _, rfl⟩ (by simp only; omega) ?_
  rintro ⟨a, c, j⟩ k1 ⟨i, hi, hle, hI⟩ hk1
  simp only at hi hI hk1
  subst hi
  refine Yes.jn (Yes.cond (fun hlt => Yes.bind ?_) (fun hge => Yes.some ?_))
  rotate_left
  · have : i = kn := by have : ¬ i < kn := by simpa using hge
                        omega
    subst this
    exact hI
  have hlt : i < kn := by simpa using hlt
  refine Yes.lp (fun s => ∃ j : Nat, s.2.2 = j ∧ j ≤ l.Harness.Warps.length ∧ ((s.1[0], s.1[1], s.2.1) : Int × Int × Int) = rowL V l.Harness.Warps.length i j (scanL V l.Harness.Warps.length (0, 0, 1000) i)) (fun s => l.Harness.Warps.length - s.2.2.toNat) ⟨0, rfl, Nat.zero_le _, hI⟩ (by simp only; omega) ?_
  rintro ⟨a, c, j⟩ k2 ⟨j, hj, hjle, hJ⟩ hk2
  simp only at hj hJ hk2
  subst hj
  refine Yes.jn (Yes.cond (fun hlt2 => Yes.bind (Yes.bind ?_)) (fun hge => Yes.some ?_))
  rotate_left
  · have : j = l.Harness.Warps.length := by have : ¬ j < l.Harness.Warps.length := by simpa using hge
                                            omega
    subst this
    rw [w64_id (by omega) (by omega)]
    exact hk1 _ ⟨i + 1, by simp, hlt, hJ⟩ (by simp only; omega)
  have hlt2 : j < l.Harness.Warps.length := by simpa using hlt2
  refine Yes.mono (Q' := fun n2 : Vector Int 2 => n2[1] = ((ups l ds (i % l.Design.Rows.length) j : Nat) : Int) ∧ n2[0] = (ds.length : Int) - ((ups l ds (i % l.Design.Rows.length) j : Nat) : Int)) ?_ fun n2 hn2 => ?_
  · rw [hXl]
    refine Yes.upto ds.length (by omega) (fun q n2 => n2[1] = ((ups l (ds.take q) (i % l.Design.Rows.length) j : Nat) : Int) ∧ n2[0] = (q : Int) - ((ups l (ds.take q) (i % l.Design.Rows.length) j : Nat) : Int)) ⟨rfl, rfl⟩ (fun q n2 k3 hq hI3 hk3 => ?_) (fun n2 k3 hI3 => ?_)
    · obtain ⟨e1, e0⟩ := hI3
      have hul := ups_le l (ds.take q) (i % l.Design.Rows.length) j
      rw [List.length_take] at hul
      rw [ups_take hq] at hk3
      refine Yes.jn (Yes.cond (fun _ => Yes.bind (Yes.bind (Yes.idx rfl (by omega) ?_))) (fun h => absurd h (by simp; omega)))
      rw [hXa]
      refine Yes.bind (Yes.idx rfl (by rw [cloth_len]; omega) ?_)
      rw [cloth_at]
      refine Yes.bind (Yes.idx rfl (by rw [line_len]; exact hlt2) ?_)
      rw [line_at, mark_x]
      refine Yes.cond (fun hu => Yes.some ?_) (fun hu => Yes.some ?_)
      · refine hk3 _ ?_
        rw [e1, w64_id (by omega) (by omega), hu]
        simp [e0]; omega
      · refine hk3 _ ?_
        rw [e0, w64_id (by omega) (by omega), hu]
        simp [e1]; omega
    · rw [List.take_length] at hI3
      exact Yes.jn (Yes.cond (fun h => absurd h (by simp)) (fun _ => Yes.some hI3))
  · obtain ⟨e1, e0⟩ := hn2
    have hv : max64 n2[0] n2[1] = V i j := by
      rw [e0, e1, ← hV]
      exact max64_comm _ _
    rw [hv]
    have hnext : ∀ (a' : Vector Int 2) (c' : Int), ((a'[0], a'[1], c') : Int × Int × Int) = rowL V l.Harness.Warps.length i (j + 1) (scanL V l.Harness.Warps.length (0, 0, 1000) i) → _ := fun a' c' hs' => hk2 (a', c', w64 ((j : Int) + 1)) ⟨j + 1, by simp only; rw [w64_id (by omega) (by omega)]; simp, hlt2, hs'⟩ (by simp only; rw [w64_id (by omega) (by omega)]; omega)
    rw [rowL_succ, ← hJ] at hnext
    unfold stepL at hnext
    simp only at hnext
    refine Yes.cond (fun hlt3 => Yes.some ?_) (fun hge => Yes.some ?_)
    · have hlt3 : V i j < c := by simpa using hlt3
      exact hnext ⟨#[(i : Int), (j : Int)], rfl⟩ (V i j) (by rw [if_pos hlt3]; rfl)
    · have hge : ¬ V i j < c := by simpa using hge
      exact hnext a c (by rw [if_neg hge])
end Go.Proofs.Ytpiaipiehjcflaa
