/- FaultLooks as a plain function: it returns true. -/
import Derived.Test.YtpiaipiehjcflaaApart
set_option maxRecDepth 8000
namespace Go.Proofs.Ytpiaipiehjcflaa
open Go.RowKit

/-- How many damages are left at most, by how many of N lift the place. -/
def worst (N up : Nat) : Int := max64 (up : Int) ((N : Int) - (up : Int))
def ups (l : FaultLoom) (ds : List FaultDamage) (p w : Nat) : Nat := ds.countP fun d => rc l [d] p w
def look (l : FaultLoom) (ds : List FaultDamage) (p w : Nat) : Int := worst ds.length (ups l ds p w)
/-- The first place with the least number. -/
def stepL (V : Nat → Nat → Int) (p : Nat) (s : Int × Int × Int) (w : Nat) : Int × Int × Int := if V p w < s.2.2 then ((p : Int), (w : Int), V p w) else s
def rowL (V : Nat → Nat → Int) (_m p k : Nat) (s : Int × Int × Int) : Int × Int × Int := (List.range k).foldl (stepL V p) s
def scanL (V : Nat → Nat → Int) (m : Nat) (s : Int × Int × Int) : Nat → Int × Int × Int
  | 0 => s
  | i + 1 => rowL V m i m (scanL V m s i)
theorem rowL_succ (V : Nat → Nat → Int) (m p k : Nat) (s : Int × Int × Int) : rowL V m p (k + 1) s = stepL V p (rowL V m p k s) k := by
  unfold rowL; rw [List.range_succ, List.foldl_append]; rfl
theorem stepL_le (V : Nat → Nat → Int) (p : Nat) (s : Int × Int × Int) (w : Nat) : (stepL V p s w).2.2 ≤ s.2.2 ∧ (stepL V p s w).2.2 ≤ V p w := by
  unfold stepL
  split
  · exact ⟨by show V p w ≤ s.2.2; omega, Int.le_refl _⟩
  · exact ⟨Int.le_refl _, by omega⟩
theorem rowL_le (V : Nat → Nat → Int) (m p : Nat) (s : Int × Int × Int) : ∀ k, (rowL V m p k s).2.2 ≤ s.2.2 ∧ ∀ w, w < k → (rowL V m p k s).2.2 ≤ V p w
  | 0 => ⟨Int.le_refl _, fun w h => absurd h (Nat.not_lt_zero _)⟩
  | k + 1 => by
    rw [rowL_succ]
    obtain ⟨h1, h2⟩ := rowL_le V m p s k
    obtain ⟨h3, h4⟩ := stepL_le V p (rowL V m p k s) k
    refine ⟨by omega, fun w hw => ?_⟩
    by_cases e : w = k
    · subst e; exact h4
    · have := h2 w (by omega); omega
theorem scanL_le (V : Nat → Nat → Int) (m : Nat) (s : Int × Int × Int) : ∀ i, (scanL V m s i).2.2 ≤ s.2.2 ∧ ∀ p w, p < i → w < m → (scanL V m s i).2.2 ≤ V p w
  | 0 => ⟨Int.le_refl _, fun p w h => absurd h (Nat.not_lt_zero _)⟩
  | i + 1 => by
    obtain ⟨h1, h2⟩ := scanL_le V m s i
    obtain ⟨h3, h4⟩ := rowL_le V m i (scanL V m s i) m
    show (rowL V m i m (scanL V m s i)).2.2 ≤ _ ∧ ∀ p w, _ → _ → (rowL V m i m (scanL V m s i)).2.2 ≤ _
    refine ⟨by omega, fun p w hp hw => ?_⟩
    by_cases e : p = i
    · subst e; exact h4 w hw
    · have := h2 p w (by omega) hw; omega
theorem ups_le (l : FaultLoom) (ds : List FaultDamage) (p w : Nat) : ups l ds p w ≤ ds.length := List.countP_le_length
theorem worst_le {N up : Nat} (h : up ≤ N) : 0 ≤ worst N up ∧ worst N up ≤ N := by unfold worst max64; split <;> omega
theorem look_le (l : FaultLoom) (ds : List FaultDamage) (p w : Nat) : 0 ≤ look l ds p w ∧ look l ds p w ≤ ds.length := worst_le (ups_le l ds p w)
def openE (l : FaultLoom) (ds : List FaultDamage) (k : Int) : Int := if chkE l ds ≠ 0 then chkE l ds else if btw 1 120 k then 0 else 3
theorem s54 (l : FaultLoom) (ds : List FaultDamage) (k : Int) : f54 l ds k = some (openE l ds k) := by
  refine Yes.eq ?_
  unfold f54
  refine Yes.jn (Yes.bind (Yes.of (s18 _ _) (Yes.cond (fun h => Yes.some ?_) (fun h => Yes.jn (Yes.bind (Yes.of (s62 1 120 [k] (by simp)) (Yes.cond (fun h2 => Yes.some ?_) (fun h2 => Yes.some ?_))))))))
  · have h : chkE l ds ≠ 0 := by simpa using h
    unfold openE; rw [if_pos h]
  all_goals
    have h : ¬ chkE l ds ≠ 0 := by simpa using h
    simp only [List.all_cons, List.all_nil, Bool.and_true, ← btw.eq_1] at h2
  · have h2 : btw 1 120 k = false := by simpa using h2
    unfold openE; rw [if_neg h, h2]; rfl
  · have h2 : btw 1 120 k = true := by simpa using h2
    unfold openE; rw [if_neg h, h2]; rfl
theorem ups_take {l : FaultLoom} {ds : List FaultDamage} {p w i : Nat} (hi : i < ds.length) : ups l (ds.take (i + 1)) p w = ups l (ds.take i) p w + if rc l [ds[i]] p w then 1 else 0 := by
  unfold ups
  rw [List.take_succ_eq_append_getElem hi, List.countP_append, List.countP_singleton]
/-- What fault.Look finds. -/
def lookR (l : FaultLoom) (ds : List FaultDamage) (k : Nat) : Int × Int × Int := scanL (look l ds) l.Harness.Warps.length (0, 0, (ds.length : Int) + 1) (min k l.Design.Rows.length)
theorem s41 (l : FaultLoom) (ds : List FaultDamage) (k : Int) : f41 l ds k = some (if openE l ds k ≠ 0 then (0, 0, 0, openE l ds k) else if ds.length = 0 then (0, 0, 0, 7) else ((lookR l ds k.toNat).1, (lookR l ds k.toNat).2.1, (lookR l ds k.toNat).2.2, 0)) := by
  refine Yes.eq ?_
  unfold f41
  refine Yes.jn (Yes.bind (Yes.of (s54 l ds k) (Yes.cond (fun h => Yes.some ?_) (fun h => ?_))))
  · have h : openE l ds k ≠ 0 := by simpa using h
    rw [if_pos h]
  have h : openE l ds k = 0 := by simpa using h
  refine Yes.jn (Yes.cond (fun h0 => Yes.some ?_) (fun h0 => ?_))
  · have h0 : ds.length = 0 := by simp at h0; simp [h0]
    rw [if_neg (fun hh => hh h), if_pos h0]
  have h0 : ds.length ≠ 0 := by simp at h0; simpa using h0
  rw [if_neg (fun hh => hh h), if_neg h0]
  have hc : chkE l ds = 0 := by
    unfold openE at h
    split at h
    · rename_i h1; exact absurd h h1
    · rename_i h1; exact Decidable.not_not.1 h1
  have hk : 1 ≤ k ∧ k ≤ 120 := by
    unfold openE at h
    rw [if_neg (fun hh => hh hc)] at h
    split at h
    · rename_i hb; simpa [btw] using hb
    · cases h
  obtain ⟨g, hlen, hd⟩ := chk_good hc
  have hr1 := g.r1
  have hw1 := g.w1
  refine Yes.jn (Yes.bind (Yes.of (s68 g (by omega) hd) (Yes.bind ?_)))
  have hXl : (ds.map fun d => rnd l [d]).length = ds.length := by simp
  have hXa : ∀ i (hi : i < (ds.map fun d => rnd l [d]).length), (ds.map fun d => rnd l [d])[i] = clothOf l.Design.Rows.length l.Harness.Warps.length (rc l [ds[i]'(by simpa using hi)]) := fun i hi => by rw [List.getElem_map]; rfl
  rw [hXl]
  have hmin : min64 k (l.Design.Rows.length : Int) = ((min k.toNat l.Design.Rows.length : Nat) : Int) := by unfold min64; split <;> omega
  rw [hmin, w64_id (n := (ds.length : Int) + 1) (by omega) (by omega)]
  generalize hM : min k.toNat l.Design.Rows.length = M
  have hMl : M ≤ l.Design.Rows.length := by omega
  have hdef : lookR l ds k.toNat = scanL (look l ds) l.Harness.Warps.length (0, 0, (ds.length : Int) + 1) M := by unfold lookR; rw [hM]
  rw [hdef]
  refine Yes.lp (fun s => ∃ i : Nat, s.2.2.2 = i ∧ i ≤ M ∧ (s.1, s.2.1, s.2.2.1) = scanL (look l ds) l.Harness.Warps.length (0, 0, (ds.length : Int) + 1) i) (fun s => M - s.2.2.2.toNat) ⟨0, rfl, Nat.zero_le _, rfl⟩ (by simp only; omega) ?_
  rintro ⟨a, b, c, j⟩ k1 ⟨i, hi, hle, hI⟩ hk1
  simp only at hi hI hk1
  subst hi
  refine Yes.cond (fun hlt => Yes.bind ?_) (fun hge => Yes.some ?_)
  rotate_left
  · have : i = M := by have : ¬ i < M := by simpa using hge
                       omega
    subst this
    refine Yes.some ?_
    rw [← hI]
  have hlt : i < M := by simpa using hlt
  refine Yes.lp (fun s => ∃ j : Nat, s.2.2.2 = j ∧ j ≤ l.Harness.Warps.length ∧ (s.1, s.2.1, s.2.2.1) = rowL (look l ds) l.Harness.Warps.length i j (scanL (look l ds) l.Harness.Warps.length (0, 0, (ds.length : Int) + 1) i)) (fun s => l.Harness.Warps.length - s.2.2.2.toNat) ⟨0, rfl, Nat.zero_le _, hI⟩ (by simp only; omega) ?_
  rintro ⟨a, b, c, j⟩ k2 ⟨j, hj, hjle, hJ⟩ hk2
  simp only at hj hJ hk2
  subst hj
  refine Yes.cond (fun hlt2 => Yes.bind ?_) (fun hge => Yes.some ?_)
  rotate_left
  · have : j = l.Harness.Warps.length := by have : ¬ j < l.Harness.Warps.length := by simpa using hge
                                            omega
    subst this
    rw [w64_id (by omega) (by omega)]
    exact hk1 _ ⟨i + 1, by simp, hlt, hJ⟩ (by simp only; omega)
  have hlt2 : j < l.Harness.Warps.length := by simpa using hlt2
  refine Yes.bind (Yes.mono (Q' := fun up => up = ((ups l ds i j : Nat) : Int)) ?_ fun up hup => ?_)
  · refine Yes.upto ds.length (by omega) (fun q up => up = ((ups l (ds.take q) i j : Nat) : Int)) rfl (fun q up k3 hq hI3 hk3 => ?_) (fun up k3 hI3 => ?_)
    · subst hI3
      have hul := ups_le l (ds.take q) i j
      rw [List.length_take] at hul
      rw [ups_take hq] at hk3
      refine Yes.cond (fun _ => Yes.bind (Yes.bind (Yes.idx rfl (by simpa using hq) ?_))) (fun h => absurd h (by simp; omega))
      rw [hXa]
      refine Yes.bind (Yes.idx rfl (by rw [cloth_len]; omega) ?_)
      rw [cloth_at]
      refine Yes.bind (Yes.idx rfl (by rw [line_len]; exact hlt2) ?_)
      rw [line_at, mark_x]
      refine Yes.cond (fun hu => Yes.some ?_) (fun hu => Yes.some ?_)
      · rw [w64_id (n := ((ups l (ds.take q) i j : Nat) : Int) + 1) (by omega) (by omega)]
        exact hk3 _ (by rw [hu]; simp)
      · exact hk3 _ (by rw [hu]; simp)
    · rw [List.take_length] at hI3
      exact Yes.cond (fun h => absurd h (by simp)) (fun _ => Yes.some hI3)
  · subst hup
    have hul := ups_le l ds i j
    rw [w64_id (n := (ds.length : Int) - ((ups l ds i j : Nat) : Int)) (by omega) (by omega)]
    have hv : max64 ((ups l ds i j : Nat) : Int) ((ds.length : Int) - ((ups l ds i j : Nat) : Int)) = look l ds i j := rfl
    rw [hv]
    have hnext : ∀ s' : Int × Int × Int, s' = rowL (look l ds) l.Harness.Warps.length i (j + 1) (scanL (look l ds) l.Harness.Warps.length (0, 0, (ds.length : Int) + 1) i) → _ := fun s' hs' => hk2 (s'.1, s'.2.1, s'.2.2, w64 ((j : Int) + 1)) ⟨j + 1, by simp only; rw [w64_id (by omega) (by omega)]; simp, hlt2, hs'⟩ (by simp only; rw [w64_id (by omega) (by omega)]; omega)
    rw [rowL_succ, ← hJ] at hnext
    unfold stepL at hnext
    simp only at hnext
    refine Yes.cond (fun hlt3 => Yes.some ?_) (fun hge => Yes.some ?_)
    · have hlt3 : look l ds i j < c := by simpa using hlt3
      exact hnext ((i : Int), (j : Int), look l ds i j) (by rw [if_pos hlt3])
    · have hge : ¬ look l ds i j < c := by simpa using hge
      exact hnext (a, b, c) (by rw [if_neg hge])
end Go.Proofs.Ytpiaipiehjcflaa
