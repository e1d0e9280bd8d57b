/- Plain laws: where a cloth is wrong. -/
import Derived.Test.YtpiaipiehjcflaaDoes
set_option maxRecDepth 8000
namespace Go.Proofs.Ytpiaipiehjcflaa
open Go.RowKit

theorem plFrom_range (d : Nat → Nat → Bool) (n m : Nat) : ∀ k, k ≤ n → plFrom d n m k = ((List.range n).drop (n - k)).flatMap fun i => rowFrom (d i) i m m
  | 0, _ => by rw [Nat.sub_zero, List.drop_eq_nil_of_le (by simp)]; rfl
  | k + 1, h => by
    rw [plFrom, plFrom_range d n m k (by omega)]
    rw [show (List.range n).drop (n - (k + 1)) = (n - (k + 1)) :: (List.range n).drop (n - k) by
      rw [List.drop_eq_getElem_cons (by simp; omega)]
      simp only [List.getElem_range]
      rw [show n - (k + 1) + 1 = n - k by omega]]
    simp
theorem pl_range (d : Nat → Nat → Bool) (n m : Nat) : pl n m d = (List.range n).flatMap fun i => rowFrom (d i) i m m := by
  unfold pl; rw [plFrom_range d n m n (Nat.le_refl _)]; simp
theorem rowFrom_congr {d d' : Nat → Bool} {i m : Nat} (h : ∀ w, w < m → d w = d' w) : ∀ k, 0 < m → rowFrom d i m k = rowFrom d' i m k
  | 0, _ => rfl
  | k + 1, hm => by unfold rowFrom; rw [h _ (by omega), rowFrom_congr h k hm]
theorem fm_congr {α β : Type} {f g : α → List β} {xs : List α} (h : ∀ x ∈ xs, f x = g x) : xs.flatMap f = xs.flatMap g := by
  induction xs with
  | nil => rfl
  | cons x xs ih => rw [List.flatMap_cons, List.flatMap_cons, h x List.mem_cons_self, ih fun y hy => h y (List.mem_cons_of_mem _ hy)]
theorem pl_congr {d d' : Nat → Nat → Bool} {n m : Nat} (hm : 0 < m) (h : ∀ p w, p < n → w < m → d p w = d' p w) : pl n m d = pl n m d' := by
  rw [pl_range, pl_range]
  exact fm_congr fun i hi => rowFrom_congr (fun w hw => h i w (List.mem_range.1 hi) hw) m hm
def shiftP (n : Nat) (q : Int × Int) : Int × Int := (q.1 + (n : Int), q.2)
theorem rowFrom_shift (d : Nat → Bool) (n i m : Nat) : ∀ k, rowFrom d (n + i) m k = (rowFrom d i m k).map (shiftP n)
  | 0 => rfl
  | k + 1 => by
    unfold rowFrom
    rw [rowFrom_shift d n i m k, List.map_append]
    congr 1
    split
    · simp [shiftP]; omega
    · rfl
/-- Two rounds. -/
theorem pl_two (D : Nat → Nat → Bool) (n m : Nat) : pl (n + n) m (fun p w => D (p % n) w) = pl n m D ++ (pl n m D).map (shiftP n) := by
  rw [pl_range, pl_range, List.range_add, List.flatMap_append]
  congr 1
  · exact fm_congr fun i hi => by rw [Nat.mod_eq_of_lt (List.mem_range.1 hi)]
  · rw [List.map_flatMap]
    have : ∀ xs : List Nat, (∀ x ∈ xs, x < n) → ((xs.map fun x => n + x).flatMap fun i => rowFrom (fun w => D (i % n) w) i m m) = xs.flatMap fun i => (rowFrom (D i) i m m).map (shiftP n) := fun xs => by
      induction xs with
      | nil => intro _; rfl
      | cons x xs ih =>
        intro h
        rw [List.map_cons, List.flatMap_cons, List.flatMap_cons, ih fun y hy => h y (List.mem_cons_of_mem _ hy)]
        rw [Nat.add_mod_left, Nat.mod_eq_of_lt (h x List.mem_cons_self), rowFrom_shift]
    exact this (List.range n) fun x hx => List.mem_range.1 hx
theorem s20 {l : FaultLoom} {ds ds' : List FaultDamage} {k : Nat} (hs : f78 ds (fun a0 a1 => f79 a0 a1) = some ds') (hl' : ds'.length ≤ 100000) (hall : ∀ d ∈ ds', dmg l d = true) (ho : openE l ds k = 0) (ho0 : openE l [] k = 0) (g : Good l) (hk : k ≤ 120) :
    f20 l ds k = some (wrs (fun p w => rc l ds' (p % l.Design.Rows.length) w) (pl k l.Harness.Warps.length fun p w => rc l ds' (p % l.Design.Rows.length) w != rc l [] (p % l.Design.Rows.length) w), 0) := by
  have hw1 := g.w1
  refine Yes.eq ?_
  unfold f20
  refine Yes.bind (Yes.of (s19 hs hl' hall ho) (Yes.jn (Yes.cond (fun h => nomatch h) (fun _ => Yes.bind (Yes.of (s19 s78_nil (by simp) (fun x hx => by cases hx) ho0) (Yes.bind (Yes.bind ?_)))))))
  rw [Int.toNat_natCast]
  have hpl : ∀ q ∈ pl k l.Harness.Warps.length (fun p w => rc l ds' (p % l.Design.Rows.length) w != rc l [] (p % l.Design.Rows.length) w), ∃ p w : Nat, q = ((p : Int), (w : Int)) ∧ p < k ∧ w < l.Harness.Warps.length := fun q hq => by
    rw [pl_range] at hq
    obtain ⟨p, hp, hq⟩ := List.mem_flatMap.1 hq
    have : ∀ j, j ≤ l.Harness.Warps.length → q ∈ rowFrom (fun w => rc l ds' (p % l.Design.Rows.length) w != rc l [] (p % l.Design.Rows.length) w) p l.Harness.Warps.length j → ∃ w : Nat, q = ((p : Int), (w : Int)) ∧ w < l.Harness.Warps.length := fun j => by
      induction j with
      | zero => intro _ h; cases h
      | succ j ih =>
        intro hj h
        unfold rowFrom at h
        rcases List.mem_append.1 h with h | h
        · split at h
          · exact ⟨_, List.mem_singleton.1 h, by omega⟩
          · cases h
        · exact ih (by omega) h
    obtain ⟨w, h1, h2⟩ := this _ (Nat.le_refl _) hq
    exact ⟨p, w, h1, List.mem_range.1 hp, h2⟩
  have hlen : (pl k l.Harness.Warps.length (fun p w => rc l ds' (p % l.Design.Rows.length) w != rc l [] (p % l.Design.Rows.length) w)).length ≤ 12000 := by
    have := plFrom_len (fun p w => rc l ds' (p % l.Design.Rows.length) w != rc l [] (p % l.Design.Rows.length) w) k l.Harness.Warps.length k
    have h2 : k * l.Harness.Warps.length ≤ 120 * 96 := Nat.mul_le_mul hk hw1
    unfold pl; omega
  have hf := feed_app (cons := fun m6_128 (q : Int × Int) => (idx (cthN l ds' k) q.1).bind fun y132 => (idx y132.b q.2).bind fun y135 => (apnd 24 m6_128 [(⟨q.1, q.2, (y135 == (120 : UInt8))⟩ : FaultSight)]).bind fun y159 => some (true, y159))
    (fun q => [(⟨q.1, q.2, rc l ds' (q.1.toNat % l.Design.Rows.length) q.2.toNat⟩ : FaultSight)]) 20000 (pl k l.Harness.Warps.length fun p w => rc l ds' (p % l.Design.Rows.length) w != rc l [] (p % l.Design.Rows.length) w) [] (fun _ _ => by simp) (by simp only [List.length_nil]; omega) (fun m q hq hm => by
      obtain ⟨p, w, rfl, hp, hw⟩ := hpl q hq
      refine Yes.eq ?_
      have hx : p < (cthN l ds' k).length := by unfold cthN; rw [cloth_len]; exact hp
      refine Yes.bind (Yes.idx rfl hx ?_)
      rw [show (cthN l ds' k)[p] = line l.Harness.Warps.length (fun w => rc l ds' (p % l.Design.Rows.length) w) from cloth_at (c := fun p w => rc l ds' (p % l.Design.Rows.length) w) hx]
      refine Yes.bind (Yes.idx rfl (by rw [line_len]; exact hw) ?_)
      rw [line_at, mark_x]
      exact Yes.bind (Yes.apnd (by simp; omega) (by simp; omega) (Yes.some (by simp))))
  refine Yes.of (s83 (n := k) (m := l.Harness.Warps.length) (by omega) (by omega) (fun p w => rc l ds' (p % l.Design.Rows.length) w) (fun p w => rc l [] (p % l.Design.Rows.length) w) hf) (Yes.some (Yes.some ?_))
  congr 1
  unfold wrs
  rw [List.nil_append]
  generalize (pl k l.Harness.Warps.length fun p w => rc l ds' (p % l.Design.Rows.length) w != rc l [] (p % l.Design.Rows.length) w) = ps
  induction ps with
  | nil => rfl
  | cons q qs ih => simp; exact ih
theorem s48 (xs : List FaultDamage) (d : FaultDamage) (hl : xs.length < 9223372036854775807) : f48 xs d = some (decide (d ∈ xs)) := by
  refine Yes.eq ?_
  unfold f48
  refine Yes.jn (Yes.upto0 xs.length hl (fun i => ∀ j (hj : j < xs.length), j < i → xs[j] ≠ d) (fun _ _ h => absurd h (Nat.not_lt_zero _)) (fun i k hi hI hk => ?_) (fun k hI => ?_))
  · refine Yes.jn (Yes.cond (fun _ => Yes.jn (Yes.bind (Yes.idx rfl hi (Yes.cond (fun h => Yes.some ?_) (fun h => hk ?_))))) (fun h => absurd h (by simp; omega)))
    · have h : xs[i] = d := of_decide_eq_true h
      rw [← h]; exact (decide_eq_true (List.getElem_mem hi)).symm
    · intro j hj hji
      rcases Nat.lt_succ_iff_lt_or_eq.1 hji with h' | rfl
      · exact hI j hj h'
      · exact of_decide_eq_false h
  · refine Yes.jn (Yes.cond (fun h => absurd h (by simp)) (fun _ => Yes.some ?_))
    refine (decide_eq_false fun hd => ?_).symm
    obtain ⟨j, hj, rfl⟩ := List.getElem_of_mem hd
    exact hI j hj hj rfl
/-- All valid damages are tried. -/
theorem allDs_all {l : FaultLoom} {d : FaultDamage} (hd : dmg l d = true) : d ∈ allDs l := by
  obtain ⟨k, p, h, w, u⟩ := d
  unfold allDs aDs
  simp only [List.mem_append]
  unfold dmg btw at hd
  simp only at hd
  split at hd
  · rename_i hk
    subst hk
    simp at hd
    refine .inl (.inl (.inl (.inl (List.mem_flatMap.2 ⟨p.toNat, List.mem_range.2 (by omega), List.mem_map.2 ⟨h.toNat, List.mem_range.2 (by omega), ?_⟩⟩))))
    obtain ⟨⟨⟨h1, h2⟩, h3⟩, h4⟩ := hd
    subst h3; subst h4
    rw [show ((p.toNat : Nat) : Int) = p by omega, show ((h.toNat : Nat) : Int) = h by omega]
  split at hd
  · rename_i hk
    subst hk
    simp at hd
    refine .inl (.inl (.inl (.inr (List.mem_flatMap.2 ⟨h.toNat, List.mem_range.2 (by omega), ?_⟩))))
    obtain ⟨⟨h1, h2⟩, h3⟩ := hd
    subst h2; subst h3
    rw [show ((h.toNat : Nat) : Int) = h by omega]
    cases u <;> simp
  split at hd
  · rename_i hk
    simp at hd
    obtain ⟨⟨⟨h1, h2⟩, h3⟩, h4⟩ := hd
    subst h2; subst h3; subst h4
    rcases hk with rfl | rfl
    · exact .inl (.inl (.inr (List.mem_map.2 ⟨p.toNat, List.mem_range.2 (by omega), by rw [show ((p.toNat : Nat) : Int) = p by omega]⟩)))
    · exact .inl (.inr (List.mem_map.2 ⟨p.toNat, List.mem_range.2 (by omega), by rw [show ((p.toNat : Nat) : Int) = p by omega]⟩))
  split at hd
  · rename_i hk
    subst hk
    simp at hd
    obtain ⟨⟨⟨h1, h2⟩, h3⟩, h4⟩ := hd
    subst h2; subst h3; subst h4
    exact .inr (List.mem_map.2 ⟨w.toNat, List.mem_range.2 (by omega), by rw [show ((w.toNat : Nat) : Int) = w by omega]⟩)
  · cases hd
theorem mem_shows {l : FaultLoom} {d : FaultDamage} (hd : dmg l d = true) : d ∈ shows l ↔ sh l d = true := by
  unfold shows
  rw [List.mem_filter]
  exact ⟨fun h => h.2, fun h => ⟨allDs_all hd, h⟩⟩
theorem sh_places {l : FaultLoom} (g : Good l) (d : FaultDamage) : sh l d = true ↔ apl l [d] [] ≠ [] := by
  unfold sh
  have h := plFrom_nil (n := l.Design.Rows.length) (m := l.Harness.Warps.length) (c := rc l [d]) (c' := rc l []) g.w0 l.Design.Rows.length (Nat.le_refl _)
  rw [Nat.sub_self] at h
  rw [rnd_is, rnd_is]
  simp only [Bool.not_eq_true', decide_eq_false_iff_not]
  rw [cloth_eq]
  unfold apl pl
  rw [ne_eq, h]
  exact not_congr ⟨fun h p _ hp => h p hp, fun h p hp => h p (Nat.zero_le _) hp⟩
end Go.Proofs.Ytpiaipiehjcflaa
