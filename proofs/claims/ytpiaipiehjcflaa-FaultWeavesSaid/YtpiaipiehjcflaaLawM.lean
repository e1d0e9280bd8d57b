/- Plain laws: damages in groups that are alike. -/
import Derived.Test.YtpiaipiehjcflaaLawL
set_option maxRecDepth 8000
namespace Go.Proofs.Ytpiaipiehjcflaa
open Go.RowKit

/-! ### Classes of an equivalence on numbers -/
section
variable (e : Nat → Nat → Bool)
def first (i : Nat) : Bool := (List.range i).all fun k => !e i k
def firsts (i : Nat) : List Nat := (List.range i).filter (first e)
def clN (i f : Nat) : List Nat := (List.range i).filter (e f)
def cl (i f : Nat) : List Int := (clN e i f).map fun (k : Nat) => (k : Int)
def grp (i : Nat) : List (List Int) := (firsts e i).map (cl e i)
end
structure Equi (e : Nat → Nat → Bool) : Prop where
  refl : ∀ i, e i i = true
  symm : ∀ {i k}, e i k = true → e k i = true
  trans : ∀ {i j k}, e i j = true → e j k = true → e i k = true
section
variable {e : Nat → Nat → Bool}
theorem first_is {i : Nat} : first e i = true ↔ ∀ k, k < i → e i k = false := by
  unfold first
  rw [List.all_eq_true]
  exact ⟨fun h k hk => by simpa using h k (List.mem_range.2 hk), fun h k hk => by simpa using h k (List.mem_range.1 hk)⟩
theorem mem_firsts {i f : Nat} : f ∈ firsts e i ↔ f < i ∧ first e f = true := by unfold firsts; rw [List.mem_filter, List.mem_range]
theorem rep (E : Equi e) : ∀ k, ∃ f, f ≤ k ∧ first e f = true ∧ e f k = true := by
  intro k
  induction k using Nat.strongRecOn with
  | ind k ih =>
    by_cases h : first e k = true
    · exact ⟨k, Nat.le_refl _, h, E.refl k⟩
    · rw [first_is] at h
      obtain ⟨j, hj⟩ := Classical.not_forall.1 h
      obtain ⟨hj1, hj2⟩ := Classical.not_imp.1 hj
      have hj2 : e k j = true := by simpa using hj2
      obtain ⟨f, hf, h1, h2⟩ := ih j hj1
      exact ⟨f, by omega, h1, E.trans h2 (E.symm hj2)⟩
theorem rep_one (E : Equi e) {f f' k : Nat} (h : first e f = true) (h' : first e f' = true) (hk : e f k = true) (hk' : e f' k = true) : f = f' := by
  rcases Nat.lt_trichotomy f f' with hlt | he | hlt
  · have := first_is.1 h' f hlt
    rw [E.trans hk' (E.symm hk)] at this; cases this
  · exact he
  · have := first_is.1 h f' hlt
    rw [E.trans hk (E.symm hk')] at this; cases this
theorem clN_succ (i f : Nat) : clN e (i + 1) f = clN e i f ++ if e f i then [i] else [] := by
  unfold clN
  rw [List.range_succ, List.filter_append]
  cases h : e f i <;> simp [h]
theorem firsts_succ (i : Nat) : firsts e (i + 1) = firsts e i ++ if first e i then [i] else [] := by
  unfold firsts
  rw [List.range_succ, List.filter_append]
  cases h : first e i <;> simp [h]
theorem cl_head (E : Equi e) {i f : Nat} (hf : f < i) (h : first e f = true) : ∃ t, clN e i f = f :: t := by
  unfold clN
  obtain ⟨j, rfl⟩ : ∃ j, i = f + 1 + j := ⟨i - (f + 1), by omega⟩
  rw [List.range_add, List.filter_append, List.range_succ, List.filter_append]
  have h0 : (List.range f).filter (e f) = [] := List.filter_eq_nil_iff.2 fun k hk => by rw [first_is.1 h k (List.mem_range.1 hk)]; simp
  rw [h0]
  simp only [List.filter_cons, E.refl f, if_true, List.filter_nil, List.nil_append]
  exact ⟨_, rfl⟩
theorem firsts_at {i N : Nat} (hi : i < N) (h : first e i = true) : ∃ hl : (firsts e i).length < (firsts e N).length, (firsts e N)[(firsts e i).length] = i := by
  unfold firsts
  obtain ⟨j, rfl⟩ : ∃ j, N = i + 1 + j := ⟨N - (i + 1), by omega⟩
  have e1 : (List.range (i + 1 + j)).filter (first e) = (List.range i).filter (first e) ++ i :: ((List.range j).map (i + 1 + ·)).filter (first e) := by
    rw [List.range_add, List.filter_append, List.range_succ, List.filter_append, List.append_assoc]
    simp [h]
  refine ⟨by rw [e1]; simp, ?_⟩
  simp only [e1]
  rw [List.getElem_append_right (Nat.le_refl _)]
  simp
theorem firsts_nodup (i : Nat) : (firsts e i).Nodup := List.Nodup.sublist List.filter_sublist List.nodup_range
/-- A new group. -/
theorem grp_new (E : Equi e) {i : Nat} (h : ∀ f ∈ firsts e i, e f i = false) : grp e (i + 1) = grp e i ++ [[(i : Int)]] := by
  have hf : first e i = true := first_is.2 fun k hk => by
    obtain ⟨f, hfk, h1, h2⟩ := rep E k
    cases hik : e i k with
    | false => rfl
    | true =>
      have := h f (mem_firsts.2 ⟨by omega, h1⟩)
      rw [E.trans h2 (E.symm hik)] at this; cases this
  unfold grp
  rw [firsts_succ, hf, if_pos rfl, List.map_append]
  congr 1
  · refine List.map_congr_left fun f hfm => ?_
    unfold cl
    rw [clN_succ, h f hfm]; simp
  · simp only [List.map_cons, List.map_nil]
    have : clN e (i + 1) i = [i] := by
      rw [clN_succ, E.refl i]
      have h0 : clN e i i = [] := List.filter_eq_nil_iff.2 fun k hk => by rw [first_is.1 hf k (List.mem_range.1 hk)]; simp
      rw [h0]; rfl
    unfold cl
    rw [this]; rfl
/-- One more in a group. -/
theorem grp_old (E : Equi e) {i j : Nat} (hj : j < (firsts e i).length) (h : e (firsts e i)[j] i = true) : grp e (i + 1) = (grp e i).set j (cl e i (firsts e i)[j] ++ [(i : Int)]) := by
  have hm := List.getElem_mem hj
  obtain ⟨hlt, hff⟩ := mem_firsts.1 hm
  have hf : first e i = false := by
    cases hfi : first e i with
    | false => rfl
    | true =>
      have := first_is.1 hfi _ hlt
      rw [E.symm h] at this; cases this
  unfold grp
  rw [firsts_succ, hf]
  simp only [Bool.false_eq_true, if_false, List.append_nil]
  refine List.ext_getElem (by simp) fun k h1 h2 => ?_
  rw [List.getElem_set]
  simp only [List.getElem_map]
  simp only [List.length_map] at h1
  by_cases hk : j = k
  · subst hk
    rw [if_pos rfl]
    unfold cl
    rw [clN_succ, h]; simp
  · rw [if_neg hk]
    have hne : e (firsts e i)[k] i = false := by
      cases hek : e (firsts e i)[k] i with
      | false => rfl
      | true =>
        have := rep_one E hff (mem_firsts.1 (List.getElem_mem h1)).2 h hek
        exact absurd ((List.getElem_inj (firsts_nodup i)).1 this) hk
    unfold cl
    rw [clN_succ, hne]; simp
theorem cl_len (i f : Nat) : (cl e i f).length ≤ i := by
  unfold cl clN
  rw [List.length_map]
  exact Nat.le_trans (List.length_filter_le _ _) (by simp)
theorem grp_len (i : Nat) : (grp e i).length ≤ i := by
  unfold grp firsts
  rw [List.length_map]
  exact Nat.le_trans (List.length_filter_le _ _) (by simp)
end
/-- Whether two damages are alike. -/
def like (l : FaultLoom) (ds : List FaultDamage) (i k : Nat) : Bool := decide (rnd l [dd ds i] = rnd l [dd ds k])
theorem like_equi (l : FaultLoom) (ds : List FaultDamage) : Equi (like l ds) :=
  ⟨fun i => by simp [like], fun h => by simp only [like, decide_eq_true_eq] at h ⊢; exact h.symm, fun h k => by simp only [like, decide_eq_true_eq] at h k ⊢; exact h.trans k⟩
theorem s69 (xs : List (List Int)) (φ : List Int → Option Bool) (p : List Int → Bool) (hl : xs.length < 9223372036854775807) (h : ∀ a ∈ xs, φ a = some (p a)) :
    Yes (f69 xs φ) (fun r => (∃ i : Nat, r = i ∧ ∃ h : i < xs.length, p xs[i] = true ∧ ∀ j (hj : j < i), p (xs[j]'(by omega)) = false) ∨ (r = -1 ∧ ∀ a ∈ xs, p a = false)) := index_is xs φ p hl h
theorem s39 (l : FaultLoom) (ds : List FaultDamage) : f39 l ds = some (if chkE l ds = 0 then (grp (like l ds) ds.length, 0) else ([], chkE l ds)) := by
  refine Yes.eq ?_
  unfold f39
  refine Yes.jn (Yes.bind (Yes.of (s18 _ _) (Yes.cond (fun h => Yes.some ?_) (fun h => ?_))))
  · have h : chkE l ds ≠ 0 := by simpa using h
    rw [if_neg h]
  have h : chkE l ds = 0 := by simpa using h
  obtain ⟨g, hlen, hd⟩ : Good l ∧ ds.length ≤ 100 ∧ ∀ d ∈ ds, dmg l d = true := by
    unfold chkE at h
    split at h
    · rename_i h1; exact absurd h h1
    rename_i h1
    split at h
    · cases h
    split at h
    · rename_i h2 h3; exact ⟨good_of (Decidable.not_not.1 h1), by omega, List.all_eq_true.1 h3⟩
    · cases h
  have hr1 := g.r1
  rw [if_pos h]
  refine Yes.jn (Yes.bind (Yes.of (s68 g (by omega) hd) (Yes.bind ?_)))
  generalize hX : (ds.map fun d => rnd l [d]) = X
  have hXl : X.length = ds.length := by rw [← hX]; simp
  have hXa : ∀ i (hi : i < X.length), X[i] = rnd l [dd ds i] := fun i hi => by subst hX; rw [List.getElem_map, dd_at]
  have E := like_equi l ds
  rw [hXl]
  refine Yes.upto ds.length (by omega) (fun i r => r = grp (like l ds) i) rfl (fun i r k hi hI hk => ?_) (fun r k hI => ?_)
  · subst hI
    have hgl := grp_len (e := like l ds) i
    refine Yes.cond (fun _ => Yes.bind (Yes.bind (Yes.idx rfl (by omega) (Yes.bind (Yes.mono (s69 _ _ (fun gr => like l ds (gr.headD 0).toNat i) (by omega) fun gr hgr => ?_) fun r hr => ?_))))) (fun h => absurd h (by simp; omega))
    · unfold grp at hgr
      obtain ⟨f, hf, rfl⟩ := List.mem_map.1 hgr
      obtain ⟨hlt, hff⟩ := mem_firsts.1 hf
      obtain ⟨t, ht⟩ := cl_head E hlt hff
      have hcl : cl (like l ds) i f = (f : Int) :: t.map (fun (k : Nat) => (k : Int)) := by unfold cl; rw [ht]; rfl
      rw [hcl]
      refine Yes.eq ?_
      unfold f70
      refine Yes.bind (Yes.idx (n := 0) rfl (by simp) (Yes.bind (Yes.idx (n := f) rfl (by omega) (Yes.bind (Yes.of (s71 _ _ (by rw [hXa, rnd_len]; omega)) (Yes.some ?_))))))
      rw [hXa, hXa]
      rfl
    · rcases hr with ⟨j, rfl, hj, hp, _⟩ | ⟨rfl, hno⟩
      · have hjf : j < (firsts (like l ds) i).length := by simpa [grp] using hj
        have hgj : (grp (like l ds) i)[j] = cl (like l ds) i (firsts (like l ds) i)[j] := by simp [grp]
        obtain ⟨hlt, hff⟩ := mem_firsts.1 (List.getElem_mem hjf)
        obtain ⟨t, ht⟩ := cl_head E hlt hff
        have he : like l ds (firsts (like l ds) i)[j] i = true := by
          rw [hgj] at hp
          unfold cl at hp
          rw [ht] at hp
          simpa using hp
        have hcl := cl_len (e := like l ds) i (firsts (like l ds) i)[j]
        refine Yes.bind (Yes.cond (fun h => absurd h (by simp)) (fun _ => Yes.some ?_))
        refine Yes.bind (Yes.idx rfl hj ?_)
        rw [hgj]
        refine Yes.bind (Yes.apnd (by simp; omega) (by simp; omega) (Yes.some (hk _ ?_)))
        rw [Int.toNat_natCast]
        exact (grp_old E hjf he).symm
      · have hnf : ∀ f ∈ firsts (like l ds) i, like l ds f i = false := fun f hf => by
          obtain ⟨hlt, hff⟩ := mem_firsts.1 hf
          obtain ⟨t, ht⟩ := cl_head E hlt hff
          have := hno (cl (like l ds) i f) (List.mem_map.2 ⟨f, hf, rfl⟩)
          unfold cl at this
          rw [ht] at this
          simpa using this
        refine Yes.bind (Yes.cond (fun _ => Yes.bind (Yes.apnd (by simp; omega) (by simp; omega) (Yes.some ?_))) (fun h => absurd h (by simp)))
        refine Yes.bind (Yes.idx (n := (grp (like l ds) i).length) rfl (by simp) ?_)
        rw [List.getElem_append_right (Nat.le_refl _)]
        simp only [Nat.sub_self, List.getElem_cons_zero]
        refine Yes.bind (Yes.apnd (by simp) (by simp) (Yes.some (hk _ ?_)))
        rw [Int.toNat_natCast, grp_new E hnf, List.set_append_right _ _ (Nat.le_refl _)]
        simp
  · subst hI
    exact Yes.cond (fun h => absurd h (by simp)) (fun _ => Yes.some (Yes.some rfl))
end Go.Proofs.Ytpiaipiehjcflaa
