/- FaultApart as a plain function: it returns true. -/
import Derived.Test.YtpiaipiehjcflaaLawM
import Derived.Test.YtpiaipiehjcflaaTells
set_option maxRecDepth 8000
namespace Go.Proofs.Ytpiaipiehjcflaa
open Go.RowKit

theorem s17 (ds : List FaultDamage) (h : ds.length ≤ 1000000) : f17 ds = some ds := Yes.eq (Yes.bind (Yes.apnd (by simp; omega) (by simp; omega) (Yes.some (by simp))))
theorem s6 (l : FaultLoom) (ds : List FaultDamage) : f6 l ds = some true := by
  refine Yes.eq ?_
  unfold f6
  refine Yes.jn (Yes.bind (Yes.bind (Yes.of (s14 l) (Yes.cond (fun _ => Yes.some (Yes.cond (fun _ => Yes.bind (Yes.of known_ok (Yes.some rfl))) (fun h => nomatch h))) (fun h => Yes.some (Yes.cond (fun _ => Yes.bind (Yes.of known_ok (Yes.some rfl))) (fun h3 => ?_)))))))
  obtain ⟨h1, h2⟩ : l.Harness.Warps.length ≤ 110 ∧ l.Design.Rows.length ≤ 70 := by simp at h; omega
  have h3 : ds.length ≤ 110 := by simp at h3; omega
  refine Yes.jn (Yes.bind (Yes.of (s23 l ds) (Yes.bind (Yes.mono (Q' := fun b => b = decide (chkE l ds = 0 ∧ ds.length > 20)) ?_ fun b hb => ?_))))
  · refine Yes.cond (fun hc => Yes.some ?_) (fun hc => Yes.some ?_)
    · have hc : chkE l ds = 0 := by simpa using hc
      rw [decide_eq_decide]; simp [hc]; omega
    · have hc : chkE l ds ≠ 0 := by simpa using hc
      simp [hc]
  subst hb
  refine Yes.cond (fun _ => Yes.bind (Yes.of known_ok (Yes.some rfl))) (fun h4 => ?_)
  refine Yes.jn (Yes.bind (Yes.of (s16 l (by omega) (by omega)) (Yes.bind (Yes.of (s17 ds (by omega)) (Yes.bind (Yes.mono (s38 l ds) fun ra hra => Yes.bind (Yes.of (s39 l ds) ?_)))))))
  refine Yes.jn (Yes.bind (Yes.bind (Yes.of (s21 l l (by omega) (by omega)) (Yes.cond (fun h => absurd h (by simp)) (fun _ => Yes.bind (Yes.of (s22 ds ds (by omega)) (Yes.some (Yes.cond (fun h => absurd h (by simp)) (fun _ => ?_)))))))))
  by_cases hc : chkE l ds = 0
  rotate_left
  · rw [if_neg hc] at hra
    subst hra
    rw [if_neg hc]
    refine Yes.jn (Yes.cond (fun _ => Yes.bind ?_) (fun h => absurd (by simpa using h) hc))
    exact Yes.cond (fun _ => Yes.cond (fun _ => Yes.cond (fun _ => Yes.cond (fun _ => Yes.bind (Yes.of known_ok (Yes.some (Yes.some rfl)))) (fun h => nomatch h)) (fun h => nomatch h)) (fun h => absurd h (by simp))) (fun h => absurd h (by simp))
  obtain ⟨g, _, hd⟩ := chk_good hc
  have hr1 := g.r1
  have hw1 := g.w1
  rw [if_pos hc] at hra
  obtain ⟨hT, hra2⟩ := hra
  obtain ⟨n, e⟩ := ra
  simp only at hT hra2
  subst hra2
  rw [if_pos hc, hc]
  simp only
  refine Yes.jn (Yes.cond (fun h => nomatch h) (fun _ => Yes.jn (Yes.bind (Yes.cond (fun h => nomatch h) (fun _ => Yes.some (Yes.cond (fun h => nomatch h) (fun _ => Yes.jn ?_)))))))
  have E := like_equi l ds
  have hgl := grp_len (e := like l ds) ds.length
  generalize hN : ds.length = N at *
  refine (Yes.lp (fun s => ∃ i : Nat, s.2.2 = i ∧ i ≤ N ∧ Top (ap l ds) (fun a b => a < i ∧ b < N) s.1 ∧ s.2.1 = (((firsts (like l ds) i).length : Nat) : Int)) (fun s => N - s.2.2.toNat) ⟨0, rfl, Nat.zero_le _, Top.none fun i k h => by omega, rfl⟩ (by simp only; omega) ?_)
  rintro ⟨most, at_, j⟩ k ⟨i, hi, hle, hT2, hat⟩ hk
  simp only at hi hT2 hat hk
  subst hi; subst hat
  refine Yes.jn (Yes.cond (fun hlt => ?_) (fun hge => ?_))
  rotate_left
  · have : i = N := by have : ¬ i < N := by simpa using hge
                       omega
    subst this
    have hl : (grp (like l ds) i).length = (firsts (like l ds) i).length := by simp [grp]
    have := hT.half hT2 (ap_sym l ds) (fun i => (ap_zero g ds i i).2 rfl)
    subst this
    refine Yes.bind (Yes.cond (fun _ => Yes.cond (fun _ => Yes.bind (Yes.of known_ok (Yes.some (Yes.some rfl)))) (fun h => absurd h (by simp))) (fun h => absurd h (by simp [hl])))
  have hlt : i < N := by simpa using hlt
  have hnext : ∀ (m' : Int) (a' : Int), Top (ap l ds) (fun a b => a < i + 1 ∧ b < N) m' → a' = (((firsts (like l ds) (i + 1)).length : Nat) : Int) → Yes (k (m', a', w64 ((i : Int) + 1))) (fun r => r = true) := fun m' a' h1 h2 => by
    rw [w64_id (by omega) (by omega)]
    exact hk _ ⟨i + 1, by simp, hlt, h1, h2⟩ (by simp only; omega)
  refine Yes.jn (Yes.bind (Yes.mono (Q' := fun s => Top (ap l ds) (fun a b => a < i + 1 ∧ b < N) s.1 ∧ s.2.1 = cl (like l ds) N i ∧ s.2.2 = first (like l ds) i) ?_ fun s hs => ?_))
  · refine Yes.lp (fun s => ∃ q : Nat, s.2.2.2 = q ∧ q ≤ N ∧ Top (ap l ds) (fun a b => (a < i ∧ b < N) ∨ (a = i ∧ b < q)) s.1 ∧ s.2.1 = cl (like l ds) q i ∧ s.2.2.1 = ((List.range q).all fun k => !like l ds i k || decide (k ≥ i))) (fun s => N - s.2.2.2.toNat)
      ⟨0, rfl, Nat.zero_le _, hT2.same fun a b => by omega, rfl, rfl⟩ (by simp only; omega) ?_
    rintro ⟨most, lk, fs, j⟩ k2 ⟨q, hq, hqle, hT3, hlk, hfs⟩ hk2
    simp only at hq hT3 hlk hfs hk2
    subst hq; subst hlk; subst hfs
    refine Yes.jn (Yes.cond (fun hlt2 => Yes.bind ?_) (fun hge => Yes.some ?_))
    · have hlt2 : q < N := by simpa using hlt2
      have hdi := hd ds[i] (List.getElem_mem (by omega))
      have hdq := hd ds[q] (List.getElem_mem (by omega))
      refine Yes.bind (Yes.idx rfl (by omega) (Yes.bind (Yes.of (s36 g hdi) (Yes.bind (Yes.idx rfl (by omega) (Yes.bind (Yes.of (s36 g hdq) ?_)))))))
      rw [rnd_is, rnd_is, dd_at, dd_at]
      have hs40 := s40 (n := l.Design.Rows.length) (m := l.Harness.Warps.length) (by omega) g.w0 (rc l [dd ds i]) (rc l [dd ds q])
      refine Yes.bind (Yes.of hs40 ?_)
      have hap : (fp (pl l.Design.Rows.length l.Harness.Warps.length fun p w => rc l [dd ds i] p w != rc l [dd ds q] p w)) = ap l ds i q := rfl
      rw [hap]
      have hadd : Top (ap l ds) (fun a b => (a < i ∧ b < N) ∨ (a = i ∧ b < q + 1)) (max64 most (ap l ds i q)) := hT3.add (ap_range l ds i q).1 fun a b => by omega
      have hgo : ∀ (lk' : List Int) (fs' : Bool), lk' = cl (like l ds) (q + 1) i → fs' = ((List.range (q + 1)).all fun k => !like l ds i k || decide (k ≥ i)) →
          Yes (k2 (max64 most (ap l ds i q), lk', fs', w64 ((q : Int) + 1))) (fun s => Top (ap l ds) (fun a b => a < i + 1 ∧ b < N) s.1 ∧ s.2.1 = cl (like l ds) N i ∧ s.2.2 = first (like l ds) i) := fun lk' fs' h1 h2 => by
        rw [w64_id (by omega) (by omega)]
        exact hk2 _ ⟨q + 1, by simp, hlt2, hadd, h1, h2⟩ (by simp only; omega)
      have hlike : like l ds i q = decide (ap l ds i q = 0) := by unfold like; rw [decide_eq_decide]; exact (ap_zero g ds i q).symm
      have hcs : cl (like l ds) (q + 1) i = cl (like l ds) q i ++ if like l ds i q then [(q : Int)] else [] := by
        unfold cl; rw [clN_succ]; cases like l ds i q <;> simp
      have has : ((List.range (q + 1)).all fun k => !like l ds i k || decide (k ≥ i)) = (((List.range q).all fun k => !like l ds i k || decide (k ≥ i)) && (!like l ds i q || decide (q ≥ i))) := by
        rw [List.range_succ, List.all_append]; simp
      have hcl := cl_len (e := like l ds) q i
      refine Yes.cond (fun hz => ?_) (fun hz => Yes.some (hgo _ _ ?_ ?_))
      · have hz : ap l ds i q = 0 := by simpa using hz
        have hlk : like l ds i q = true := by rw [hlike]; simpa using hz
        refine Yes.bind (Yes.apnd (by simp; omega) (by simp; omega) (Yes.cond (fun hf => Yes.some (hgo _ _ ?_ ?_)) (fun hf => Yes.some (hgo _ _ ?_ ?_))))
        · rw [hcs, hlk]; rfl
        · have hf' : ((List.range q).all fun k => !like l ds i k || decide (k ≥ i)) = true := hf
          show decide ((q : Int) ≥ (i : Int)) = _
          rw [has, hf', hlk]; simp
        · rw [hcs, hlk]; rfl
        · have hf' : ((List.range q).all fun k => !like l ds i k || decide (k ≥ i)) = false := hf
          show false = _
          rw [has, hf']; rfl
      · have hz : ap l ds i q ≠ 0 := by simpa using hz
        have hlk : like l ds i q = false := by rw [hlike]; simpa using hz
        rw [hcs, hlk]; simp
      · have hz : ap l ds i q ≠ 0 := by simpa using hz
        have hlk : like l ds i q = false := by rw [hlike]; simpa using hz
        rw [has, hlk]; simp
    · have : q = N := by have : ¬ q < N := by simpa using hge
                         omega
      subst this
      refine ⟨hT3.same fun a b => by omega, rfl, ?_⟩
      rw [Bool.eq_iff_iff, first_is, List.all_eq_true]
      constructor
      · intro h k hk
        have := h k (List.mem_range.2 (by omega))
        have hnot : ¬ k ≥ i := by omega
        simpa [hnot] using this
      · intro h k hk
        by_cases hki : k < i
        · simp [h k hki]
        · have : k ≥ i := by omega
          simp [this]
  obtain ⟨m', lk, fs⟩ := s
  obtain ⟨hm', hlk, hfs⟩ := hs
  simp only at hm' hlk hfs
  subst hlk; subst hfs
  refine Yes.jn (Yes.cond (fun hnf => ?_) (fun hf => ?_))
  · have hnf : first (like l ds) i = false := by simpa using hnf
    refine hnext _ _ hm' ?_
    rw [firsts_succ, hnf]; simp
  · have hf : first (like l ds) i = true := by simpa using hf
    obtain ⟨hfl, hfa⟩ := firsts_at hlt hf
    have hgl2 : (grp (like l ds) N).length = (firsts (like l ds) N).length := by simp [grp]
    have hga : (grp (like l ds) N)[(firsts (like l ds) i).length]'(by omega) = cl (like l ds) N i := by
      unfold grp
      rw [List.getElem_map, hfa]
    refine Yes.jn (Yes.bind (Yes.cond (fun h => absurd h (by simp; omega)) (fun _ => Yes.bind (Yes.idx rfl (by omega) ?_))))
    rw [hga]
    refine Yes.some (Yes.cond (fun h => absurd h (by simp)) (fun _ => Yes.jn ?_))
    have hcl := cl_len (e := like l ds) N i
    refine Yes.upto0 (cl (like l ds) N i).length (by omega) (fun _ => True) trivial (fun q k3 hq _ hk3 => ?_) (fun k3 _ => ?_)
    · refine Yes.jn (Yes.cond (fun _ => Yes.jn (Yes.bind (Yes.idx rfl (by omega) ?_))) (fun h => absurd h (by simp; omega)))
      rw [hga]
      exact Yes.bind (Yes.idx rfl hq (Yes.bind (Yes.idx rfl hq (Yes.cond (fun h => absurd h (by simp)) (fun _ => hk3 trivial)))))
    · refine Yes.jn (Yes.cond (fun h => absurd h (by simp)) (fun _ => hnext _ _ hm' ?_))
      show w64 ((((firsts (like l ds) i).length : Nat) : Int) + 1) = _
      rw [w64_id (by omega) (by omega), firsts_succ, hf]
      simp
end Go.Proofs.Ytpiaipiehjcflaa
