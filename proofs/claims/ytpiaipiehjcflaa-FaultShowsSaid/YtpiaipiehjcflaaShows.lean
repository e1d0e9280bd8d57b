/- FaultShows as a plain function: it returns true. -/
import Derived.Test.YtpiaipiehjcflaaLawQ
set_option maxRecDepth 8000
namespace Go.Proofs.Ytpiaipiehjcflaa
open Go.RowKit

theorem wrs_len (c : Nat → Nat → Bool) (ps : List (Int × Int)) : (wrs c ps).length = ps.length := by simp [wrs]
theorem wrs_at (c : Nat → Nat → Bool) {ps : List (Int × Int)} {i : Nat} (h : i < (wrs c ps).length) (h' : i < ps.length) : (wrs c ps)[i] = ⟨ps[i].1, ps[i].2, c ps[i].1.toNat ps[i].2.toNat⟩ := by simp [wrs]
theorem mod_row {l : FaultLoom} (g : Good l) (a b : List FaultDamage) : (pl l.Design.Rows.length l.Harness.Warps.length fun p w => rc l a (p % l.Design.Rows.length) w != rc l b (p % l.Design.Rows.length) w) = apl l a b :=
  pl_congr g.w0 fun p w hp _ => by simp only [Nat.mod_eq_of_lt hp]
theorem apl_at {l : FaultLoom} {a b : List FaultDamage} : ∀ q ∈ apl l a b, ∃ p w : Nat, q = ((p : Int), (w : Int)) ∧ p < l.Design.Rows.length := fun q hq => by
  unfold apl at hq
  rw [pl_range] at hq
  obtain ⟨p, hp, hq⟩ := List.mem_flatMap.1 hq
  have : ∀ j, q ∈ rowFrom (fun w => rc l a p w != rc l b p w) p l.Harness.Warps.length j → ∃ w : Nat, q = ((p : Int), (w : Int)) := fun j => by
    induction j with
    | zero => intro h; cases h
    | succ j ih =>
      intro h
      unfold rowFrom at h
      rcases List.mem_append.1 h with h | h
      · split at h
        · exact ⟨_, List.mem_singleton.1 h⟩
        · cases h
      · exact ih h
  obtain ⟨w, h1⟩ := this _ hq
  exact ⟨p, w, h1, List.mem_range.1 hp⟩
theorem s13 (x : Mill) : f13 x = some true := by
  refine Yes.eq ?_
  unfold f13
  obtain ⟨l, hl, g, hH, hW, hR⟩ := s42 x
  refine Yes.bind (Yes.of hl (Yes.bind ((s43 g x (by decide) (by decide)).mono fun ds hds => ?_)))
  obtain ⟨⟨hd1, hd2⟩, hall⟩ := hds
  refine Yes.bind (Yes.idx (n := 0) rfl (by omega) (Yes.bind (Yes.of hl ?_)))
  have hd := hall ds[0] (List.getElem_mem (by omega))
  generalize ds[0] = d at *
  clear hall hd1 hd2
  have hr0 := g.r0
  have hw0 := g.w0
  have hx : ∀ x ∈ [d], dmg l x = true := fun x hx => by rw [List.mem_singleton.1 hx]; exact hd
  have hc1 := chk_ok (ds := [d]) (loom_ok g) (by simp) hx
  have hc0 := chk_ok (ds := []) (loom_ok g) (by simp) fun x hx => by cases hx
  have hok : ∀ k : Nat, 1 ≤ k → k ≤ 120 → f20 l [d] k = _ := fun k h1 h2 => s20 (s78_one d) (by simp) hx (open_ok hc1 (by omega) (by omega)) (open_ok hc0 (by omega) (by omega)) g h2
  have hal := s47 l
  rw [if_pos (loom_ok g)] at hal
  have h2n : w64 (2 * (l.Design.Rows.length : Int)) = ((l.Design.Rows.length + l.Design.Rows.length : Nat) : Int) := by rw [w64_id (by omega) (by omega)]; omega
  rw [h2n]
  have ck := s44 l (by omega) (by omega)
  have k1 : 1 ≤ (l.Design.Rows.length : Int) := by omega
  have k2 : (l.Design.Rows.length : Int) ≤ 120 := by omega
  have a1 := s45_one g hd k1 k2
  have a2 := s45_nil g k1 k2
  rw [Int.toNat_natCast] at a1 a2
  have w1 := hok l.Design.Rows.length (by omega) (by omega)
  have w2 := hok (l.Design.Rows.length + l.Design.Rows.length) (by omega) (by omega)
  rw [mod_row g] at w1
  rw [pl_two (fun p w => rc l [d] p w != rc l [] p w) l.Design.Rows.length l.Harness.Warps.length] at w2
  have hapl : (pl l.Design.Rows.length l.Harness.Warps.length fun p w => rc l [d] p w != rc l [] p w) = apl l [d] [] := rfl
  rw [hapl] at w2
  generalize hc : (fun p w => rc l [d] (p % l.Design.Rows.length) w) = c at w1 w2
  refine Yes.bind (Yes.of ck (Yes.bind (Yes.of hal (Yes.bind (Yes.of ck (Yes.bind (Yes.of w1 (Yes.bind (Yes.of ck (Yes.bind (Yes.of w2 (Yes.bind (Yes.of a1 (Yes.bind (Yes.of a2 ?_)))))))))))))))
  have hat := apl_at (l := l) (a := [d]) (b := [])
  have hlen : (apl l [d] []).length ≤ 200 := by
    have := plFrom_len (fun p w => rc l [d] p w != rc l [] p w) l.Design.Rows.length l.Harness.Warps.length l.Design.Rows.length
    have h2 : l.Design.Rows.length * l.Harness.Warps.length ≤ 8 * 20 := Nat.mul_le_mul hR hW
    unfold apl pl; omega
  have hshow : decide (d ∈ shows l) = decide (((wrs c (apl l [d] [])).length : Int) > 0) := by
    rw [decide_eq_decide, mem_shows hd, sh_places g, wrs_len]
    constructor
    · intro h
      have := List.length_pos_iff.2 h
      omega
    · intro h e
      rw [e] at h; simp at h
  have hsl := shows_len g
  -- the places
  generalize hps : apl l [d] [] = ps at *
  have hwl : (wrs c (ps ++ ps.map (shiftP l.Design.Rows.length))).length = 2 * ps.length := by rw [wrs_len, List.length_append, List.length_map]; omega
  refine Yes.jn (Yes.bind (Yes.mono (Q' := fun b => b = false) ?_ fun b hb => ?_))
  · refine Yes.cond (fun h => nomatch h) (fun _ => Yes.cond (fun h => nomatch h) (fun _ => Yes.cond (fun h => nomatch h) (fun _ => Yes.cond (fun h => nomatch h) (fun _ => Yes.cond (fun h => nomatch h) (fun _ => ?_)))))
    refine Yes.bind (Yes.of (s48 (shows l) d (by omega)) (Yes.cond (fun h => ?_) (fun _ => Yes.some ?_)))
    · rw [hshow] at h; simp at h
    · simp only [hwl, wrs_len]
      rw [w64_id (by omega) (by omega)]
      simp
  subst hb
  refine Yes.cond (fun h => nomatch h) (fun _ => Yes.jn ?_)
  have hnl : l.Design.Rows.length ≤ l.Design.Rows.length := Nat.le_refl _
  -- all points
  refine Yes.lp (fun s => ∃ i pre, s.2 = ((i : Nat) : Int) ∧ i ≤ l.Design.Rows.length ∧ s.1 = ((pre : List (Int × Int)).length : Int) ∧ ps = pre ++ plFrom (fun p w => rc l [d] p w != rc l [] p w) l.Design.Rows.length l.Harness.Warps.length (l.Design.Rows.length - i)) (fun s => l.Design.Rows.length - s.2.toNat)
    ⟨0, [], rfl, Nat.zero_le _, rfl, by rw [← hps]; rfl⟩ (by simp only; omega) ?_
  rintro ⟨at_, j⟩ k ⟨i, pre, hi, hle, ha, hI⟩ hk1
  simp only at hi ha hk1
  subst hi; subst ha
  refine Yes.jn (Yes.cond (fun hlt => ?_) (fun hge => ?_))
  rotate_left
  · have : i = l.Design.Rows.length := by have : ¬ i < l.Design.Rows.length := by simpa using hge
                                          omega
    subst this
    rw [Nat.sub_self] at hI
    have hI : ps = pre := by simpa [plFrom] using hI
    subst hI
    exact Yes.bind (Yes.cond (fun _ => Yes.bind (Yes.of known_ok (Yes.some (Yes.some rfl)))) (fun h => absurd h (by simp [wrs_len])))
  have hlt : i < l.Design.Rows.length := by simpa using hlt
  rw [plFrom_step hlt] at hI
  refine Yes.jn ?_
  refine Yes.lp (fun s => ∃ j pre, s.2 = ((j : Nat) : Int) ∧ j ≤ l.Harness.Warps.length ∧ s.1 = ((pre : List (Int × Int)).length : Int) ∧ ps = pre ++ (rowFrom (fun w => rc l [d] i w != rc l [] i w) i l.Harness.Warps.length (l.Harness.Warps.length - j) ++ plFrom (fun p w => rc l [d] p w != rc l [] p w) l.Design.Rows.length l.Harness.Warps.length (l.Design.Rows.length - (i + 1)))) (fun s => l.Harness.Warps.length - s.2.toNat)
    ⟨0, pre, rfl, Nat.zero_le _, rfl, hI⟩ (by simp only; omega) ?_
  rintro ⟨at_, j⟩ k2 ⟨j, pre, hj, hjle, ha, hJ⟩ hk2
  simp only at hj ha hk2
  subst hj; subst ha
  refine Yes.jn (Yes.bind (Yes.idx rfl (by rw [cthN_len]; exact hlt) ?_))
  rw [cthN_at _ hnl, line_len]
  refine Yes.cond (fun hlt2 => Yes.jn (Yes.jn ?_)) (fun hge => ?_)
  rotate_left
  · have : j = l.Harness.Warps.length := by have : ¬ j < l.Harness.Warps.length := by simpa using hge
                                            omega
    subst this
    rw [Nat.sub_self] at hJ
    rw [w64_id (by omega) (by omega)]
    exact hk1 _ ⟨i + 1, pre, by simp, hlt, rfl, by simpa [rowFrom] using hJ⟩ (by simp only; omega)
  have hlt2 : j < l.Harness.Warps.length := by simpa using hlt2
  rw [rowFrom_step hlt2] at hJ
  refine at_cth hlt hnl hlt2 (at_cth hlt hnl hlt2 ?_)
  rw [show (mark (rc l [d] i j) == mark (rc l [] i j)) = !(rc l [d] i j != rc l [] i j) from by cases rc l [d] i j <;> cases rc l [] i j <;> rfl]
  refine Yes.cond (fun hc2 => ?_) (fun hc2 => ?_)
  · have hc2 : (rc l [d] i j != rc l [] i j) = false := by simpa using hc2
    rw [hc2] at hJ
    rw [w64_id (by omega) (by omega)]
    exact hk2 _ ⟨j + 1, pre, by simp, hlt2, rfl, by simpa using hJ⟩ (by simp only; omega)
  have hc2 : (rc l [d] i j != rc l [] i j) = true := by simpa using hc2
  rw [hc2] at hJ
  simp only [if_true, List.cons_append, List.nil_append] at hJ
  have hpl : pre.length < ps.length := by rw [hJ]; simp
  have hpa : ps[pre.length] = ((i : Int), (j : Int)) := by simp [hJ]
  have hci : c i j = rc l [d] i j := by rw [← hc]; simp only [Nat.mod_eq_of_lt hlt]
  have hs1 : ∀ h, (wrs c ps)[pre.length]'h = ⟨(i : Int), (j : Int), rc l [d] i j⟩ := fun h => by simp [wrs, hpa, hci]
  have hs2 : ∀ h, (wrs c (ps ++ ps.map (shiftP l.Design.Rows.length)))[pre.length]'h = ⟨(i : Int), (j : Int), rc l [d] i j⟩ := fun h => by
    rw [wrs_at c h (by rw [List.length_append]; omega)]
    simp only [List.getElem_append_left hpl, hpa, Int.toNat_natCast, hci]
  have hs3 : ∀ h, (wrs c (ps ++ ps.map (shiftP l.Design.Rows.length)))[ps.length + pre.length]'h = ⟨((i + l.Design.Rows.length : Nat) : Int), (j : Int), rc l [d] i j⟩ := fun h => by
    have e0 : (ps ++ ps.map (shiftP l.Design.Rows.length))[ps.length + pre.length]'(by rw [List.length_append, List.length_map]; omega) = shiftP l.Design.Rows.length ((i : Int), (j : Int)) := by
      rw [List.getElem_append_right (by omega)]
      simp only [Nat.add_sub_cancel_left, List.getElem_map, hpa]
    rw [wrs_at c h (by rw [List.length_append, List.length_map]; omega)]
    simp only [e0, shiftP]
    have e : ((i : Int) + (l.Design.Rows.length : Int)).toNat = i + l.Design.Rows.length := by omega
    rw [e, ← hc]
    simp only [Int.toNat_natCast, Nat.add_mod_right, Nat.mod_eq_of_lt hlt]
    congr 1
  refine at_cth hlt hnl hlt2 ?_
  rw [mark_x]
  refine Yes.jn (Yes.bind (Yes.mono (Q' := fun b => b = false) ?_ fun b hb => ?_))
  · refine Yes.cond (fun h => absurd h (by simp [wrs_len]; omega)) (fun _ => Yes.bind (Yes.idx rfl (by rw [wrs_len]; exact hpl) ?_))
    rw [hs1]
    refine Yes.cond (fun h => absurd h (by simp)) (fun _ => Yes.bind (Yes.idx rfl (by rw [hwl]; omega) (Yes.some ?_)))
    rw [hs2]
    simp
  subst hb
  refine Yes.cond (fun h => nomatch h) (fun _ => Yes.jn ?_)
  rw [show w64 (((wrs c ps).length : Int) + (pre.length : Int)) = ((ps.length + pre.length : Nat) : Int) by rw [wrs_len, w64_id (by omega) (by omega)]; omega]
  refine Yes.bind (Yes.idx rfl (by rw [hwl]; omega) ?_)
  rw [hs3]
  refine Yes.cond (fun h => absurd h ?_) (fun _ => ?_)
  · simp only
    rw [w64_id (by omega) (by omega)]
    simp
  · rw [w64_id (n := (pre.length : Int) + 1) (by omega) (by omega), w64_id (by omega) (by omega)]
    exact hk2 _ ⟨j + 1, pre ++ [((i : Int), (j : Int))], by simp, hlt2, by simp, by rw [List.append_assoc]; exact hJ⟩ (by simp only; omega)
end Go.Proofs.Ytpiaipiehjcflaa
