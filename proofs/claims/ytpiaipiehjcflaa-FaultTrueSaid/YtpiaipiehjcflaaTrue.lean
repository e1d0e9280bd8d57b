/- FaultTrue as a plain function: it returns true. -/
import Derived.Test.YtpiaipiehjcflaaCans
import Derived.Test.YtpiaipiehjcflaaLawQ
set_option maxRecDepth 8000
namespace Go.Proofs.Ytpiaipiehjcflaa
open Go.RowKit

theorem cthN_row {l : FaultLoom} {ds : List FaultDamage} {k p : Nat} (h : p < (cthN l ds k).length) : (cthN l ds k)[p] = line l.Harness.Warps.length (fun w => rc l ds (p % l.Design.Rows.length) w) := cloth_at (c := fun p w => rc l ds (p % l.Design.Rows.length) w) h
/-- A sight of what is so. -/
def Seen (l : FaultLoom) (d : FaultDamage) (s : FaultSight) : Prop := okS l s = true ∧ s.Lifted = rc l [d] (s.Pick.toNat % l.Design.Rows.length) s.Warp.toNat
def fit1 (l : FaultLoom) (d : FaultDamage) (s : FaultSight) : Bool := rc l [d] (s.Pick.toNat % l.Design.Rows.length) s.Warp.toNat == s.Lifted
theorem cans_snoc (l : FaultLoom) (ss : List FaultSight) (s : FaultSight) : cans l (ss ++ [s]) = (cans l ss).filter fun d => fit1 l d s := by
  unfold cans
  rw [List.filter_filter]
  congr 1
  funext d
  unfold fitB fit1
  rw [List.all_append, Bool.and_comm]; simp
theorem mem_cans {l : FaultLoom} {ss : List FaultSight} {d : FaultDamage} : d ∈ cans l ss ↔ d ∈ shows l ∧ fitB l.Design.Rows.length (rc l [d]) ss = true := by unfold cans; rw [List.mem_filter]
theorem fits_seen {l : FaultLoom} {d : FaultDamage} {ss : List FaultSight} (h : ∀ s ∈ ss, Seen l d s) : fitB l.Design.Rows.length (rc l [d]) ss = true :=
  List.all_eq_true.2 fun s hs => by rw [(h s hs).2]; simp
theorem shows_small {l : FaultLoom} (hH : l.Design.Hooks ≤ 8) (hW : l.Harness.Warps.length ≤ 20) (hR : l.Design.Rows.length ≤ 8) : (shows l).length ≤ 200 := by
  refine Nat.le_trans (List.length_filter_le _ _) ?_
  unfold allDs
  rw [aDs_len]
  have : l.Design.Rows.length * l.Design.Hooks.toNat ≤ 8 * 8 := Nat.mul_le_mul hR (by omega)
  omega
theorem s12 (x : Mill) (looks : List (Vector UInt8 2)) : f12 x looks = some true := by
  refine Yes.eq ?_
  unfold f12
  obtain ⟨l, hl, g, hH, hW, hR⟩ := s42 x
  refine Yes.bind (Yes.of hl (Yes.bind ((s43 g x (by decide) (by decide)).mono fun ds hds => ?_)))
  obtain ⟨⟨hd1, hd2⟩, hall⟩ := hds
  refine Yes.bind (Yes.idx (n := 0) rfl (by omega) ?_)
  have hd := hall ds[0] (List.getElem_mem (by omega))
  generalize ds[0] = d at *
  clear hall hd1 hd2
  have hr0 := g.r0
  have hw0 := g.w0
  have hal := s47 l
  rw [if_pos (loom_ok g)] at hal
  have ck := s44 l (by omega) (by omega)
  have hsm := shows_small hH hW hR
  have hsd : ∀ x ∈ shows l, dmg l x = true := fun x hx => allDs_ok g x (List.mem_filter.1 hx).1
  have hcloth : ∀ y, dmg l y = true → f45 l 120 [y] = some (cthN l [y] 120, true) := fun y hy => s45_one g hy (by decide) (by decide)
  refine Yes.bind (Yes.of (hcloth d hd) (Yes.bind (Yes.of ck (Yes.bind (Yes.of hal ?_)))))
  refine Yes.jn (Yes.bind (Yes.mono (Q' := fun b => b = false) ?_ fun b hb => ?_))
  · exact Yes.cond (fun h => nomatch h) (fun _ => Yes.cond (fun h => nomatch h) (fun _ => Yes.some (by simp; omega)))
  subst hb
  refine Yes.cond (fun h => nomatch h) (fun _ => Yes.jn ?_)
  refine Yes.lp (fun s => ∃ i : Nat, s.2.2 = i ∧ i ≤ 13 ∧ (∀ z ∈ s.1, Seen l d z) ∧ s.1.length ≤ i ∧ (i ≤ looks.length → s.1.length = i ∧ (i = 0 ∨ ∃ pre z, s.1 = pre ++ [z] ∧ s.2.1 = cans l pre))) (fun s => 13 - s.2.2.toNat)
    ⟨0, rfl, by decide, fun z hz => (by cases hz), Nat.le_refl _, fun _ => ⟨rfl, .inl rfl⟩⟩ (by simp only; omega) ?_
  rintro ⟨ss, last, j⟩ k ⟨i, hi, hle, hseen, hsl, hI⟩ hk
  simp only at hi hseen hsl hI hk
  subst hi
  refine Yes.jn (Yes.bind (Yes.mono (Q' := fun b => b = decide (i ≤ looks.length ∧ i ≤ 12)) ?_ fun b hb => ?_))
  · refine Yes.cond (fun h => Yes.some ?_) (fun h => Yes.some ?_)
    · simp at h
      rw [decide_eq_decide]; omega
    · simp at h
      rw [Bool.eq_iff_iff]; simp; omega
  subst hb
  refine Yes.cond (fun hc => ?_) (fun _ => Yes.bind (Yes.of known_ok (Yes.some rfl)))
  obtain ⟨hc1, hc2⟩ := of_decide_eq_true hc
  obtain ⟨hsl2, hlast⟩ := hI hc1
  have hok : ∀ s ∈ ss, okS l s = true := fun s hs => (hseen s hs).1
  have hsE : seenE l ss = 0 := by unfold seenE; rw [if_neg (fun h => h (loom_ok g)), if_neg (by omega), if_pos (List.all_eq_true.2 hok)]
  have hcan := s32 l ss
  rw [if_pos hsE] at hcan
  have hcl : (cans l ss).length ≤ 200 := Nat.le_trans (List.length_filter_le _ _) hsm
  have hlastl : last.length ≤ 200 ∨ i = 0 := by
    rcases hlast with h | ⟨pre, z, _, h⟩
    · exact .inr h
    · rw [h]; exact .inl (Nat.le_trans (List.length_filter_le _ _) hsm)
  have hcd : ∀ x ∈ cans l ss, dmg l x = true := fun x hx => hsd x (mem_cans.1 hx).1
  refine Yes.jn (Yes.bind (Yes.of ck (Yes.bind (Yes.of (s31 ss (by omega)) (Yes.bind (Yes.of hcan ?_))))))
  refine Yes.jn (Yes.bind (Yes.mono (Q' := fun b => b = false) ?_ fun b hb => ?_))
  · refine Yes.cond (fun h => nomatch h) (fun _ => Yes.bind (Yes.of (s48 (cans l ss) d (by omega)) (Yes.bind (Yes.of (s48 (shows l) d (by omega)) (Yes.cond (fun h => ?_) (fun _ => Yes.cond (fun hi0 => Yes.some ?_) (fun _ => Yes.some rfl)))))))
    · have : decide (d ∈ cans l ss) = decide (d ∈ shows l) := by
        rw [decide_eq_decide, mem_cans]
        exact ⟨fun h => h.1, fun h => ⟨h, fits_seen hseen⟩⟩
      rw [this] at h; simp at h
    · have hi0 : i ≠ 0 := by simp at hi0; omega
      rcases hlast with h | ⟨pre, z, h1, h2⟩
      · exact absurd h hi0
      · have : (cans l ss).length ≤ last.length := by rw [h1, h2, cans_snoc]; exact List.length_filter_le _ _
        simp; omega
  subst hb
  refine Yes.cond (fun h => nomatch h) (fun _ => Yes.jn (Yes.bind (Yes.of (s45_nil g (by decide) (by decide)) ?_)))
  -- the right cloth fits, if it is said so
  refine Yes.jn ?_
  refine Yes.upto0 ss.length (by omega) (fun _ => True) trivial (fun q k1 hq _ hk1 => ?_) (fun k1 _ => ?_)
  · refine Yes.jn (Yes.bind (Yes.cond (fun _ => Yes.some (Yes.cond (fun _ => Yes.jn (Yes.bind (Yes.mono (Q' := fun b => b = false) ?_ fun b hb => ?_))) (fun h => nomatch h))) (fun h => absurd h (by simp; omega))))
    · refine Yes.cond (fun hf => Yes.bind (Yes.idx rfl hq ?_)) (fun _ => Yes.some rfl)
      have hz := okS_is (hok _ (List.getElem_mem hq))
      refine Yes.bind (Yes.idx (n := ss[q].Pick.toNat) (by omega) (by rw [cthN_len]; show _ < 120; omega) ?_)
      rw [cthN_row]
      refine Yes.bind (Yes.idx rfl hq (Yes.bind (Yes.idx (n := ss[q].Warp.toNat) (by omega) (by rw [line_len]; omega) (Yes.bind (Yes.idx rfl hq (Yes.some ?_))))))
      rw [line_at, mark_x]
      have hfit : (rc l [] (ss[q].Pick.toNat % l.Design.Rows.length) ss[q].Warp.toNat == ss[q].Lifted) = true := List.all_eq_true.1 hf _ (List.getElem_mem hq)
      rw [hfit]; rfl
    · subst hb
      exact Yes.cond (fun h => nomatch h) (fun _ => hk1 trivial)
  refine Yes.jn (Yes.bind (Yes.cond (fun h => absurd h (by simp)) (fun _ => Yes.some (Yes.cond (fun h => nomatch h) (fun _ => ?_)))))
  -- each damage that it returns
  refine Yes.jn ?_
  have hnext : ∀ ss' : List FaultSight, (∀ z ∈ ss', Seen l d z) → (i < looks.length → ∃ z, ss' = ss ++ [z]) → (¬ i < looks.length → ss' = ss) → Yes (k (ss', cans l ss, w64 ((i : Int) + 1))) (fun r => r = true) := fun ss' h1 h2 h3 => by
    rw [w64_id (by omega) (by omega)]
    refine hk _ ⟨i + 1, by simp, by omega, h1, ?_, fun hle => ?_⟩ (by simp only; omega)
    · by_cases h : i < looks.length
      · obtain ⟨z, rfl⟩ := h2 h
        simp; omega
      · rw [h3 h]; simp only; omega
    · obtain ⟨z, rfl⟩ := h2 (by omega)
      exact ⟨by simp; omega, .inr ⟨ss, z, rfl, rfl⟩⟩
  refine Yes.lp (fun s => ∃ q : Nat, s = q ∧ q ≤ 40 ∧ q ≤ (cans l ss).length) (fun s => 40 - s.toNat) ⟨0, rfl, by decide, Nat.zero_le _⟩ (by omega) ?_
  rintro s k1 ⟨q, rfl, hq40, hql⟩ hk1
  refine Yes.jn (Yes.bind (Yes.mono (Q' := fun b => b = decide (q < (cans l ss).length ∧ q < 40)) ?_ fun b hb => ?_))
  · refine Yes.cond (fun h => Yes.some ?_) (fun h => Yes.some ?_)
    · simp at h
      rw [decide_eq_decide]; omega
    · simp at h
      rw [Bool.eq_iff_iff]; simp; omega
  subst hb
  refine Yes.cond (fun hc => ?_) (fun _ => Yes.jn ?_)
  · obtain ⟨hq1, hq2⟩ := of_decide_eq_true hc
    have hm := List.getElem_mem hq1
    have hgo : Yes (k1 (w64 ((q : Int) + 1))) (fun r => r = true) := by
      rw [w64_id (by omega) (by omega)]
      exact hk1 _ ⟨q + 1, by simp, hq2, hq1⟩ (by simp; omega)
    refine Yes.jn (Yes.bind (Yes.mono (Q' := fun b => b = false) ?_ fun b hb => ?_))
    · refine Yes.bind (Yes.idx rfl hq1 (Yes.bind (Yes.of (s48 (shows l) _ (by omega)) ?_)))
      rw [decide_eq_true (mem_cans.1 hm).1]
      refine Yes.cond (fun h => nomatch h) (fun _ => Yes.cond (fun hi0 => Yes.bind (Yes.idx rfl hq1 ?_)) (fun _ => Yes.some rfl))
      have hi0 : i ≠ 0 := by simp at hi0; omega
      rcases hlast with h | ⟨pre, z, h1, h2⟩
      · exact absurd h hi0
      · have hml : (cans l ss)[q] ∈ last := by
          have : (cans l ss)[q] ∈ cans l (pre ++ [z]) := by rw [← h1]; exact hm
          rw [cans_snoc] at this
          rw [h2]; exact (List.mem_filter.1 this).1
        refine Yes.bind (Yes.of (s48 last _ (by rcases hlastl with h | h <;> omega)) (Yes.some ?_))
        rw [decide_eq_true hml]; rfl
    · subst hb
      refine Yes.cond (fun h => nomatch h) (fun _ => Yes.jn (Yes.bind (Yes.idx rfl hq1 (Yes.bind (Yes.of (hcloth _ (hcd _ hm)) (Yes.bind (Yes.mono (Q' := fun b => b = true) ?_ fun b hb => ?_)))))))
      · refine Yes.upto ss.length (by omega) (fun _ b => b = true) rfl (fun r b k2 hr hb hk2 => ?_) (fun b k2 hb => ?_)
        · subst hb
          refine Yes.jn (Yes.bind (Yes.cond (fun _ => Yes.some (Yes.cond (fun _ => Yes.bind (Yes.bind (Yes.idx rfl hr ?_))) (fun h => nomatch h))) (fun h => absurd h (by simp; omega))))
          have hz := okS_is (hok _ (List.getElem_mem hr))
          refine Yes.bind (Yes.idx (n := ss[r].Pick.toNat) (by omega) (by rw [cthN_len]; show _ < 120; omega) ?_)
          rw [cthN_row]
          refine Yes.bind (Yes.idx rfl hr (Yes.bind (Yes.idx (n := ss[r].Warp.toNat) (by omega) (by rw [line_len]; omega) (Yes.bind (Yes.idx rfl hr (Yes.some (hk2 _ ?_)))))))
          rw [line_at, mark_x]
          exact List.all_eq_true.1 (mem_cans.1 hm).2 _ (List.getElem_mem hr)
        · subst hb
          exact Yes.jn (Yes.bind (Yes.cond (fun h => absurd h (by simp)) (fun _ => Yes.some (Yes.cond (fun h => nomatch h) (fun _ => Yes.some rfl)))))
      · subst hb
        exact Yes.cond (fun h => nomatch h) (fun _ => hgo)
  -- those that are gone
  refine Yes.lp (fun s => ∃ q : Nat, s = q ∧ q ≤ 40 ∧ (i ≠ 0 → q ≤ last.length)) (fun s => 40 - s.toNat) ⟨0, rfl, by decide, fun _ => Nat.zero_le _⟩ (by omega) ?_
  rintro s k1 ⟨q, rfl, hq40, hql⟩ hk1
  refine Yes.jn (Yes.bind (Yes.mono (Q' := fun b => b = decide (q < last.length ∧ q < 40 ∧ 0 < i)) ?_ fun b hb => ?_))
  · refine Yes.cond (fun h => Yes.cond (fun h2 => Yes.some ?_) (fun h2 => Yes.some ?_)) (fun h => Yes.some ?_)
    · simp at h h2
      rw [decide_eq_decide]; omega
    · simp at h h2
      rw [Bool.eq_iff_iff]; simp; omega
    · simp at h
      rw [Bool.eq_iff_iff]; simp; omega
  subst hb
  refine Yes.cond (fun hc => ?_) (fun _ => Yes.jn ?_)
  · obtain ⟨hq1, hq2, hi0⟩ := of_decide_eq_true hc
    have hgo : Yes (k1 (w64 ((q : Int) + 1))) (fun r => r = true) := by
      rw [w64_id (by omega) (by omega)]
      exact hk1 _ ⟨q + 1, by simp, hq2, fun _ => hq1⟩ (by simp; omega)
    rcases hlast with h | ⟨pre, z, h1, h2⟩
    · omega
    have hm := List.getElem_mem hq1
    have hm' : ∀ e ∈ last, e ∈ cans l pre := fun e he => by rw [h2] at he; exact he
    have hmd : dmg l last[q] = true := hsd _ (mem_cans.1 (hm' _ hm)).1
    have hsz : ss.length = pre.length + 1 := by rw [h1]; simp
    have hzz : ss[ss.length - 1]'(by omega) = z := by simp [h1]
    have hzo := okS_is (hok z (by rw [h1]; simp))
    rw [w64_id (n := (ss.length : Int) - 1) (by omega) (by omega)]
    refine Yes.jn (Yes.bind (Yes.idx (n := ss.length - 1) (by omega) (by omega) ?_))
    rw [hzz]
    refine Yes.bind (Yes.idx rfl hq1 (Yes.bind (Yes.of (hcloth _ hmd) (Yes.bind (Yes.mono (Q' := fun b => b = false) ?_ fun b hb => ?_)))))
    · refine Yes.cond (fun h => nomatch h) (fun _ => Yes.bind (Yes.idx rfl hq1 (Yes.bind (Yes.of (s48 (cans l ss) _ (by omega)) ?_))))
      refine Yes.bind (Yes.idx (n := z.Pick.toNat) (by omega) (by rw [cthN_len]; show _ < 120; omega) ?_)
      rw [cthN_row]
      refine Yes.bind (Yes.idx (n := z.Warp.toNat) (by omega) (by rw [line_len]; omega) (Yes.some ?_))
      rw [line_at, mark_x]
      have : decide (last[q] ∈ cans l ss) = fit1 l last[q] z := by
        rw [Bool.eq_iff_iff, decide_eq_true_eq, h1, cans_snoc, List.mem_filter, ← h2]
        exact ⟨fun h => h.2, fun h => ⟨hm, h⟩⟩
      rw [this]
      show (!(fit1 l last[q] z == fit1 l last[q] z)) = false
      simp
    · subst hb
      exact Yes.cond (fun h => nomatch h) (fun _ => hgo)
  -- one more sight
  refine Yes.cond (fun h => nomatch h) (fun _ => ?_)
  refine Yes.cond (fun hlt => ?_) (fun hlt => hnext ss hseen (fun h => absurd h (by simpa using hlt)) (fun _ => rfl))
  have hlt : i < looks.length := by simpa using hlt
  have hpb : (looks[i][0]).toNat % 120 < 120 := Nat.mod_lt _ (by decide)
  have hwb : (looks[i][1]).toNat % l.Harness.Warps.length < l.Harness.Warps.length := Nat.mod_lt _ hw0
  refine Yes.bind (Yes.idx rfl hlt (vidx (j := 0) rfl (by decide) ?_))
  refine Yes.bind (Yes.of (rem_nat (by decide : 0 < 120)) (Yes.bind (Yes.idx rfl hlt (vidx (j := 1) rfl (by decide) ?_))))
  refine Yes.bind (Yes.of (rem_nat hw0) ?_)
  refine Yes.bind (Yes.idx rfl (by rw [cthN_len]; exact hpb) ?_)
  rw [cthN_row]
  refine Yes.bind (Yes.idx rfl (by rw [line_len]; exact hwb) (Yes.bind (Yes.apnd (by simp; omega) (by simp; omega) ?_)))
  rw [line_at, mark_x]
  refine hnext _ (fun z hz => ?_) (fun _ => ⟨_, rfl⟩) (fun h => absurd hlt h)
  rcases List.mem_append.1 hz with h | h
  · exact hseen z h
  · rw [List.mem_singleton.1 h]
    refine ⟨?_, ?_⟩
    · simp [okS, btw]; omega
    · simp only [Int.toNat_natCast]
end Go.Proofs.Ytpiaipiehjcflaa
