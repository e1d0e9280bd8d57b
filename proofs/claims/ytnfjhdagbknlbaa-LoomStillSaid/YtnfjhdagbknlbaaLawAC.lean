/- Plan: the smallest plan; LoomPlans. -/
import Derived.Test.YtnfjhdagbknlbaaLawAB
set_option maxRecDepth 8000
namespace Go.Proofs.Ytnfjhdagbknlbaa
open Go.RowKit
open Classical

theorem gm_set {f : List (Int × LoomRun)} {i j : Nat} {v : LoomRun} : gm (mset f (i : Int) v) j = if j = i then some v else gm f j := by
 unfold gm
 rw [mget_mset]
 by_cases h : j = i
 ·subst h; simp
 ·have : ¬ (j : Int) = i := by omega
  simp [h, this]
theorem tog_all {m : LoomMill} {l : List LoomOrder} {g : Nat → Option LoomRun} (hw : m.Widths.length ≤ 7) : TogP m l g (allL m) (2 ^ l.length - 1) ↔ ∃ K F, Fits m l (fun i => i < l.length) (FixG g) K F := by
 have hp := pow7 hw
 have hb : ∀ i, (2 ^ l.length - 1).testBit i = true ↔ i < l.length := fun i => by rw [all_bit]; exact decide_eq_true_iff
 constructor
 ·rintro ⟨K, F, h⟩
  exact ⟨K, F, h.mono (fun i hi => (hb i).2 hi) fun _ _ h => h.2⟩
 ·rintro ⟨K, F, h⟩
  refine ⟨K, F, h.mono (fun i hi => (hb i).1 hi) fun i hi ha => ⟨?_, ha⟩⟩
  refine (mem_nums (lt128_62 (by omega))).2 ?_
  rw [all_bit]
  exact decide_eq_true (h.one i ((hb i).1 hi)).kw
theorem fits_pg {m : LoomMill} {l : List LoomOrder} {g : Nat → Option LoomRun} {p : List LoomRun} (h : ∀ i, g i = pg p i) : (∃ K F, Fits m l (fun i => i < l.length) (FixG g) K F) ↔ Cpl m l p := by
 have : g = pg p := funext h
 rw [this]; rfl
theorem cpl_days {m : LoomMill} {l : List LoomOrder} {p : List LoomRun} (g : Good m l) (hl : p.length ≤ l.length) (h : Cpl m l p) : Days (pg p) := by
 intro i r hr
 obtain ⟨K, F, h⟩ := h
 have hi : i < p.length := by
  unfold pg at hr
  exact (List.getElem?_eq_some_iff.1 hr).1
 have h1 := h.one i (by omega)
 have h2 := (h1.a r hr).2
 have h3 := g.od h1.il
 have h4 := h1.e
 have h5 := h1.t
 omega
theorem s54 {m : LoomMill} {l : List LoomOrder} (g : Good m l) {p : List LoomRun} (hl : p.length < l.length) (hc : Cpl m l p) {f : List (Int × LoomRun)} (hf : ∀ j, gm f j = pg p j) :
    Yes (f54 ⟨m, l⟩ (p.length : Int) f) fun r => r.1 = true ∧ ∃ x, Least1 m l p x ∧ ∀ j, gm r.2 j = pg (p ++ [x]) j := by
  have hl7 := g.l7
  have hw3 := g.w3
  have hpl := pow7 hl7
  unfold f54
  rw [idx_od (l := l) (by omega) (by omega), Option.bind_some]
  have go := g.od hl
  generalize hx : od l (p.length : Int) = x at go
  refine Yes.jn ?_
  obtain ⟨lo, hlo⟩ : ∃ lo : Nat, x.Early = (lo : Int) := ⟨x.Early.toNat, by omega⟩
  rw [hlo]
  obtain ⟨hi, hhi2⟩ : ∃ hi : Nat, lo ≤ hi ∧ hi ≤ 1000 ∧ ∀ t : Nat, lo ≤ t → (t < hi ↔ (t : Int) + x.Woven ≤ x.Late) := by
    by_cases hc : x.Late - x.Woven + 1 ≤ lo
    · exact ⟨lo, Nat.le_refl _, by omega, fun t ht => by omega⟩
    · exact ⟨(x.Late - x.Woven + 1).toNat, by omega, by omega, fun t ht => by omega⟩
  have hmem : ∀ k : Nat, (k : Int) ∈ allL m ↔ k < m.Widths.length := fun k => by
    have hpw := pow7 (show m.Widths.length ≤ 7 by omega)
    unfold allL
    rw [mem_nums (lt128_62 (by omega)), all_bit]; exact decide_eq_true_iff
  -- the looms, by their places
  have hlist : allL m = (List.range m.Widths.length).map fun (k : Nat) => (k : Int) := by
    have hpw := pow7 (show m.Widths.length ≤ 7 by omega)
    unfold allL nums
    rw [← filter_cut (n := m.Widths.length) (by rw [Nat.shiftRight_eq_div_pow]; exact Nat.div_eq_of_lt (by omega)) (by omega)]
    congr 1
    rw [List.filter_eq_self]
    intro k hk
    rw [all_bit]; exact decide_eq_true (List.mem_range.1 hk)
  have hdp := cpl_days g (by omega) hc
  refine Yes.rng (σ := List (Int × LoomRun)) (fun z t => (z, (t : Int))) lo hi (fun t z => (∀ j, j ≠ p.length → gm z j = pg p j) ∧ ∀ (t' k : Nat), lo ≤ t' → t' < t → ¬ Cpl m l (p ++ [⟨(p.length : Int), (k : Int), (t' : Int)⟩])) f rfl hhi2.1 (by omega) ⟨fun j _ => hf j, fun t' k h1 h2 => absurd h2 (by omega)⟩ (fun t z kk ht1 ht2 hI hk => ?_) (fun z kk hI => ?_)
  · have hta := (hhi2.2.2 t ht1).1 ht2
    have h2 : decide (w64 ((t : Int) + x.Woven) ≤ x.Late) = true := by
      rw [w64_id (by omega) (by omega)]; exact decide_eq_true hta
    dsimp only
    refine Yes.jn ?_
    rw [h2, cond_true]
    refine Yes.jn ?_
    rw [s52 g, Option.bind_some]
    show Yes (lp _ big (z, (0 : Int))) _
    have hlen : (nums (2 ^ m.Widths.length - 1)).length = m.Widths.length := by
      have : nums (2 ^ m.Widths.length - 1) = _ := hlist
      rw [this]; simp
    have hget : ∀ k, k < m.Widths.length → idx (nums (2 ^ m.Widths.length - 1)) (k : Int) = some (k : Int) := fun k hk => by
      have : nums (2 ^ m.Widths.length - 1) = _ := hlist
      rw [this, idx_at (by simpa using hk)]; simp
    refine Yes.rng (σ := List (Int × LoomRun)) (fun z k => (z, (k : Int))) 0 m.Widths.length (fun k z => (∀ j, j ≠ p.length → gm z j = pg p j) ∧ ∀ k' : Nat, k' < k → ¬ Cpl m l (p ++ [⟨(p.length : Int), (k' : Int), (t : Int)⟩])) z rfl (Nat.zero_le _) (by omega) ⟨hI.1, fun _ h => absurd h (Nat.not_lt_zero _)⟩ (fun k z' kk' _ hkw hI' hk' => ?_) (fun z' kk' hI' => ?_)
    · have h3 : decide ((k : Int) < ((nums (2 ^ m.Widths.length - 1)).length : Int)) = true := by rw [hlen]; exact decide_eq_true (Int.ofNat_lt.2 hkw)
      dsimp only
      rw [h3, cond_true]
      refine Yes.jn ?_
      rw [hget k hkw, Option.bind_some, Option.bind_some]
      have hgz : ∀ j, gm (mset z' (p.length : Int) ⟨(p.length : Int), (k : Int), (t : Int)⟩) j = pg (p ++ [⟨(p.length : Int), (k : Int), (t : Int)⟩]) j := fun j => by
        rw [gm_set, pg_app]
        split
        · rfl
        · rename_i hj; exact hI'.1 j hj
      have hdz : Days (gm (mset z' (p.length : Int) ⟨(p.length : Int), (k : Int), (t : Int)⟩)) := fun j r hr => by
        rw [hgz, pg_app] at hr
        split at hr
        · cases hr; simp only; omega
        · exact hdp j r hr
      have h51 := s51 g hdz (nums_nodup _) (all_ok m (by omega))
      unfold allL at h51
      rw [h51, Option.bind_some, s53 g, Option.bind_some]
      obtain ⟨v, hv, hvi⟩ := bl_at (n := l.length) (s := 2 ^ l.length - 1) (P := TogP m l (gm (mset z' (p.length : Int) ⟨(p.length : Int), (k : Int), (t : Int)⟩)) (nums (2 ^ m.Widths.length - 1))) (by omega)
      rw [hv, Option.bind_some]
      have hvc : v = true ↔ Cpl m l (p ++ [⟨(p.length : Int), (k : Int), (t : Int)⟩]) := hvi.trans ((tog_all (by omega)).trans (fits_pg hgz))
      cases v with
      | true =>
        have hcc := hvc.1 rfl
        refine Yes.some ⟨rfl, _, ⟨hcc, rfl, fun r' ho' hc' => ?_⟩, hgz⟩
        obtain ⟨⟨k', hk1, hk2⟩, he, hla⟩ := cpl_child hl hc'
        obtain ⟨a, b, c⟩ := r'
        simp only at ho' hk1 he ⊢
        subst ho' hk1
        rw [hx, hlo] at he
        obtain ⟨t', rfl⟩ : ∃ t' : Nat, c = (t' : Int) := ⟨c.toNat, by omega⟩
        by_cases hlt : t' < t
        · exact absurd hc' (hI.2 t' k' (by omega) hlt)
        · by_cases heq : t = t'
          · subst heq
            by_cases hkk : k' < k
            · exact absurd hc' (hI'.2 k' hkk)
            · exact .inr ⟨rfl, by omega⟩
          · exact .inl (by omega)
      | false =>
        rw [cond_false]
        dsimp only
        rw [w64_succ (by omega)]
        refine hk' _ ⟨fun j hj => ?_, fun k' hk2 => ?_⟩
        · rw [gm_set, if_neg hj]; exact hI'.1 j hj
        · by_cases hkk : k' = k
          · subst hkk; exact fun h => by have := hvc.2 h; cases this
          · exact hI'.2 k' (by omega)
    · have h3 : decide ((m.Widths.length : Int) < ((nums (2 ^ m.Widths.length - 1)).length : Int)) = false := by rw [hlen]; simp
      dsimp only
      rw [h3, cond_false]
      rw [w64_succ (by omega)]
      refine hk _ ⟨hI'.1, fun t' k h1 h2 hc' => ?_⟩
      by_cases htt : t' = t
      · subst htt
        obtain ⟨⟨k', hk1, hk2⟩, _⟩ := cpl_child hl hc'
        have hkk : k = k' := by have : (k : Int) = k' := hk1
                                omega
        subst hkk
        exact hI'.2 k hk2 hc'
      · exact hI.2 t' k h1 (by omega) hc'
  · exfalso
    obtain ⟨k, d', hc'⟩ := cpl_next hl hc
    obtain ⟨⟨k', hk1, hk2⟩, he, hla⟩ := cpl_child hl hc'
    rw [hx] at he hla
    simp only at he hla
    obtain ⟨t', rfl⟩ : ∃ t' : Nat, d' = (t' : Int) := ⟨d'.toNat, by omega⟩
    exact hI.2 t' k (by omega) ((hhi2.2.2 t' (by omega)).2 hla) hc'
theorem pg_nil (j : Nat) : gm [] j = pg [] j := rfl
theorem s17 (m : LoomMill) (l : List LoomOrder) : Yes (f17 m l) fun r => (chkE m l ≠ 0 → r = ([], chkE m l)) ∧ (chkE m l = 0 → (Cpl m l [] → r.2 = 0 ∧ Grd m l [] r.1) ∧ (¬ Cpl m l [] → r = ([], 9))) := by
 unfold f17
 rw [s50, Option.bind_some]
 by_cases hc : chkE m l = 0
 ·have g := good_of hc
  have hl7 := g.l7
  have hw3 := g.w3
  have hpl := pow7 hl7
  have hor : openR m l = (⟨m, l⟩, 0) := by simp [openR, hc]
  rw [hor]
  have h0 : ((0 : Int) != 0) = false := rfl
  refine Yes.jn ?_
  rw [h0, cond_false]
  refine Yes.jn ?_
  dsimp only
  rw [s52 g, Option.bind_some]
  have h51 := s51a g
  unfold allL at h51
  rw [h51, Option.bind_some, s53 g, Option.bind_some]
  obtain ⟨v, hv, hvi⟩ := bl_at (n := l.length) (s := 2 ^ l.length - 1) (P := TogP m l ng (nums (2 ^ m.Widths.length - 1))) (by omega)
  rw [hv, Option.bind_some]
  have hvc : v = true ↔ Cpl m l [] := hvi.trans ((tog_all (by omega)).trans (fits_pg fun _ => rfl))
  cases v with
  | false =>
   have hno : ¬ Cpl m l [] := fun h => by have := hvc.2 h; cases this
   exact Yes.some ⟨fun h => absurd hc h, fun _ => ⟨fun h => absurd h hno, fun _ => rfl⟩⟩
  | true =>
   have hcc := hvc.1 rfl
   rw [Bool.not_true, cond_false]
   refine Yes.jn ?_
   refine Yes.rng (σ := List LoomRun × List (Int × LoomRun)) (fun s i => (s.1, s.2, (i : Int))) 0 l.length (fun i s => s.1.length = i ∧ SeqP s.1 ∧ Cpl m l s.1 ∧ (∀ j, gm s.2 j = pg s.1 j) ∧ ∀ q, Grd m l s.1 q → Grd m l [] q) ([], []) rfl (Nat.zero_le _) (by omega)
    ⟨rfl, fun i hi => absurd hi (Nat.not_lt_zero _), hcc, pg_nil, fun _ h => h⟩ (fun i s kk _ hi hI hk => ?_) (fun s kk hI => ?_)
   ·obtain ⟨p, f⟩ := s
    obtain ⟨rfl, hp, hcp, hf, hg⟩ := hI
    simp only at hi hp hcp hf hg hk
    dsimp only
    have h1 : decide ((p.length : Int) < (l.length : Int)) = true := decide_eq_true (Int.ofNat_lt.2 hi)
    rw [h1, cond_true]
    refine Yes.jn ?_
    refine Yes.jn ?_
    obtain ⟨r, hr, hr1, x, hx, hrx⟩ := s54 g hi hcp hf
    rw [hr, Option.bind_some, hr1, Bool.not_true, cond_false]
    dsimp only
    have hgx : mget r.2 (p.length : Int) = some x := by
     have := hrx p.length
     rw [pg_app, if_pos rfl] at this
     exact this
    rw [hgx, apnd24' (by omega) (by simp), Option.bind_some, w64_succ (by omega)]
    refine hk (p ++ [x], r.2) ⟨by simp, hp.app hx.o, hx.c, hrx, fun q hq => hg q (.step hi hx hq)⟩
   ·obtain ⟨p, f⟩ := s
    obtain ⟨h1, hp, hcp, hf, hg⟩ := hI
    simp only at h1 hg
    dsimp only
    have h2 : decide ((l.length : Int) < (l.length : Int)) = false := by simp
    rw [h2, cond_false]
    exact Yes.some ⟨fun h => absurd hc h, fun _ => ⟨fun _ => ⟨rfl, hg p (.done h1)⟩, fun h => absurd hcc h⟩⟩
 ·have hor : openR m l = (⟨⟨[], 0⟩, []⟩, chkE m l) := by simp [openR, hc]
  have h0 : (chkE m l != 0) = true := by simp [hc]
  rw [hor]
  refine Yes.jn ?_
  rw [h0, cond_true]
  exact Yes.some ⟨fun _ => rfl, fun h => absurd h hc⟩
theorem s13 (m : LoomMill) (l : List LoomOrder) (hl : l.length < 1000) : ∃ b, f13 m l = some b := by
 have : Yes (f13 m l) fun _ => True := by
  unfold f13
  refine Yes.bind ?_
  refine Yes.upto l.length (by omega) (fun _ _ => True) trivial (fun i s k hi _ hk => ?_) (fun s k _ => ?_)
  ·have h1 : decide ((i : Int) < (l.length : Int)) = true := decide_eq_true (Int.ofNat_lt.2 hi)
   dsimp only
   refine Yes.jn ?_
   rw [h1, cond_true, Option.bind_some]
   refine Yes.cond (fun _ => ?_) (fun _ => ?_)
   ·rw [idx_at hi]
    exact hk _ trivial
   ·refine Yes.some (Yes.bind ?_)
    rw [s20, Option.bind_some]
    exact Yes.cond (fun _ => Yes.some (Yes.some trivial)) fun _ => Yes.some (Yes.some trivial)
  ·have h1 : decide ((l.length : Int) < (l.length : Int)) = false := by simp
   dsimp only
   refine Yes.jn ?_
   rw [h1, cond_false, Option.bind_some]
   refine Yes.some (Yes.bind ?_)
   rw [s20, Option.bind_some]
   exact Yes.cond (fun _ => Yes.some (Yes.some trivial)) fun _ => Yes.some (Yes.some trivial)
 obtain ⟨b, hb, _⟩ := this
 exact ⟨b, hb⟩
theorem grd_len {m : LoomMill} {l : List LoomOrder} {p q : List LoomRun} (h : Grd m l p q) : q.length = l.length := by
 induction h with
 | done h => exact h
 | step _ _ _ ih => exact ih
theorem s3 (m : LoomMill) (l : List LoomOrder) : f3 m l = some true := by
 unfold f3
 simp only [jn, s12, Option.bind_some, known_ok]
 by_cases hL : m.Widths.length > 10 ∨ (l.length : Int) > 4 ∧ l.length ≤ 7 ∨ l.length > 10
 ·simp [hL]
 ·have hm : m.Widths.length ≤ 10 := by omega
  have hl : l.length ≤ 10 := by omega
  rw [decide_eq_false hL]
  obtain ⟨w, hw⟩ := s13 m l (by omega)
  obtain ⟨r, hr, h1, h2⟩ := s17 m l
  rw [s15 m (by omega), s16 l (by omega), hw]
  simp only [cond_false, Option.bind_some, hr, s18 m m (by omega), s19 l l (by omega), s20, decide_true, Bool.not_true]
  cases w with
  | true => simp
  | false =>
   simp only [cond_false]
   by_cases hc : chkE m l = 0
   ·have g := good_of hc
    have h0 : ((0 : Int) == 0) = true := rfl
    obtain ⟨x, hx, hx1, hx2⟩ := s21 g big l.length [] (big_pos _ (by omega)) (by simp) (fun i hi => absurd hi (Nat.not_lt_zero _))
    simp only [hc, h0, cond_true, hx, Option.bind_some]
    by_cases hcp : Cpl m l []
    ·obtain ⟨h3, h4⟩ := hx1 hcp
     obtain ⟨h5, h6⟩ := (h2 hc).1 hcp
     have he := h6.one h4
     have hlen := grd_len h4
     rw [h3, h5, he, s22 _ _ (by omega)]
     simp
    ·rw [hx2 hcp, (h2 hc).2 hcp]
     simp
   ·have h0 : (chkE m l == 0) = false := by simp [hc]
    rw [h0, h1 hc]
    simp
end Go.Proofs.Ytnfjhdagbknlbaa
