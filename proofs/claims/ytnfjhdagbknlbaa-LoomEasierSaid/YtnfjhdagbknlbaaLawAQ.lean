/- LoomEasier: what is made easier leaves no more orders out. -/
import Derived.Test.YtnfjhdagbknlbaaLawAP
set_option maxRecDepth 8000
namespace Go.Proofs.Ytnfjhdagbknlbaa
open Go.RowKit
open Classical

theorem s24g {m : LoomMill} {l : List LoomOrder} (g : Good m l) {t : Nat} (ht : best (LfP m l) (2 ^ l.length) = some t) : f24 m l = some (nums t, 0) := by
 have h := s24 m l
 rw [chk_good g] at h
 simpa [ht, bp] using h
theorem v4 (x : Vector UInt8 4) : idx x.toList (0 : Int) = some x[0] ∧ idx x.toList (1 : Int) = some x[1] ∧ idx x.toList (2 : Int) = some x[2] ∧ idx x.toList (3 : Int) = some x[3] :=
 ⟨idx_vec (v := x) (i := 0) (by decide), idx_vec (v := x) (i := 1) (by decide), idx_vec (v := x) (i := 2) (by decide), idx_vec (v := x) (i := 3) (by decide)⟩
theorem wide_ok {m : LoomMill} {q : List LoomOrder} (g : Good m q) (h29 : ∀ x ∈ m.Widths, x ≤ 29) (x2 : Vector UInt8 4) : Yes (
   bif (decide (((m.Widths).length : Int) < (3 : Int))) then
    (idx (x2).toList (0 : Int)).bind fun nG =>
    (rem64 ((nG).toNat : Int) (30 : Int)).bind fun cE =>
    (apnd 8 (m.Widths) (([(w64 ((1 : Int) + cE))] : List Int))).bind fun oG =>
    some (({ (({ m with Widths := [] } : LoomMill)) with Widths := oG } : LoomMill))
   else
    (idx (x2).toList (0 : Int)).bind fun nF =>
    (rem64 ((nF).toNat : Int) (3 : Int)).bind fun eC =>
    (idx (m.Widths) eC).bind fun dE =>
    (idx (x2).toList (1 : Int)).bind fun oF =>
    (rem64 ((oF).toNat : Int) (9 : Int)).bind fun eE =>
    some (({ m with Widths := (List.set (m.Widths) (Int.toNat eC) (w64 (dE + eE))) } : LoomMill))) (fun m' => Good m' q ∧ Easy m m' q q) := by
  have hw3 := g.w3
  obtain ⟨e0, e1, e2, e3⟩ := v4 x2
  refine Yes.cond (fun hc => ?_) (fun hc => ?_)
  · have hc : m.Widths.length < 3 := by have := of_decide_eq_true hc; omega
    obtain ⟨r, hr, hr0, hr1⟩ := rem_nat (u8_nn x2[0]).1 (show (0 : Int) < 30 by decide)
    rw [e0, Option.bind_some, hr, Option.bind_some, w64_id (show -9223372036854775808 ≤ (1 : Int) + r by omega) (by omega), apnd8 (by omega), Option.bind_some]
    refine Yes.some ⟨⟨by simp, by simp; omega, g.l7, fun x hx => ?_, g.c, g.o⟩, ⟨rfl, fun k hk => ⟨by simp; omega, ?_⟩, Int.le_refl _, fun i _ => ⟨rfl, rfl, rfl, Int.le_refl _, Int.le_refl _⟩⟩⟩
    · rcases List.mem_append.1 hx with hx | hx
      · exact g.w x hx
      · rw [List.mem_singleton] at hx; omega
    · unfold wd
      rw [Int.toNat_natCast, List.getElem?_append_left hk]
      exact Int.le_refl _
  · have hc : ¬ (m.Widths.length : Int) < 3 := of_decide_eq_false hc
    obtain ⟨r, hr, hr0, hr1⟩ := rem_nat (u8_nn x2[0]).1 (show (0 : Int) < 3 by decide)
    obtain ⟨r2, hr2, hr20, hr21⟩ := rem_nat (u8_nn x2[1]).1 (show (0 : Int) < 9 by decide)
    obtain ⟨n, rfl⟩ : ∃ n : Nat, r = (n : Int) := ⟨r.toNat, by omega⟩
    have hn : n < m.Widths.length := by omega
    have hmem : wd m n ∈ m.Widths := by unfold wd; rw [Int.toNat_natCast, List.getElem?_eq_getElem hn]; exact List.getElem_mem hn
    have hb1 := g.w _ hmem
    have hb2 := h29 _ hmem
    rw [e0, Option.bind_some, hr, Option.bind_some, idx_wd (m := m) (by omega) (by omega), Option.bind_some, e1, Option.bind_some, hr2, Option.bind_some, w64_id (show -9223372036854775808 ≤ wd m n + r2 by omega) (by omega), Int.toNat_natCast]
    refine Yes.some ⟨⟨by simp; omega, by simp; omega, g.l7, fun x hx => ?_, g.c, g.o⟩, ⟨rfl, fun k hk => ⟨by simp; omega, ?_⟩, Int.le_refl _, fun i _ => ⟨rfl, rfl, rfl, Int.le_refl _, Int.le_refl _⟩⟩⟩
    · rcases List.mem_or_eq_of_mem_set hx with h | rfl
      · exact g.w x h
      · omega
    · show wd m k ≤ wd { m with Widths := m.Widths.set n (wd m n + r2) } k
      unfold wd
      rw [Int.toNat_natCast, Int.toNat_natCast, List.getElem?_set]
      by_cases h : n = k
      · subst h; rw [if_pos rfl, if_pos hn]; simp; omega
      · rw [if_neg h]; exact Int.le_refl _
theorem pair_ok {m : LoomMill} {q : List LoomOrder} (g : Good m q) {t : Nat} (ht : best (LfP m q) (2 ^ q.length) = some t) (x2 : Vector UInt8 4) : Yes (
   bif (decide (((q).length : Int) > (0 : Int))) then
    (idx (x2).toList (2 : Int)).bind fun tG =>
    (rem64 ((tG).toNat : Int) ((q).length : Int)).bind fun d7 =>
    (cut q 0 d7).bind fun aJ =>
    (cut q (w64 (d7 + (1 : Int))) ((q).length : Int)).bind fun bJ =>
    (cutFit q aJ bJ).bind fun cJ =>
    (idx q d7).bind fun jE =>
    (idx (x2).toList (3 : Int)).bind fun pF =>
    (rem64 ((pF).toNat : Int) (7 : Int)).bind fun kE =>
    (idx q d7).bind fun sE =>
    (idx (x2).toList (3 : Int)).bind fun qF =>
    (quo64 ((qF).toNat : Int) (7 : Int)).bind fun uG =>
    (rem64 uG (9 : Int)).bind fun tE =>
    (idx q d7).bind fun vG =>
    (idx ((List.set q (Int.toNat d7) ({ vG with Early := (max64 (0 : Int) (w64 ((jE).Early - kE))) }))) d7).bind fun dJ =>
    some (cJ, (List.set ((List.set q (Int.toNat d7) ({ vG with Early := (max64 (0 : Int) (w64 ((jE).Early - kE))) }))) (Int.toNat d7) ({ dJ with Late := (min64 (300 : Int) (w64 ((sE).Late + tE))) })))
   else
    some (q, q)) (fun r => (∃ t', f24 m r.1 = some (nums t', 0) ∧ (nums t').length ≤ (nums t).length) ∧ Good m r.2 ∧ Easy m m q r.2) := by
  have hl7 := g.l7
  obtain ⟨e0, e1, e2, e3⟩ := v4 x2
  refine Yes.cond (fun hc => ?_) (fun _ => Yes.some ⟨⟨t, s24g g ht, Nat.le_refl _⟩, g, rfl, fun k hk => ⟨hk, Int.le_refl _⟩, Int.le_refl _, fun i _ => ⟨rfl, rfl, rfl, Int.le_refl _, Int.le_refl _⟩⟩)
  have hc := of_decide_eq_true hc
  obtain ⟨r, hr, hr0, hr1⟩ := rem_nat (u8_nn x2[2]).1 (show (0 : Int) < (q.length : Int) by omega)
  obtain ⟨n, rfl⟩ : ∃ n : Nat, r = (n : Int) := ⟨r.toNat, by omega⟩
  have hn : n < q.length := by omega
  obtain ⟨a, ha, ha0, ha1⟩ := rem_nat (u8_nn x2[3]).1 (show (0 : Int) < 7 by decide)
  obtain ⟨b, hb, hb0⟩ : ∃ b, quo64 ((x2[3].toNat : Nat) : Int) 7 = some b ∧ 0 ≤ b := by
    have h2 := (u8_nn x2[3])
    unfold quo64
    rw [if_neg (by decide), Int.tdiv_eq_ediv_of_nonneg h2.1]
    have h3 : 0 ≤ ((x2[3].toNat : Nat) : Int) / 7 := Int.ediv_nonneg h2.1 (by decide)
    exact ⟨_, rfl, by rw [w64_id (by omega) (by omega)]; exact h3⟩
  obtain ⟨c, hcc, hc0, hc1⟩ := rem_nat hb0 (show (0 : Int) < 9 by decide)
  have hx := g.o _ (od_mem (l := q) (x := (n : Int)) (by omega) (by omega))
  have hod : idx q (n : Int) = some (od q n) := idx_od (by omega) (by omega)
  generalize hX : od q (n : Int) = X at hx hod
  obtain ⟨a1, a2, a3, a4, a5⟩ := hx
  have hcut1 : cut q 0 (n : Int) = some (q.take n) := by
    unfold cut; rw [if_pos ⟨Int.le_refl _, by omega, by omega⟩]; simp
  have hcut2 : cut q (w64 ((n : Int) + 1)) (q.length : Int) = some (q.drop (n + 1)) := by
    rw [w64_id (show -9223372036854775808 ≤ (n : Int) + 1 by omega) (by omega)]
    unfold cut; rw [if_pos ⟨by omega, by omega, Int.le_refl _⟩, Int.toNat_natCast, List.take_length, show ((n : Int) + 1).toNat = n + 1 by omega]
  have hfit : cutFit q (q.take n) (q.drop (n + 1)) = some (q.eraseIdx n) := by
    unfold cutFit
    rw [show Nat.ble ((q.take n).length + (q.drop (n + 1)).length) q.length = true from Nat.ble_eq_true_of_le (by rw [List.length_take, List.length_drop]; omega), cond_true, List.eraseIdx_eq_take_drop_succ]
  rw [e2, Option.bind_some, hr, Option.bind_some, hcut1, Option.bind_some, hcut2, Option.bind_some, hfit, Option.bind_some, hod, Option.bind_some, e3, Option.bind_some, ha, Option.bind_some, Option.bind_some, Option.bind_some, hb, Option.bind_some, hcc, Option.bind_some, Option.bind_some, Int.toNat_natCast, max_or, min_or,
    w64_id (show -9223372036854775808 ≤ X.Early - a by omega) (by omega), w64_id (show -9223372036854775808 ≤ X.Late + c by omega) (by omega)]
  rw [idx_od (l := q.set n { X with Early := max 0 (X.Early - a) }) (by omega) (by simp; omega), Option.bind_some, od_set hn, if_pos rfl, List.set_set]
  obtain ⟨g1, t', ht', hle⟩ := left_erase g hn ht
  refine Yes.some ⟨⟨t', s24g g1 ht', hle⟩, ⟨g.w1, g.w3, by simp; omega, g.w, g.c, fun x hx => ?_⟩, ⟨by simp, fun k hk => ⟨hk, Int.le_refl _⟩, Int.le_refl _, fun i hi => ?_⟩⟩
  · rcases List.mem_or_eq_of_mem_set hx with h | rfl
    · exact g.o x h
    · refine ⟨a1, a2, a3, ?_, ?_⟩ <;> simp only <;> omega
  · simp only
    rw [od_set hn]
    by_cases h : i = n
    · subst h
      rw [if_pos rfl, hX]
      refine ⟨rfl, rfl, rfl, ?_, ?_⟩ <;> simp only <;> omega
    · rw [if_neg h]; exact ⟨rfl, rfl, rfl, Int.le_refl _, Int.le_refl _⟩
theorem s9 (x : Hall) (x1 : Vector UInt8 7) (x2 : Vector UInt8 4) : f9 x x1 x2 = some true := by
 obtain ⟨⟨m, l, p⟩, hx, M⟩ := s39 x
 simp only at M
 have g0 := good_of M.ok
 refine Yes.eq ?_
 unfold f9
 rw [hx, Option.bind_some]
 refine Yes.bind (Yes.mono (late_loop g0 x1) fun q g => ?_)
 have hl7 := g.l7
 have hw3 := g.w3
 obtain ⟨t, ht⟩ := lf_some g
 obtain ⟨e0, e1, e2, e3⟩ := v4 x2
 have h15 := s15 m (show m.Widths.length ≤ 1000000 by omega)
 have h16 := s16 q (show q.length ≤ 1000000 by omega)
 refine Yes.bindv _ h15 (Yes.bindv _ h16 (Yes.bindv _ (s24g g ht) ?_))
 refine Yes.jn (skip rfl ?_)
 refine Yes.bindv _ h15 (Yes.bindv _ h15 (Yes.bindv _ h16 (Yes.bindv _ h16 ?_)))
 refine Yes.bind (Yes.mono (wide_ok g M.w29 x2) fun m' hm' => ?_)
 obtain ⟨r, hr, hr0, hr1⟩ := rem_nat (u8_nn x2[1]).1 (show (0 : Int) < 4 by decide)
 refine Yes.bindv _ e1 (Yes.bindv _ hr ?_)
 refine Yes.bind (Yes.mono (pair_ok g ht x2) fun pr hpr => ?_)
 obtain ⟨⟨t3, h3, hle3⟩, g4, E4⟩ := hpr
 obtain ⟨g1, E1⟩ := hm'
 obtain ⟨t1, ht1, hle1⟩ := left_easy g1 E1 ht
 obtain ⟨t4, ht4, hle4⟩ := left_easy g4 E4 ht
 have hgc := g.c
 have hch : w64 (m.Change - r) = m.Change - r := w64_id (by omega) (by omega)
 have g2 : Good { m with Change := max64 0 (w64 (m.Change - r)) } q := ⟨g.w1, g.w3, g.l7, g.w, by simp only; rw [max_or, hch]; omega, g.o⟩
 have E2 : Easy m { m with Change := max64 0 (w64 (m.Change - r)) } q q := ⟨rfl, fun k hk => ⟨hk, Int.le_refl _⟩, by simp only; rw [max_or, hch]; omega, fun i _ => ⟨rfl, rfl, rfl, Int.le_refl _, Int.le_refl _⟩⟩
 obtain ⟨t2, ht2, hle2⟩ := left_easy g2 E2 ht
 refine Yes.bindv _ h16 (Yes.bindv _ (s24g g1 ht1) (Yes.bindv _ h16 (Yes.bindv _ (s24g g2 ht2) (Yes.bindv _ h15 (Yes.bindv _ h3 (Yes.bindv _ h15 (Yes.bindv _ (s24g g4 ht4) ?_)))))))
 refine Yes.bind ?_
 refine take rfl (take rfl (take rfl (take rfl (take (decide_eq_true (by simp only; omega)) (take (decide_eq_true (by simp only; omega)) (take (decide_eq_true (by simp only; omega)) (take (decide_eq_true (by simp only; omega)) ?_)))))))
 rw [known_ok]
 exact Yes.some (Yes.some rfl)
end Go.Proofs.Ytnfjhdagbknlbaa
