/- LoomAgainst: which orders are against each other. -/
import Derived.Test.YtnfjhdagbknlbaaLawAH
set_option maxRecDepth 8000
namespace Go.Proofs.Ytnfjhdagbknlbaa
open Go.RowKit
open Classical

theorem tog_zero {m : LoomMill} {l : List LoomOrder} {g : Nat → Option LoomRun} {Ls : List Int} : TogP m l g Ls 0 :=
 ⟨fun _ => 0, fun _ => 0, fun i hi => absurd hi (by simp), fun i _ hi => absurd hi (by simp)⟩
theorem cpl_tog {m : LoomMill} {l : List LoomOrder} (g : Good m l) : Cpl m l [] ↔ TogP m l ng (allL m) (2 ^ l.length - 1) := by
 rw [tog_all (by have := g.w3; omega)]
 exact (fits_pg fun i => rfl).symm
theorem cpl_ag {m : LoomMill} {l : List LoomOrder} (g : Good m l) : Cpl m l [] ↔ best (AgP m l) (2 ^ l.length) = none := by
 have hp := pow7 g.l7
 constructor
 ·intro h
  cases hb : best (AgP m l) (2 ^ l.length) with
  | none => rfl
  | some s =>
   obtain ⟨h1, h2⟩ := best_lt hb
   exact absurd (tog_of_cpl g h h1) h2
 ·intro h
  rw [cpl_tog g]
  exact Classical.not_not.1 (best_none h (2 ^ l.length - 1) (by omega))
theorem lf_zero {m : LoomMill} {l : List LoomOrder} (g : Good m l) : LfP m l 0 ↔ Cpl m l [] := by
 have hp := pow7 g.l7
 rw [cpl_tog g]
 unfold LfP
 rw [← sub_dif g.l7 hp.2, Nat.sub_zero]
theorem cpl_lf {m : LoomMill} {l : List LoomOrder} (g : Good m l) {s : Nat} (hs : best (LfP m l) (2 ^ l.length) = some s) : Cpl m l [] ↔ s = 0 := by
 have hp := pow7 g.l7
 constructor
 ·intro h
  rw [best_zero ((lf_zero g).2 h) _ hp.2] at hs
  exact (Option.some.inj hs).symm
 ·rintro rfl
  exact (lf_zero g).1 (best_lt hs).2
theorem ag_less {m : LoomMill} {l : List LoomOrder} (g : Good m l) {s : Nat} (hs : best (AgP m l) (2 ^ l.length) = some s) {i : Nat} (hi : s.testBit i = true) : TogP m l ng (allL m) (dif s (2 ^ i)) := by
 have hp := pow7 g.l7
 have hl7 := g.l7
 obtain ⟨h1, h2⟩ := best_lt hs
 have hin := bit_lt h1 hi
 have hle := dif_le s (2 ^ i)
 have hbit := fun j => dif_pow (s := s) (j := i) (i := j) (by omega) (by omega)
 by_cases h : TogP m l ng (allL m) (dif s (2 ^ i))
 ·exact h
 ·have h3 := best_min hs (dif s (2 ^ i)) (by omega) h
  have h4 := nums_strict (a := dif s (2 ^ i)) (b := s) (lt_pow62 hl7 h1) (fun j hj => ((hbit j).1 hj).1) fun e => by
   have h := (hbit i).1
   rw [e] at h
   exact (h hi).2 rfl
  omega
theorem ag_meet {m : LoomMill} {l : List LoomOrder} (g : Good m l) {s t : Nat} (hs : best (AgP m l) (2 ^ l.length) = some s) (ht : best (LfP m l) (2 ^ l.length) = some t) : ∃ i, s.testBit i = true ∧ t.testBit i = true := by
 have hp := pow7 g.l7
 have hl7 := g.l7
 obtain ⟨h1, h2⟩ := best_lt hs
 obtain ⟨h3, h4⟩ := best_lt ht
 by_cases hx : ∃ i, s.testBit i = true ∧ t.testBit i = true
 ·exact hx
 ·exfalso
  refine h2 (tog_mono h4 fun i hi => ?_)
  rw [dif_bit (lt128_62 (by omega)) (lt_pow62 hl7 h3), all_bit]
  have hin := bit_lt h1 hi
  cases hb : t.testBit i with
  | true => exact absurd ⟨i, hi, hb⟩ hx
  | false => simp [hin]
theorem fits_less {m : LoomMill} {l : List LoomOrder} (g : Good m l) {s : Nat} (hs : s < 2 ^ l.length) {i : Nat} (hi : i < (inS l.length s).length)
  (h : TogP m l ng (allL m) (dif s (2 ^ (inS l.length s)[i]))) : Cpl m (pick (pick l (inS l.length s)) (outS (inS l.length s).length (2 ^ i))) [] := by
 have hp := pow7 g.l7
 have hl7 := g.l7
 have hnd := inS_nodup l.length s
 generalize hxs : inS l.length s = xs at hi h hnd ⊢
 have hmem : ∀ x, x ∈ xs ↔ s.testBit x = true := fun x => by rw [← hxs, mem_inS]; exact ⟨fun h => h.2, fun h => ⟨bit_lt hs h, h⟩⟩
 have hxi := (hmem _).1 (List.getElem_mem hi)
 have hxil := bit_lt hs hxi
 have e : pick (pick l xs) (outS xs.length (2 ^ i)) = pick l ((outS xs.length (2 ^ i)).map fun j => (xs[j]?).getD 0) := by
  unfold pick
  rw [List.map_map]
  refine List.map_congr_left fun j hj => ?_
  have hjl := (mem_outS.1 hj).1
  have := pick_od (l := l) hjl
  unfold pick at this
  rw [this]; simp [hjl]
 rw [e, pick_cpl]
 ·refine (fits_tog (s := dif s (2 ^ xs[i])) (by have := g.w3; omega) fun x => ?_).1 h
  rw [dif_pow (by omega) (by omega), ← hmem, List.mem_map]
  constructor
  ·rintro ⟨hx, hne⟩
   obtain ⟨j, hj, rfl⟩ := List.getElem_of_mem hx
   refine ⟨j, mem_outS.2 ⟨hj, ?_⟩, by simp [hj]⟩
   rw [pow_bit]; exact decide_eq_false fun e => hne (by subst e; rfl)
  ·rintro ⟨j, hj, rfl⟩
   obtain ⟨hjl, hb⟩ := mem_outS.1 hj
   rw [pow_bit] at hb
   have hne := of_decide_eq_false hb
   simp only [List.getElem?_eq_getElem hjl, Option.getD_some]
   refine ⟨List.getElem_mem hjl, fun e => ?_⟩
   rcases Nat.lt_or_gt_of_ne hne with h | h
   ·exact List.pairwise_iff_getElem.1 hnd i j hi hjl h e.symm
   ·exact List.pairwise_iff_getElem.1 hnd j i hjl hi h e
 ·rw [List.nodup_iff_pairwise_ne, List.pairwise_map]
  refine (outS_nodup xs.length (2 ^ i)).imp_of_mem fun {a b} ha hb hne e => ?_
  have hal := (mem_outS.1 ha).1
  have hbl := (mem_outS.1 hb).1
  simp only [List.getElem?_eq_getElem hal, List.getElem?_eq_getElem hbl, Option.getD_some] at e
  rcases Nat.lt_or_gt_of_ne hne with h | h
  ·exact List.pairwise_iff_getElem.1 hnd a b hal hbl h e
  ·exact List.pairwise_iff_getElem.1 hnd b a hbl hal h e.symm
 ·intro x hx
  obtain ⟨j, hj, rfl⟩ := List.mem_map.1 hx
  have hjl := (mem_outS.1 hj).1
  simp only [List.getElem?_eq_getElem hjl, Option.getD_some]
  exact bit_lt hs ((hmem _).1 (List.getElem_mem hjl))
end Go.Proofs.Ytnfjhdagbknlbaa
/- LoomAgainst: the plain law. -/
set_option maxRecDepth 8000
namespace Go.Proofs.Ytnfjhdagbknlbaa
open Go.RowKit
open Classical

theorem ov_is {l : List LoomOrder} {n : Int} (h : (ov l n).2.2 ≠ 0) : 0 ≤ (ov l n).1.Low ∧ (ov l n).1.High ≤ 300 ∧ (ov l n).1.Low < (ov l n).1.High ∧ (ov l n).2.1 = wrk l (ov l n).1.Low (ov l n).1.High ∧ ((ov l n).1.High - (ov l n).1.Low) * n < (ov l n).2.1 := by
 have key : 0 ≤ (ov l n).2.2 ∧ ((ov l n).2.2 = 0 ∨ (0 ≤ (ov l n).1.Low ∧ (ov l n).1.High ≤ 300 ∧ (ov l n).1.Low < (ov l n).1.High ∧ (ov l n).2.1 = wrk l (ov l n).1.Low (ov l n).1.High ∧ ((ov l n).1.High - (ov l n).1.Low) * n < (ov l n).2.1)) := by
  unfold ov
  refine foldl_I (I := fun s : Span × Int × Int => 0 ≤ s.2.2 ∧ (s.2.2 = 0 ∨ (0 ≤ s.1.Low ∧ s.1.High ≤ 300 ∧ s.1.Low < s.1.High ∧ s.2.1 = wrk l s.1.Low s.1.High ∧ (s.1.High - s.1.Low) * n < s.2.1))) _ _ ⟨by simp, .inl rfl⟩ fun low hlow s hs => ?_
  refine foldl_I (I := fun s : Span × Int × Int => 0 ≤ s.2.2 ∧ (s.2.2 = 0 ∨ (0 ≤ s.1.Low ∧ s.1.High ≤ 300 ∧ s.1.Low < s.1.High ∧ s.2.1 = wrk l s.1.Low s.1.High ∧ (s.1.High - s.1.Low) * n < s.2.1))) _ _ hs fun high hhigh s hs => ?_
  have h1 := List.mem_range'_1.1 hlow
  have h2 := List.mem_range'_1.1 hhigh
  unfold ovStep
  split
  ·rename_i hc
   refine ⟨by simp only; omega, .inr ⟨by simp only; omega, by simp only; omega, by simp only; omega, rfl, by simp only; omega⟩⟩
  ·exact hs
 rcases key.2 with h0 | h0
 ·exact absurd h0 h
 ·exact h0
theorem od_set {l : List LoomOrder} {i j : Nat} {v : LoomOrder} (hi : i < l.length) : od (l.set i v) (j : Int) = if j = i then v else od l (j : Int) := by
 unfold od
 rw [show ((j : Int)).toNat = j by omega]
 by_cases h : j = i
 ·subst h; simp [hi]
 ·rw [if_neg h, List.getElem?_set_ne (by omega)]
def Tgt (l q : List LoomOrder) : Prop := q.length = l.length ∧ ∀ j : Nat, j < l.length → ∃ v, od q (j : Int) = { od l (j : Int) with Late := v } ∧ (od l (j : Int)).Early + (od l (j : Int)).Woven ≤ v ∧ v ≤ (od l (j : Int)).Late
theorem tgt_good {m : LoomMill} {l q : List LoomOrder} (g : Good m l) (h : Tgt l q) : chkE m q = 0 := by
 have hw3 := g.w3
 have hw1 := g.w1
 have hl7 := g.l7
 have hlen := h.1
 unfold chkE
 rw [if_neg (by omega), if_pos]
 refine ⟨by omega, List.all_eq_true.2 fun x hx => btw_iff.2 (g.w x hx), btw_iff.2 g.c, List.all_eq_true.2 fun x hx => ?_⟩
 obtain ⟨i, hi, he⟩ := List.getElem_of_mem hx
 obtain ⟨v, hv, h1, h2⟩ := h.2 i (by omega)
 have hx2 : od q (i : Int) = x := by unfold od; simp [he, hi]
 have := g.od (show i < l.length by omega)
 rw [← hx2, hv]
 simp only [ordOk, Bool.and_eq_true, btw_iff]
 omega
theorem tight_loop {m : LoomMill} {l : List LoomOrder} (g : Good m l) (hf : ∀ j : Nat, j < l.length → (od l (j : Int)).Early + (od l (j : Int)).Woven ≤ (od l (j : Int)).Late) (x1 : Vector UInt8 7) :
    Yes (lp (σ := (List LoomOrder) × Int) (fun rY (q7, d4) =>
   jn (σ := Unit) (fun _ =>
    Option.bind (α := (List LoomOrder)) (
     (idx q7 d4).bind fun y180 =>
     (idx q7 d4).bind fun jF =>
     (idx q7 d4).bind fun kF =>
     (idx (x1).toList d4).bind fun aN =>
     (rem64 ((aN).toNat : Int) (40 : Int)).bind fun lF =>
     (idx q7 d4).bind fun sY =>
     some ((List.set q7 (Int.toNat d4) ({ sY with Late := (max64 (w64 ((y180).Early + (jF).Woven)) (w64 ((kF).Late - lF))) })))
     ) fun pD =>
    rY (pD, (w64 (d4 + (1 : Int))))
    ) fun tY =>
   bif (decide (d4 < ((q7).length : Int))) then
    tY ()
   else
    some (q7)
   ) big (l, (0 : Int))) (Tgt l) := by
  have hl7 := g.l7
  refine Yes.upto (σ := List LoomOrder) l.length (by omega) (fun _ q => Tgt l q) ⟨rfl, fun j hj => ⟨_, rfl, hf j hj, Int.le_refl _⟩⟩ (fun i q k hi hI hk => ?_) (fun q k hI => ?_)
  · have hlen := hI.1
    have h1 : decide ((i : Int) < (q.length : Int)) = true := decide_eq_true (Int.ofNat_lt.2 (by omega))
    obtain ⟨v, hv, h2, h3⟩ := hI.2 i hi
    have go := g.od hi
    obtain ⟨r, hr, hr0, hr1⟩ := rem_nat (a := (((x1.toList[i]'(by simp; omega)).toNat : Nat) : Int)) (b := 40) (by omega) (by omega)
    dsimp only
    refine Yes.jn ?_
    rw [h1, cond_true]
    dsimp only
    rw [idx_od (l := q) (by omega) (by omega), idx_at (show i < x1.toList.length by simp; omega)]
    simp only [Option.bind_some, hr]
    have e1 : (od q (i : Int)).Early = (od l (i : Int)).Early := by rw [hv]
    have e2 : (od q (i : Int)).Woven = (od l (i : Int)).Woven := by rw [hv]
    have e3 : (od q (i : Int)).Late = v := by rw [hv]
    rw [max_or, w64_id (show -9223372036854775808 ≤ (od q (i : Int)).Early + (od q (i : Int)).Woven by omega) (by omega), w64_id (show -9223372036854775808 ≤ (od q (i : Int)).Late - r by omega) (by omega)]
    refine hk _ ⟨by simp [hlen], fun j hj => ?_⟩
    rw [show ((i : Int)).toNat = i by omega, od_set (by omega)]
    by_cases hji : j = i
    · subst hji
      rw [if_pos rfl, hv]
      refine ⟨_, rfl, ?_, ?_⟩ <;> simp only <;> omega
    · rw [if_neg hji]; exact hI.2 j hj
  · have h1 : decide ((l.length : Int) < (q.length : Int)) = false := by rw [hI.1]; simp
    dsimp only
    refine Yes.jn ?_
    rw [h1, cond_false]
    exact Yes.some hI
theorem inS_len0 {n s : Nat} (hs : s < 2 ^ n) : (inS n s).length = 0 ↔ s = 0 := by
 constructor
 ·intro h
  apply Nat.eq_of_testBit_eq
  intro i
  rw [Nat.zero_testBit]
  cases hb : s.testBit i with
  | false => rfl
  | true =>
   have := mem_inS.2 ⟨bit_lt hs hb, hb⟩
   rw [List.eq_nil_of_length_eq_zero h] at this; cases this
 ·rintro rfl; simp [inS]
theorem pick_len (l : List LoomOrder) (xs : List Nat) : (pick l xs).length = xs.length := by simp [pick]
theorem tries_loop {m : LoomMill} {q : List LoomOrder} (g : Good m q) {t : Nat} (ht : best (LfP m q) (2 ^ q.length) = some t) (x2 : List UInt8) {X : Option Bool} {Q : Bool → Prop} (hX : Yes X Q) :
    Yes (lp (σ := Int) (fun eZ d5 =>
     jn (σ := Unit) (fun _ =>
      jn (σ := Unit) (fun _ =>
       eZ ((w64 (d5 + (1 : Int))))
       ) fun qP =>
      Option.bind (α := (List Int)) (
       lp (σ := (List Int) × Int) (fun gZ (l6, o5) =>
        jn (σ := Unit) (fun _ =>
         Option.bind (α := (List Int)) (
          (idx x2 d5).bind fun hZ =>
          (u8shr hZ (wu64 o5)).bind fun mF =>
          bif ((mF &&& (1 : UInt8)) == (1 : UInt8)) then
           (apnd 8 l6 (([o5] : List Int))).bind fun iZ =>
           some (iZ)
          else
           some (l6)
          ) fun vA =>
         gZ (vA, (w64 (o5 + (1 : Int))))
         ) fun jZ =>
        Option.bind (α := Bool) (
         bif (decide (o5 < ((q).length : Int))) then
          some ((decide (((l6).length : Int) < (w64 (((nums t).length : Int) - (1 : Int))))))
         else
          some (false)
         ) fun cA =>
        bif cA then
         jZ ()
        else
         some (l6)
        ) big (([] : List Int), (0 : Int))
       ) fun sC =>
      (f42 q sC).bind fun tA =>
      Option.bind (α := Bool) (
       bif (decide (((nums t).length : Int) > (0 : Int))) then
        some ((decide (((tA.1).length : Int) > (0 : Int))))
       else
        some (false)
       ) fun dA =>
      bif dA then
       (f15 m).bind fun kZ =>
       (f17 kZ (tA.1)).bind fun dD =>
       bif (dD.2 != (9 : Int)) then
        some (false)
       else
        qP ()
      else
       qP ()
      ) fun lZ =>
     Option.bind (α := Bool) (
      bif (decide (d5 < ((x2).length : Int))) then
       some ((decide (d5 < (10 : Int))))
      else
       some (false)
      ) fun eA =>
     bif eA then
      lZ ()
     else
      X
     ) big ((0 : Int))) Q := by
  have hw3 := g.w3
  have hl7 := g.l7
  have hp := pow7 hl7
  have htl := nums_len t
  obtain ⟨ht1, ht2⟩ := best_lt ht
  refine Yes.upto0 10 (by omega) (fun _ => True) trivial (fun i kk hi _ hk => ?_) (fun kk _ => ?_)
  · refine Yes.jn ?_
    rw [decide_eq_true (show (i : Int) < 10 by omega)]
    by_cases hx : i < x2.length
    · rw [decide_eq_true (show (i : Int) < (x2.length : Int) by omega), cond_true, Option.bind_some, cond_true]
      refine Yes.jn ?_
      refine Yes.bind (Yes.mono (Q' := fun sC => ∃ u, u < 2 ^ q.length ∧ sC = nums u ∧ ((nums u).length = 0 ∨ (nums u).length < (nums t).length)) ?_ fun sC hsC => ?_)
      · refine Yes.upto (σ := List Int) q.length (by omega) (fun o s => ∃ u, u < 2 ^ o ∧ s = nums u ∧ ((nums u).length = 0 ∨ (nums u).length < (nums t).length)) ⟨0, by simp, nums_zero.symm, .inl (by rw [nums_zero]; rfl)⟩ (fun o s k ho hI hk' => ?_) (fun s k hI => ?_)
        · obtain ⟨u, hu, rfl, hu2⟩ := hI
          have hul := nums_le hu (by omega)
          dsimp only
          refine Yes.jn ?_
          rw [decide_eq_true (show (o : Int) < (q.length : Int) by omega), cond_true, Option.bind_some, w64_id (show -9223372036854775808 ≤ ((nums t).length : Int) - 1 by omega) (by omega)]
          have hpo : 2 ^ o ≤ 2 ^ q.length := Nat.pow_le_pow_right (by decide) (by omega)
          by_cases hlt : ((nums u).length : Int) < ((nums t).length : Int) - 1
          · rw [decide_eq_true hlt, cond_true]
            dsimp only
            rw [idx_at hx, Option.bind_some, wu64_id (by omega) (by omega)]
            have hsh : u8shr x2[i] (o : Int) = some (UInt8.ofNat (x2[i].toNat / 2 ^ (min (o : Int).toNat 8))) := by unfold u8shr; rw [if_neg (by omega)]
            rw [hsh, Option.bind_some]
            refine Yes.bind ?_
            generalize (UInt8.ofNat (x2[i].toNat / 2 ^ (min (o : Int).toNat 8)) &&& 1 == 1) = b
            have hps : 2 ^ (o + 1) = 2 ^ o + 2 ^ o := by rw [Nat.pow_succ]; omega
            cases b with
            | true =>
              rw [cond_true, apnd8 (by omega), Option.bind_some]
              refine Yes.some (hk' _ ⟨2 ^ o + u, by omega, (nums_snoc hu (by omega)).symm, .inr ?_⟩)
              rw [nums_snoc hu (by omega), List.length_append, List.length_singleton]; omega
            | false =>
              rw [cond_false]
              exact Yes.some (hk' _ ⟨u, by omega, rfl, hu2⟩)
          · rw [decide_eq_false hlt, cond_false]
            exact Yes.some ⟨u, by omega, rfl, hu2⟩
        · obtain ⟨u, hu, rfl, hu2⟩ := hI
          dsimp only
          refine Yes.jn ?_
          rw [decide_eq_false (show ¬ (q.length : Int) < (q.length : Int) by omega), cond_false, Option.bind_some, cond_false]
          exact Yes.some ⟨u, hu, rfl, hu2⟩
      · obtain ⟨u, hu, rfl, hu2⟩ := hsC
        rw [s42 hl7 hu, Option.bind_some]
        by_cases h0 : (nums t).length = 0
        · rw [decide_eq_false (show ¬ ((nums t).length : Int) > 0 by omega), cond_false, Option.bind_some, cond_false]
          exact hk trivial
        · rw [decide_eq_true (show ((nums t).length : Int) > 0 by omega), cond_true, Option.bind_some]
          have hno : ¬ LfP m q u := fun h => by
            have h3 := best_min ht u hu h
            omega
          have hpg := pick_good g (xs := outS q.length u) (by have := outS_len q.length u; omega) fun x hx => (mem_outS.1 hx).1
          obtain ⟨r, hr, _, hr2⟩ := s17 m (pick q (outS q.length u))
          have hr9 := (hr2 hpg).2 fun h => hno ((out_cpl g hu).1 h)
          rw [s15 m (by omega)]
          simp only [Option.bind_some, hr, hr9]
          cases decide (((pick q (outS q.length u)).length : Int) > 0) with
          | true =>
            exact hk trivial
          | false =>
            exact hk trivial
    · rw [decide_eq_false (show ¬ (i : Int) < (x2.length : Int) by omega), cond_false, Option.bind_some, cond_false]
      exact hX
  · refine Yes.jn ?_
    rw [decide_eq_false (show ¬ ((10 : Nat) : Int) < 10 by omega)]
    cases decide (((10 : Nat) : Int) < (x2.length : Int)) with
    | true => rw [cond_true, Option.bind_some, cond_false]; exact hX
    | false => rw [cond_false, Option.bind_some, cond_false]; exact hX
end Go.Proofs.Ytnfjhdagbknlbaa
