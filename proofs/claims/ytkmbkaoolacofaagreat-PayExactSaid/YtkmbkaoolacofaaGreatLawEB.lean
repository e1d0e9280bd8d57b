/- PayExact: what f6 answers. -/
import Derived.Test.YtkmbkaoolacofaaGreatLawEA
set_option maxRecDepth 8000
namespace Go.Proofs.YtkmbkaoolacofaaGreat
open Go.RowKit
open Classical

theorem u32shr8 (a : UInt32) : ∃ r, u32shr a 8 = some r := ⟨_, by unfold u32shr; rw [if_neg (by decide)]⟩
theorem u32rem5 (a : UInt32) : u32rem a 500000 = some (a % 500000) := by unfold u32rem; rw [if_neg (by decide)]
theorem picks5 (a : UInt32) : 0 ≤ (((a % 500000).toNat : Nat) : Int) % 1000001 ∧ (((a % 500000).toNat : Nat) : Int) % 1000001 < 500000 := by
 have h : (a % 500000).toNat = a.toNat % 500000 := by rw [UInt32.toNat_mod]; rfl
 rw [h]; omega


set_option maxHeartbeats 2000000 in
theorem s6 (x0 : Prices) (x1 : List Cut) (x2 : Vector UInt32 3) : f6 x0 x1 x2 = some true := by
 refine Yes.eq ?_
 unfold f6
 refine Yes.bind (Yes.mono (prices_ok x0) fun l hl => ?_)
 have h8 := hl.e8
 have h6 := hl.r6
 have h13 : f13 l = some l := s13 l (by omega) (by omega)
 have hv : x2.toList.length = 3 := by simp
 refine Yes.jn ?_
 refine Yes.lp (fun s => ∃ i : Nat, s.2.2.2 = i ∧ i ≤ 20 ∧ s.1.length = i ∧ Ps1 l s.1 ∧ s.2.1.toList = (rngI 51).map (totW l s.1) ∧ s.2.2.1 = allW l s.1) (fun s => 20 - s.2.2.2.toNat) ⟨0, rfl, by omega, rfl, ⟨fun p hp => (by cases hp), by simp⟩, rfl, rfl⟩ (by simp) ?_
 rintro ⟨zF, vD, gD, rA⟩ k ⟨i, hi, hi20, hlen, hps, hvd, hgd⟩ hk
 simp only at hi hlen hps hvd hgd
 subst hi; subst hgd
 refine Yes.jn ?_
 by_cases hc : i < x1.length ∧ i < 20
 ·refine qbind true (by rw [decide_eq_true (Int.ofNat_lt.2 hc.1), cond_true, decide_eq_true (by omega)]) (qtake rfl (Yes.jn ?_))
  refine Yes.bind (Yes.idx rfl hc.1 (Yes.bind (Yes.mono (piece_ok x1[i] hl) fun p hp => ?_)))
  obtain ⟨hp, hp8⟩ := hp
  have hn := btw_iff.1 hp.2.2.2.1
  have hw := btw_iff.1 hp.1
  have he := (earn_all hl hp (by omega)).2.2
  have fa := fine_all hl he hn
  have fb := fine_bound hl he hn
  have hf : fineL l (earnL l p) p.Faults = min (p.Faults * l.Fine) (earnL l p * l.Cap / 1000) := rfl
  have hwg : wageL l p p.Faults = earnL l p - fineL l (earnL l p) p.Faults := rfl
  have ht := tot_rng hps hl p.Weaver
  have ha := all_rng hps hl
  refine qbind _ h13 (qbind _ (s14 [p] (by simp) (by simp; omega)) (qbind p rfl (qbind _ (s16 hl hp (by omega)) (Yes.jn (qbind false ?_ (qskip rfl (Yes.jn (qbind false ?_ (qskip rfl ?_)))))))))
  ·dsimp only
   rw [ew64 (n := fineL l (earnL l p) p.Faults + wageL l p p.Faults) (by omega) (by omega), ew64 (n := fineL l (earnL l p) p.Faults * 1000) (by omega) (by omega), ew64 (n := earnL l p * l.Cap) (by omega) (by omega), ew64 (n := p.Faults * l.Fine) (by omega) (by omega)]
   rw [decide_eq_false (show ¬ fineL l (earnL l p) p.Faults < 0 by omega), decide_eq_false (show ¬ fineL l (earnL l p) p.Faults * 1000 > earnL l p * l.Cap by omega), decide_eq_false (show ¬ fineL l (earnL l p) p.Faults > p.Faults * l.Fine by omega), decide_eq_false (show ¬ wageL l p p.Faults < 0 by omega)]
   have a1 : (earnL l p != fineL l (earnL l p) p.Faults + wageL l p p.Faults) = false := by
    rw [show fineL l (earnL l p) p.Faults + wageL l p p.Faults = earnL l p by omega]; simp
   rw [a1]; rfl
  ·dsimp only
   rw [ew64 (n := p.Faults * l.Fine) (by omega) (by omega), ew64 (n := fineL l (earnL l p) p.Faults + 1) (by omega) (by omega), ew64 (n := (fineL l (earnL l p) p.Faults + 1) * 1000) (by omega) (by omega), ew64 (n := earnL l p * l.Cap) (by omega) (by omega)]
   by_cases h : fineL l (earnL l p) p.Faults < p.Faults * l.Fine
   ·rw [decide_eq_true h, cond_true, decide_eq_false (by omega)]
   ·rw [decide_eq_false h, cond_false]
  ·refine qbind _ (eapnd56 (by omega)) (qbind _ (by rw [hvd]; exact erng_idx (by omega)) (qbind _ (by rw [hvd]; exact erng_idx (by omega)) ?_))
   dsimp only
   rw [ew64 (n := totW l zF p.Weaver + wageL l p p.Faults) (by omega) (by omega), ew64 (n := allW l zF + wageL l p p.Faults) (by omega) (by omega), ew64 (n := (i : Int) + 1) (by omega) (by omega)]
   refine hk _ ⟨i + 1, by simp, by omega, by simp [hlen], hps.snoc hp hp8 (by omega), ?_, (all_snoc l p zF).symm⟩ (by simp; omega)
   show (vset _ _ _).toList = _
   rw [evset_list, hvd, erng_set (by omega)]
   refine List.map_congr_left fun k _ => ?_
   rw [tot_snoc]
 refine qbind false ?_ (qskip rfl (Yes.jn ?_))
 ·by_cases h1 : i < x1.length
  ·rw [decide_eq_true (Int.ofNat_lt.2 h1), cond_true, decide_eq_false (by omega)]
  ·rw [decide_eq_false (by omega), cond_false]
 refine Yes.upto 2 (by omega) (fun _ x8 => x8.Perm zF) (List.Perm.refl _) (fun r x8 kr hr hI hkr => ?_) (fun x8 kr hI => ?_)
 ·have hpx := hps.perm hI
  have hnx := hpx.n
  have hwx := hpx.w
  have hin : ∀ x ∈ weavL x8, (0 ≤ x ∧ x ≤ 50) := fun x hx => by
   have := mem_rngI.1 (List.mem_filter.1 hx).1; omega
  have hasc : (weavL x8).Pairwise (· < ·) := (rngI_asc 51).filter _
  have hWl : (weavL x8).length ≤ 51 := by refine Nat.le_trans (List.length_filter_le _ _) ?_; simp [rngI]
  refine Yes.jn (qtake (decide_eq_true (by omega)) (Yes.jn (qbind _ h13 (qbind _ (s14 x8 (by omega) fun p hp => by have := (hpx.p p hp).2; omega) (qbind _ (bill_eq hl hpx) (Yes.jn (qbind false (by simp) (qskip rfl (Yes.jn ?_)))))))))
  refine Yes.upto (weavL x8).length (by omega) (fun o s => s = (((weavL x8).map (totW l x8)).take o).sum) rfl (fun o s k3 ho hs hk3 => ?_) (fun s k3 hs => ?_)
  ·subst hs
   have hv' := hin _ (List.getElem_mem ho)
   have i1 := qidx ho
   have hmo : o < ((weavL x8).map (totW l x8)).length := by simpa using ho
   have i2 : idx ((weavL x8).map (totW l x8)) (o : Int) = some (totW l x8 (weavL x8)[o]) := by rw [qidx hmo]; simp
   have hst := sum_take hmo
   rw [List.getElem_map] at hst
   have hgt : 0 < o → idx (weavL x8) (w64 ((o : Int) - 1)) = some ((weavL x8)[o - 1]) ∧ (weavL x8)[o - 1] < (weavL x8)[o] := fun h => by
    refine ⟨?_, List.pairwise_iff_getElem.1 hasc _ _ _ _ (by omega)⟩
    rw [ew64 (by omega) (by omega), show (o : Int) - 1 = ((o - 1 : Nat) : Int) by omega]
    exact qidx (by omega)
   have htx := tot_rng hpx hl (weavL x8)[o]
   have hsb := sum_bound (B := 200200000000) (xs := ((weavL x8).map (totW l x8)).take o) fun x hx => by
    obtain ⟨w, _, rfl⟩ := List.mem_map.1 (List.mem_of_mem_take hx)
    exact tot_rng hpx hl w
   have hsl : (((weavL x8).map (totW l x8)).take o).length ≤ 51 := by rw [List.length_take, List.length_map]; omega
   generalize (weavL x8)[o] = v at hv' i1 i2 hst hgt htx
   have i3 : idx vD.toList v = some (totW l x8 v) := by rw [hvd, erng_idx (by omega), tot_perm hI]
   refine Yes.jn (qtake (decide_eq_true (Int.ofNat_lt.2 ho)) (Yes.jn (Yes.jn (qbind false ?_ (qskip rfl (qbind _ i2 ?_))))))
   ·dsimp only
    have z2 : (totW l x8 v != totW l x8 v) = false := by simp
    simp only [i1, i2, i3, Option.bind_some]
    rw [decide_eq_false (show ¬ v < 0 by omega), decide_eq_false (show ¬ v > 50 by omega), z2]
    simp only [cond_false]
    by_cases h0 : 0 < o
    ·obtain ⟨g1, g2⟩ := hgt h0
     rw [decide_eq_true (show (o : Int) > 0 by omega), cond_true, g1, Option.bind_some, decide_eq_false (by omega)]; rfl
    ·rw [decide_eq_false (show ¬ (o : Int) > 0 by omega), cond_false]
   ·refine hk3 _ ?_
    show w64 (_ + _) = _
    rw [ew64 (by omega) (by omega), hst]
  subst hs
  refine Yes.jn (qskip (decide_eq_false (by simp)) (Yes.jn ?_))
  refine Yes.upto0 x8.length (by omega) (fun _ => True) trivial (fun b k4 hb _ hk4 => ?_) (fun k4 _ => ?_)
  ·refine Yes.jn (qtake (decide_eq_true (Int.ofNat_lt.2 hb)) (Yes.jn (Yes.bind (Yes.mono (Q' := fun r => r = true) ?_ fun r hr => by subst hr; exact qskip rfl (hk4 trivial)))))
   refine Yes.upto (weavL x8).length (by omega) (fun o s => s = ((weavL x8).take o).any (· == x8[b].Weaver)) rfl (fun o s k5 ho hs hk5 => ?_) (fun s k5 hs => ?_)
   ·subst hs
    refine Yes.jn (qtake (decide_eq_true (Int.ofNat_lt.2 ho)) (qbind (((weavL x8).take (o + 1)).any (· == x8[b].Weaver)) ?_ (hk5 _ rfl)))
    dsimp only
    rw [List.take_succ_eq_append_getElem ho, List.any_append, qidx ho, qidx hb]
    cases ((weavL x8).take o).any (· == x8[b].Weaver) <;> simp
   ·subst hs
    refine Yes.jn (qskip (decide_eq_false (by simp)) (Yes.some ?_))
    rw [List.take_length, List.any_eq_true]
    refine ⟨x8[b].Weaver, List.mem_filter.2 ⟨mem_rngI.2 ?_, ?_⟩, by simp⟩
    ·have := hwx _ (List.getElem_mem hb); omega
    ·unfold hasW; exact List.any_eq_true.2 ⟨_, List.getElem_mem hb, by simp⟩
  refine Yes.jn (qskip (decide_eq_false (by simp)) (Yes.jn (qskip ?_ ?_)))
  ·have : (((weavL x8).map (totW l x8)).take (weavL x8).length).sum = allW l zF := by
    rw [List.take_of_length_le (by simp), weav_sum l x8 hwx, all_perm hI]
   rw [this]; simp
  refine Yes.lp (fun s => ∃ y : Nat, s.2 = y ∧ y ≤ 20 ∧ s.1.Perm x8) (fun s => 20 - s.2.toNat) ⟨0, rfl, by omega, List.Perm.refl _⟩ (by simp) ?_
  rintro ⟨z9, y6⟩ k6 ⟨y, hy, hy20, hpm⟩ hk6
  simp only at hy hpm
  subst hy
  have hz := hpm.length_eq
  refine Yes.jn (qbind _ (equo2 (n := z9.length) (by omega)) ?_)
  by_cases hlt : y < z9.length / 2
  ·have hj : z9.length - 1 - y < z9.length := by omega
   have e1 : w64 (w64 ((z9.length : Int) - 1) - (y : Int)) = ((z9.length - 1 - y : Nat) : Int) := by
    rw [ew64 (n := (z9.length : Int) - 1) (by omega) (by omega), ew64 (by omega) (by omega)]; omega
   have hy' : y < z9.length := by omega
   refine qtake (decide_eq_true (by omega)) (qbind ((z9.set y z9[z9.length - 1 - y]).set (z9.length - 1 - y) z9[y]) ?_ ?_)
   ·simp only [List.length_set]
    rw [e1, qidx hy', qidx hj]
    simp only [Option.bind_some, Int.toNat_natCast]
    rw [qidx (xs := z9.set y z9[z9.length - 1 - y]) (i := z9.length - 1 - y) (by simp; omega)]
    rfl
   ·rw [ew64 (n := (y : Int) + 1) (by omega) (by omega)]
    refine hk6 _ ⟨y + 1, by simp, by omega, (List.set_set_perm hy' hj).trans hpm⟩ (by simp; omega)
  ·exact qskip (decide_eq_false (by omega)) (hkr _ (hpm.trans hI))
 refine Yes.jn (qskip (by decide) ?_)
 clear hk hps hvd hlen
 obtain ⟨sh, hsh⟩ := u32shr8 (x2.toList[2]'(by omega))
 refine Yes.bind (Yes.idx (n := 2) rfl (by omega) (Yes.bind (Yes.idx (n := 2) rfl (by omega) (qbind _ hsh (Yes.bind (Yes.idx (n := 0) rfl (by omega) (qbind _ (u32rem5 _) (Yes.bind (Yes.mono (piece_is _ hl) fun p hp => ?_)))))))))
 obtain ⟨hp, hp8, hpk⟩ := hp
 have hb := picks5 (x2.toList[0]'(by omega))
 simp only at hpk
 rw [← hpk] at hb
 obtain ⟨q, hq, q0, q1⟩ := qrem (a := (((x2.toList[1]'(by omega)).toNat : Nat) : Int)) (b := 500000) (qu32 _).1 (by omega)
 obtain ⟨d, hd, d0, d1⟩ := qrem (a := (((x2.toList[1]'(by omega)).toNat : Nat) : Int)) (b := 50) (qu32 _).1 (by omega)
 have hpq := picks_ok hp (b := q) (by omega)
 have hpr := picks_ok hp (b := p.Picks + q) (by omega)
 have ea := (earn_all hl hp (by omega)).2.2
 have eb := (earn_all hl hpq (by show p.Extras.length ≤ 1000; omega)).2.2
 have ec := (earn_all hl hpr (by show p.Extras.length ≤ 1000; omega)).2.2
 have two := earn_two hl hp (by omega) q
 refine Yes.bind (Yes.idx (n := 1) rfl (by omega) (qbind _ hq (qbind _ h13 (qbind _ (s16 hl hp (by omega)) (qbind _ h13 (qbind _ (s16 hl hpq (by show p.Extras.length ≤ 1000; omega)) (qbind _ h13 ?_)))))))
 rw [ew64 (n := p.Picks + ({ p with Picks := q } : PayPiece).Picks) (by show -1000000000000000 ≤ p.Picks + q; omega) (by show p.Picks + q ≤ 1000000000000000; omega)]
 refine qbind _ (s16 hl hpr (by show p.Extras.length ≤ 1000; omega)) (Yes.jn (qbind false ?_ (qskip rfl ?_)))
 ·dsimp only
  rw [ew64 (n := earnL l p + earnL l { p with Picks := q }) (by omega) (by omega), ew64 (n := earnL l { p with Picks := p.Picks + q } - 1) (by omega) (by omega)]
  rcases two with h | h
  ·rw [h]; simp
  ·have h2 : (earnL l p + earnL l { p with Picks := q } != earnL l { p with Picks := p.Picks + q }) = true := by
    rw [bne_iff_ne]; omega
   rw [h2, h]; simp
 refine qbind _ h13 (Yes.bind (Yes.mono (Q' := fun r => r = { l with Rates := l.Rates.map (upR d) }) ?_ fun r hr => ?_))
 ·refine Yes.upto l.Rates.length (by omega) (fun n s => s = { l with Rates := (l.Rates.take n).map (upR d) ++ l.Rates.drop n }) (by simp) (fun n s k7 hn hs hk7 => ?_) (fun s k7 hs => ?_)
  ·subst hs
   have hln : ((l.Rates.take n).map (upR d) ++ l.Rates.drop n).length = l.Rates.length := by simp; omega
   have hgn : ((l.Rates.take n).map (upR d) ++ l.Rates.drop n)[n]'(by omega) = l.Rates[n] := by
    rw [List.getElem_append_right (by simp; omega)]
    simp only [List.length_map, List.length_take, List.getElem_drop]
    congr 1; omega
   refine Yes.jn (qtake (decide_eq_true (by show (n : Int) < ((_ : List PayRate).length : Int); rw [hln]; omega)) (qbind ({ l with Rates := (l.Rates.take (n + 1)).map (upR d) ++ l.Rates.drop (n + 1) }) ?_ (hk7 _ rfl)))
   dsimp only
   rw [qidx (xs := (l.Rates.take n).map (upR d) ++ l.Rates.drop n) (i := n) (by omega), hgn, Option.bind_some, show idx x2.toList 1 = some (x2.toList[1]'(by omega)) from qidx (xs := x2.toList) (i := 1) (by omega), Option.bind_some, hd, Option.bind_some]
   congr 2
   rw [Int.toNat_natCast, List.take_succ_eq_append_getElem hn, List.map_append, List.append_assoc, List.set_append_right _ _ (by simp; omega)]
   congr 1
   rw [show n - ((l.Rates.take n).map (upR d)).length = 0 by simp; omega, List.drop_eq_getElem_cons hn]
   rfl
  ·subst hs
   refine Yes.jn (qskip (decide_eq_false (by simp)) (Yes.some ?_))
   simp
 subst hr
 have hup := up_ok hl ⟨d0, d1⟩
 have hpu : okPiece { l with Rates := l.Rates.map (upR d) } p := hp
 have hge := earn_up hl hp (by omega) ⟨d0, d1⟩
 refine qbind _ (s16 hup hpu (by omega)) (Yes.jn (qbind false ?_ (qskip rfl (Yes.jn ?_))))
 ·dsimp only
  rw [decide_eq_false (show ¬ earnL { l with Rates := l.Rates.map (upR d) } p < earnL l p by omega)]; rfl
 by_cases h0 : 0 < p.Extras.length
 ·have hls := less_ok hp
  have hle := earn_less hl hp h0
  have hcut : cut p.Extras 1 (p.Extras.length : Int) = some (p.Extras.drop 1) := by
   unfold cut; rw [if_pos (by omega), Int.toNat_natCast, List.take_length]; rfl
  refine qtake (decide_eq_true (by omega)) (qbind _ (s14 [p] (by simp) (by simp; omega)) (qbind p rfl (qbind _ hcut (qbind _ h13 (qbind _ (s16 hl hls (by show (p.Extras.drop 1).length ≤ 1000; simp; omega)) (qbind false ?_ (qskip rfl (qbind _ known_ok (Yes.some rfl)))))))))
  dsimp only
  rw [decide_eq_false (show ¬ earnL l { p with Extras := p.Extras.drop 1 } > earnL l p by omega)]; rfl
 ·exact qskip (decide_eq_false (by omega)) (qbind _ known_ok (Yes.some rfl))
end Go.Proofs.YtkmbkaoolacofaaGreat
