/- LoomInTime: the plain law. -/
import Derived.Test.YtnfjhdagbknlbaaLawAF
set_option maxRecDepth 8000
namespace Go.Proofs.Ytnfjhdagbknlbaa
open Go.RowKit
open Classical

theorem sub_list (m : LoomMill) {q : Nat} (hq : q < 2 ^ m.Widths.length) (hw : m.Widths.length ≤ 7) : part m q = ⟨((List.range m.Widths.length).filter fun i => q.testBit i).map fun (k : Nat) => wd m (k : Int), m.Change⟩ := by
 unfold part nums
 rw [← filter_cut (n := m.Widths.length) (by rw [Nat.shiftRight_eq_div_pow]; exact Nat.div_eq_of_lt hq) (by omega), List.map_map]
 rfl
theorem nums_le {q n : Nat} (hq : q < 2 ^ n) (hn : n ≤ 62) : (nums q).length ≤ n := by
 unfold nums
 rw [← filter_cut (n := n) (by rw [Nat.shiftRight_eq_div_pow]; exact Nat.div_eq_of_lt hq) hn, List.length_map]
 have := List.length_filter_le (fun i => q.testBit i) (List.range n)
 rw [List.length_range] at this; exact this
theorem fw_all {m : LoomMill} {l : List LoomOrder} (g : Good m l) (h : Cpl m l []) : FwP m l (2 ^ m.Widths.length - 1) := by
 have := tog_of_cpl g h (s := 2 ^ l.length - 1) (by have := (pow7 g.l7).2; omega)
 exact this
theorem part_loop {m : LoomMill} {q : Nat} (hq : q < 2 ^ m.Widths.length) (hw : m.Widths.length ≤ 7) {Q : LoomMill → Prop} (hQ : Q (part m q)) :
  Yes (lp (σ := LoomMill × Int) (fun aF (t6, o4) => jn (σ := Unit) (fun (_ : Unit) => Option.bind (α := LoomMill) ((shr64 (q : Int) (wu64 o4)).bind fun m9 => bif ((bit64 .and m9 (1 : Int)) == (1 : Int)) then (idx (m.Widths) o4).bind fun k6 => (apnd 8 ((t6).Widths) (([k6] : List Int))).bind fun pC => some ({ t6 with Widths := pC }) else some (t6)) fun b8 => aF (b8, (w64 (o4 + (1 : Int))))) fun bF =>
    bif (decide (o4 < ((m.Widths).length : Int))) then bF () else some (t6)) big ((⟨[], m.Change⟩ : LoomMill), (0 : Int))) Q := by
 have hq62 : q < 2 ^ 62 := lt_pow62 hw hq
 refine Yes.upto (σ := LoomMill) m.Widths.length (by omega) (fun o t => t = ⟨((List.range o).filter fun i => q.testBit i).map fun (k : Nat) => wd m (k : Int), m.Change⟩) rfl (fun o t k ho hI hk => ?_) (fun t k hI => ?_)
 ·have h1 : decide ((o : Int) < (m.Widths.length : Int)) = true := decide_eq_true (Int.ofNat_lt.2 ho)
  dsimp only
  refine Yes.jn ?_
  rw [h1, cond_true]
  dsimp only
  rw [wu64_id (by omega) (by omega), shr_any hq62, Option.bind_some, bitv1 hq62]
  refine Yes.bind ?_
  have hlen : t.Widths.length ≤ 7 := by
   rw [hI, List.length_map]
   have := List.length_filter_le (fun i => q.testBit i) (List.range o)
   rw [List.length_range] at this; omega
  cases hb : q.testBit o with
  | true =>
   rw [cond_true, idx_wd (m := m) (by omega) (by omega), Option.bind_some, apnd8 (by omega), Option.bind_some]
   refine Yes.some (hk _ ?_)
   rw [hI, List.range_succ, List.filter_append, List.map_append]
   simp [hb]
  | false =>
   rw [cond_false]
   refine Yes.some (hk _ ?_)
   rw [hI, List.range_succ, List.filter_append]
   simp [hb]
 ·have h1 : decide ((m.Widths.length : Int) < (m.Widths.length : Int)) = false := by simp
  dsimp only
  refine Yes.jn ?_
  rw [h1, cond_false]
  refine Yes.some ?_
  rw [hI, ← sub_list m hq hw]; exact hQ
theorem s7 (x : Hall) : f7 x = some true := by
 obtain ⟨⟨m, l, p⟩, hx, M⟩ := s39 x
 simp only at M
 have g := good_of M.ok
 have hw3 := g.w3
 have hl7 := g.l7
 have hpl := pow7 hl7
 have hpw := pow7 (show m.Widths.length ≤ 7 by omega)
 have hn := M.n
 have hcp : Cpl m l p := cpl_of M.fits M.n
 have hc0 : Cpl m l [] := cpl_take hcp 0
 have hh0 : (holdsV m l p).2 = 0 := (holds_iff g (by omega) M.seq).2 M.fits
 obtain ⟨r, hr, _, hr2⟩ := s17 m l
 obtain ⟨hr0, hgr⟩ := (hr2 M.ok).1 hc0
 obtain ⟨q, e⟩ := r
 simp only at hr0 hgr
 subst hr0
 have hql := grd_len hgr
 have hqs := grd_seq hgr seq_nil
 have hqc := grd_cpl hgr hc0
 have hqf : HoldF m l q := (cpl_full hql).1 hqc
 have hag : best (AgP m l) (2 ^ l.length) = none := by
  cases hb : best (AgP m l) (2 ^ l.length) with
  | none => rfl
  | some b => exact absurd (tog_of_cpl g hc0 (best_lt hb).1) (best_lt hb).2
 have hlf : best (LfP m l) (2 ^ l.length) = some 0 := best_zero (by
  unfold LfP
  exact tog_of_cpl g hc0 (by have := dif_le (2 ^ l.length - 1) 0; omega)) _ hpl.2
 obtain ⟨s, hs⟩ : ∃ s, best (FwP m l) (2 ^ m.Widths.length) = some s := by
  cases hb : best (FwP m l) (2 ^ m.Widths.length) with
  | some s => exact ⟨s, rfl⟩
  | none => exact absurd (fw_all g hc0) (best_none hb _ (by omega))
 obtain ⟨hs1, hs2⟩ := best_lt hs
 have hs62 := lt_pow62 (show m.Widths.length ≤ 7 by omega) hs1
 have hov := ov_zero g hc0
 refine Yes.eq ?_
 unfold f7
 simp only [hx, Option.bind_some, s15 m (show m.Widths.length ≤ 1000000 by omega), s16 l (show l.length ≤ 1000000 by omega), s32 p (show p.length ≤ 1000000 by omega), s40 (m := m) (l := l) (show p.length ≤ 1000 by omega), hr, s41t g hqs (by omega) hqf, M.ok, ne_eq, not_true_eq_false, if_false, holdsV_of hh0 (by omega)]
 refine Yes.jn ?_
 have hok : (bif ((0 : Int) != 0) then some true else bif ((0 : Int) != 0) then some true else bif ((0 : Int) != 0) then some true else bif ((q.length : Int) != (l.length : Int)) then some true else some (!true)) = some false := by
  have : ((q.length : Int) != (l.length : Int)) = false := by rw [hql]; simp
  rw [this]; rfl
 refine Yes.bindv _ hok ?_
 rw [cond_false]
 refine Yes.jn ?_
 -- what comes behind the comparison of the plans
 have hback : Yes ((f23 m l).bind fun x7 => (f24 m l).bind fun z5 => (f30 m l).bind fun p6 => (f25 m l).bind fun p3 => some (x7, z5, p6, p3)) fun r => r.1 = ([], 7) ∧ r.2.1 = ([], 0) ∧ r.2.2.1.2.2 = 7 ∧ r.2.2.2 = (nums s, 0) := by
  rw [s23, s24, s30, s25]
  simp only [Option.bind_some, M.ok, ne_eq, not_true_eq_false, if_false, hag, hlf, hs, hov, if_true]
  refine Yes.some ⟨rfl, ?_, rfl, rfl⟩
  simp only [bp, nums_zero]
 obtain ⟨⟨x7, z5, p6, p3⟩, hb, hb1, hb2, hb3, hb4⟩ := hback
 simp only at hb1 hb2 hb3 hb4
 obtain ⟨x7', h23, hb⟩ := Option.bind_eq_some_iff.1 hb
 obtain ⟨z5', h24, hb⟩ := Option.bind_eq_some_iff.1 hb
 obtain ⟨p6', h30, hb⟩ := Option.bind_eq_some_iff.1 hb
 obtain ⟨p3', h25, hb⟩ := Option.bind_eq_some_iff.1 hb
 simp only [Option.some.injEq, Prod.mk.injEq] at hb
 obtain ⟨rfl, rfl, rfl, rfl⟩ := hb
 subst hb1 hb2 hb4
 have hjn : ∀ {Q : Bool → Prop} (X : Option Bool), Yes X Q → Yes (lp (σ := Int) (fun gK j0 => jn (σ := Unit) (fun (_ : Unit) => jn (σ := Unit) (fun (_ : Unit) => gK ((w64 (j0 + (1 : Int))))) fun iK => (idx q j0).bind fun pE => (idx p j0).bind fun qE => bif (!(decide (pE = qE))) then jn (σ := Unit) (fun (_ : Unit) => X) fun jK =>
   Option.bind (α := Bool) ((idx q j0).bind fun q6 => (idx p j0).bind fun r6 => bif (decide ((q6).From > (r6).From)) then some (true) else (idx q j0).bind fun y7 => (idx p j0).bind fun a8 => bif ((y7).From == (a8).From) then (idx q j0).bind fun v9 => (idx p j0).bind fun x9 => some ((decide ((v9).Loom > (x9).Loom))) else some (false)) fun d8 => bif d8 then some (false) else jK () else iK ()) fun kK =>
   bif (decide (j0 < ((q).length : Int))) then kK () else X) big ((0 : Int))) Q := by
  intro Q X ho
  refine Yes.upto0 q.length (by omega) (fun i => ∀ j, j < i → rn q j = rn p j) (fun _ h => absurd h (Nat.not_lt_zero _)) (fun i k hi hI hk => ?_) (fun k hI => ?_)
  ·have h1 : decide ((i : Int) < (q.length : Int)) = true := decide_eq_true (Int.ofNat_lt.2 hi)
   refine Yes.jn ?_
   rw [h1, cond_true]
   refine Yes.jn ?_
   rw [idx_rn hi, idx_rn (show i < p.length by omega)]
   simp only [Option.bind_some]
   by_cases heq : rn q i = rn p i
   ·rw [decide_eq_true heq]
    refine hk fun j hj => ?_
    rcases Nat.lt_succ_iff_lt_or_eq.1 hj with h | rfl
    ·exact hI j h
    ·exact heq
   ·rw [decide_eq_false heq]
    have hle := grd_less hgr hcp M.n M.seq (show i < l.length by omega) hI
    have hd : (bif decide ((rn q i).From > (rn p i).From) then some true else bif (rn q i).From == (rn p i).From then some (decide ((rn q i).Loom > (rn p i).Loom)) else some false) = some false := by
     rw [decide_eq_false (show ¬ (rn q i).From > (rn p i).From by omega), cond_false]
     by_cases he : (rn q i).From = (rn p i).From
     ·rw [decide_eq_false (show ¬ (rn q i).Loom > (rn p i).Loom by omega)]
      cases ((rn q i).From == (rn p i).From) <;> rfl
     ·have : ((rn q i).From == (rn p i).From) = false := by simp [he]
      rw [this]; rfl
    simp only [Bool.not_false, cond_true]
    refine Yes.jn ?_
    refine Yes.bindv _ hd ?_
    rw [cond_false]
    exact ho
  ·have h1 : decide ((q.length : Int) < (q.length : Int)) = false := by simp
   refine Yes.jn ?_
   rw [h1, cond_false]
   exact ho
 refine hjn _ ?_
 simp only [h23, h24, h30, h25, Option.bind_some]
 refine Yes.jn ?_
 have hc8 : (bif ((7 : Int) != 7) then some true else bif ((0 : Int) != 0) then some true else bif ((([] : List Int).length : Int) != 0) then some true else bif (p6'.2.2 != 7) then some true else bif ((0 : Int) != 0) then some true else some (decide (((nums s).length : Int) > (m.Widths.length : Int)))) = some false := by
  have e1 : (p6'.2.2 != 7) = false := by rw [hb3]; rfl
  have e2 := nums_le hs1 (by omega)
  rw [e1, decide_eq_false (show ¬ ((nums s).length : Int) > (m.Widths.length : Int) by omega)]; rfl
 refine Yes.bindv _ hc8 ?_
 rw [cond_false]
 refine Yes.jn ?_
 refine Yes.upto0 (2 ^ m.Widths.length) (by omega) (fun _ => True) trivial (fun z kk hz _ hk => ?_) (fun kk _ => ?_)
 ·have h1 : decide ((z : Int) < ((2 ^ m.Widths.length : Nat) : Int)) = true := decide_eq_true (Int.ofNat_lt.2 hz)
  have hz62 := lt_pow62 (show m.Widths.length ≤ 7 by omega) hz
  refine Yes.jn ?_
  rw [wu64_id (by omega) (by omega), shl_bit (show m.Widths.length < 62 by omega), Option.bind_some, h1, cond_true]
  refine Yes.jn ?_
  refine Yes.bind (part_loop hz (by omega) ?_)
  refine Yes.jn ?_
  -- the numbers make the set again
  refine Yes.rng (σ := Nat) (fun t i => ((t : Int), (i : Int))) 0 (nums s).length (fun o t => t < 2 ^ m.Widths.length ∧ ∀ i, t.testBit i = true ↔ ∃ j, j < o ∧ ∃ hj : j < (nums s).length, (nums s)[j] = (i : Int)) 0 rfl (Nat.zero_le _) (by have := nums_len s; omega) ⟨hpw.2, fun i => ⟨fun h => absurd h (by simp), fun ⟨j, h, _⟩ => absurd h (Nat.not_lt_zero _)⟩⟩ (fun o t kk' _ ho hI hk' => ?_) (fun t kk' hI => ?_)
  ·have hnl := nums_len s
   have h2 : decide ((o : Int) < ((nums s).length : Int)) = true := decide_eq_true (Int.ofNat_lt.2 ho)
   obtain ⟨k, hk1, hk2⟩ := nums_at ho
   have hkw := bit_lt hs1 hk2
   dsimp only
   refine Yes.jn ?_
   rw [h2, cond_true]
   refine Yes.jn ?_
   rw [idx_at ho, hk1]
   refine Yes.jn ?_
   have hg7 : ((some (k : Int)).bind fun j5 => bif decide (j5 < 0) then some true else (some (k : Int)).bind fun m5 => bif decide (m5 ≥ (m.Widths.length : Int)) then some true else bif decide ((o : Int) > 0) then (some (k : Int)).bind fun b9 => (idx (nums s) (w64 ((o : Int) - 1))).bind fun c9 => some (decide (b9 ≤ c9)) else some false) = some false := by
    simp only [Option.bind_some]
    rw [decide_eq_false (show ¬ (k : Int) < 0 by omega), decide_eq_false (show ¬ (k : Int) ≥ (m.Widths.length : Int) by omega)]
    simp only [cond_false]
    by_cases h0 : o = 0
    ·subst h0; rfl
    ·have hlt := List.pairwise_iff_getElem.1 (nums_pw s) (o - 1) o (by omega) ho (by omega)
     rw [decide_eq_true (show (o : Int) > 0 by omega), cond_true, w64_id (by omega) (by omega), show (o : Int) - 1 = ((o - 1 : Nat) : Int) by omega, idx_at (show o - 1 < (nums s).length by omega), Option.bind_some]
     rw [decide_eq_false (by omega)]
   refine Yes.bindv _ hg7 ?_
   rw [cond_false]
   dsimp only
   rw [Option.bind_some, wu64_id (by omega) (by omega), shl_bit (show k < 62 by omega), Option.bind_some, or64 (lt_pow62 (show m.Widths.length ≤ 7 by omega) hI.1) (lt_pow62 (show m.Widths.length ≤ 7 by omega) (Nat.pow_lt_pow_right (by decide) hkw)), w64_succ (by omega)]
   refine hk' _ ⟨Nat.or_lt_two_pow hI.1 (Nat.pow_lt_pow_right (by decide) hkw), fun i => ?_⟩
   rw [Nat.testBit_or, pow_bit, Bool.or_eq_true, hI.2, decide_eq_true_iff]
   constructor
   ·rintro (⟨j, h3, hj, he⟩ | rfl)
    ·exact ⟨j, by omega, hj, he⟩
    ·exact ⟨o, by omega, ho, hk1⟩
   ·rintro ⟨j, h3, hj, he⟩
    by_cases hjo : j = o
    ·subst hjo
     rw [hk1] at he
     exact .inr (by omega)
    ·exact .inl ⟨j, by omega, hj, he⟩
  ·have h2 : decide (((nums s).length : Int) < ((nums s).length : Int)) = false := by simp
   dsimp only
   refine Yes.jn ?_
   rw [h2, cond_false]
   obtain rfl : t = s := or_back hs62 (lt_pow62 (show m.Widths.length ≤ 7 by omega) hI.1) fun i => (hI.2 i).trans ⟨fun ⟨j, _, hj, he⟩ => ⟨j, hj, he⟩, fun ⟨j, hj, he⟩ => ⟨j, hj, hj, he⟩⟩
   refine Yes.jn ?_
   have hpl' : (part m z).Widths.length = (nums z).length := by simp [part]
   rw [hpl']
   by_cases hz0 : (nums z).length = 0
   ·have : (((nums z).length : Int) == 0) = true := by simp [hz0]
    rw [this, cond_true]
    exact hk trivial
   ·have : (((nums z).length : Int) == 0) = false := by rw [beq_eq_false_iff_ne]; omega
    rw [this, cond_false]
    dsimp only
    obtain ⟨r3, hr3, _, hr4⟩ := s17 (part m z) l
    have hr5 := hr4 (part_good g hz hz0)
    have hcz := part_cpl (l := l) hz (show m.Widths.length ≤ 7 by omega)
    rw [hr3, Option.bind_some]
    have hno : (bif decide (((nums z).length : Int) < ((nums t).length : Int)) then bif r3.2 != 9 then some true else bif (z : Int) == (t : Int) then some (r3.2 != 0) else some false else bif (z : Int) == (t : Int) then some (r3.2 != 0) else some false) = some false := by
     by_cases hlt : (nums z).length < (nums t).length
     ·have hnf : ¬ FwP m l z := fun h => by have := best_min hs z hz h; omega
      have h9 := hr5.2 fun h => hnf (hcz.1 h)
      have hne : ((z : Int) == (t : Int)) = false := by
       rw [beq_eq_false_iff_ne]
       intro h
       have : z = t := by omega
       rw [this] at hlt; omega
      rw [decide_eq_true (Int.ofNat_lt.2 hlt), h9, hne]; rfl
     ·rw [decide_eq_false (fun h => hlt (Int.ofNat_lt.1 h)), cond_false]
      by_cases hzt : z = t
      ·subst hzt
       have h0 := (hr5.1 (hcz.2 hs2)).1
       rw [h0]; simp
      ·have hne : ((z : Int) == (t : Int)) = false := by rw [beq_eq_false_iff_ne]; omega
       rw [hne]; rfl
    refine Yes.bindv _ hno ?_
    rw [cond_false]
    exact hk trivial
 ·have h1 : decide (((2 ^ m.Widths.length : Nat) : Int) < ((2 ^ m.Widths.length : Nat) : Int)) = false := by simp
  refine Yes.jn ?_
  rw [wu64_id (by omega) (by omega), shl_bit (show m.Widths.length < 62 by omega), Option.bind_some, h1, cond_false]
  dsimp only
  rw [known_ok]
  exact Yes.some rfl
end Go.Proofs.Ytnfjhdagbknlbaa
