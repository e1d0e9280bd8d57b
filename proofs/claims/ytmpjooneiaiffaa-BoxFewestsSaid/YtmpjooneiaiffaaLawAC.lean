/- BoxFewests. -/
import Derived.Test.YtmpjooneiaiffaaLawAB
set_option maxRecDepth 8000
namespace Go.Proofs.Ytmpjooneiaiffaa
open Go.RowKit
open Classical

theorem s16 (xs : List Int) (h : xs.length ≤ 1000) : f16 xs = some xs := by
 refine Yes.eq ?_
 unfold f16
 exact Yes.bind (Yes.apnd (by simp; omega) (by simp; omega) (Yes.some (by simp)))
theorem s52 (xs : List Int) (h : xs.length ≤ 1000) : f52 xs = some (xs.all (btw 0 9)) := by unfold f52; rw [s87 _ _ _ (by omega)]; rfl
theorem s21 (xs : List Int) (h : xs.length ≤ 1000) : f21 xs = some (xs.all (btw 0 9)) := by
 refine Yes.eq ?_
 unfold f21
 refine Yes.jn (Yes.upto0 xs.length (by omega) (fun i => (xs.take i).all (btw 0 9) = true) (by simp) (fun i k hi hI hk => ?_) (fun k hI => ?_))
 ·refine Yes.jn (qtake (by simp; omega) (Yes.jn (qbind _ (qidx hi) (qbind _ (s59 _ _ _) (Yes.cond (fun hc => Yes.some ?_) (fun hc => hk ?_))))))
  ·have hb : btw 0 9 xs[i] = false := by simpa using hc
   refine Eq.symm ?_
   rw [Bool.eq_false_iff]
   intro hall
   have := List.all_eq_true.1 hall _ (List.getElem_mem hi)
   rw [hb] at this; cases this
  ·have hb : btw 0 9 xs[i] = true := by simpa using hc
   rw [take_succ hi, List.all_append, hI]; simp [hb]
 ·refine Yes.jn (qskip (by simp) (Yes.some ?_))
  rw [List.take_length] at hI
  exact hI.symm
theorem s17e {l : BoxLoom} {cs : List Int} (h : Sml l) (he : chk l ≠ 0) : f17 l cs = some ([], 0, 0, chk l) := by
 refine Yes.eq ?_
 unfold f17
 exact qbind _ (s51 l h) (Yes.jn (qtake (by simpa using he) (Yes.some rfl)))
theorem s17l {l : BoxLoom} {cs : List Int} (hl : LOk l) (h : cs.length > 24) : f17 l cs = some ([], 0, 0, 5) := by
 refine Yes.eq ?_
 unfold f17
 exact qbind _ (s51 l hl.sml) (Yes.jn (qskip (by rw [chk0.2 hl]; rfl) (qtake (decide_eq_true (by omega)) (Yes.some rfl))))
theorem s17a {l : BoxLoom} {cs : List Int} (hl : LOk l) (h : cs.length ≤ 24) (hc : cs.all (btw 0 9) = false) : f17 l cs = some ([], 0, 0, 2) := by
 refine Yes.eq ?_
 unfold f17
 exact qbind _ (s51 l hl.sml) (Yes.jn (qskip (by rw [chk0.2 hl]; rfl) (qskip (decide_eq_false (by omega)) (qbind _ (s52 cs (by omega)) (qtake (by rw [hc]; rfl) (Yes.some rfl))))))
theorem kok_nil {B0 B1 : Nat} {gs : List (List Int)} {V : BoxPoint → Nat → Prop} : KOk B0 B1 gs V [] := ⟨fun h => by cases h⟩
theorem s17 {l : BoxLoom} {cs : List Int} (hl : LOk l) (h24 : cs.length ≤ 24) (hc : cs.all (btw 0 9) = true) : f17 l cs = some (if (rf cs l).2.2 = cs.length then ((rf cs l).1, (rf cs l).2.1, 0, 0) else ([], 0, (rf cs l).2.2, 9)) := by
 have hR := rf_ok cs (by omega) hl
 have hfar := hR.far
 refine Yes.eq ?_
 unfold f17
 refine qbind _ (s51 l hl.sml) (Yes.jn (qskip (by rw [chk0.2 hl]; rfl) (qskip (decide_eq_false (by omega)) (qbind _ (s52 cs (by omega)) (qskip (by rw [hc]; rfl) (qbind _ (s53 cs (by omega)) (qbind _ (s54r hl) (Yes.jn ?_))))))))
 refine Yes.upto cs.length (by omega) (fun t s => (t : Int) ≤ (rf cs l).2.2 ∧ s = []) ⟨hfar.1, rfl⟩ (fun t s k ht hI hk => ?_) (fun s k hI => ?_)
 ·obtain ⟨hI, rfl⟩ := hI
  have hcut : cut (sgl cs) 0 (w64 ((t : Int) + 1)) = some (sgl (cs.take (t + 1))) := by
   rw [w64_id (by omega) (by omega)]
   unfold cut
   rw [if_pos ⟨by omega, by omega, by rw [sgl_len]; omega⟩, show ((t : Int) + 1).toNat = t + 1 by omega]
   simp [sgl, List.map_take]
  have hlen' : (cs.take (t + 1)).length ≤ 1000 := by simp; omega
  have hv : Vs (cs.take (t + 1)) ⟨0, 0, rc l⟩ (t + 1) := ⟨0, rfl, rfl, by simp; omega⟩
  refine qtake (by simp; omega) (Yes.jn (qbind _ (s56 hl) (qbind _ hcut (Yes.bind ((s57 hl (pts_sgl hlen') (t + 1) big (by unfold big; omega) hl rfl rfl hv kok_nil).mono fun r hr => ?_)))))
  obtain ⟨hr, _⟩ := hr
  rw [cst_cL hlen' (t + 1) hl rfl rfl hv, show (cs.take (t + 1)).length - (t + 1) = 0 by simp; omega, List.drop_zero] at hr
  have hp := hR.pre (t + 1) (by omega)
  refine Yes.cond (fun hc => Yes.some ?_) (fun hc => hk _ ⟨?_, rfl⟩)
  ·have hge : r.1 ≥ never := of_decide_eq_true hc
   have : ¬ ((t + 1 : Nat) : Int) ≤ (rf cs l).2.2 := fun h => by have := hp.2 h; omega
   rw [if_neg (by omega), show (rf cs l).2.2 = (t : Int) by omega]
  ·have hlt : ¬ r.1 ≥ never := of_decide_eq_false hc
   exact hp.1 (by omega)
 ·obtain ⟨hI, rfl⟩ := hI
  have hall : (rf cs l).2.2 = cs.length := by omega
  have hlt := hR.all.2 hall
  have hv : Vs cs ⟨0, 0, rc l⟩ cs.length := ⟨0, rfl, rfl, by omega⟩
  rw [if_pos hall]
  refine qskip (by simp) (qbind _ (s56 hl) (Yes.bind ((s57 hl (pts_sgl (by omega)) cs.length big (by unfold big; omega) hl rfl rfl hv kok_nil).mono fun r hr => ?_)))
  obtain ⟨hr, hk⟩ := hr
  rw [cst_cL (by omega) cs.length hl rfl rfl hv, Nat.sub_self, List.drop_zero, ← hR.mv hlt] at hr
  rw [hr]
  refine Yes.bind (Yes.mono (Q' := fun s => s.1 = (rf cs l).1) ?_ fun s hs => Yes.some (by rw [hs]))
  refine Yes.lp (fun s => ∃ k n, LOk n ∧ n.Boxes = l.Boxes ∧ s.2.1.race = rc n ∧ Vs cs s.2.1 k ∧ KOk (nbx l 0) (nbx l 1) (sgl cs) (Vs cs) s.2.2 ∧ s.1 ++ (rf (cs.drop (cs.length - k)) n).1 = (rf cs l).1 ∧ cL (cs.drop (cs.length - k)) n < never ∧ s.1.length + k = cs.length) (fun s => cs.length - s.1.length) ⟨cs.length, l, hl, rfl, rfl, hv, hk, by rw [Nat.sub_self, List.drop_zero]; rfl, by rw [Nat.sub_self, List.drop_zero]; exact hlt, by simp⟩ (by simp; omega) ?_
  rintro ⟨ps, pt, m⟩ kk ⟨k, n, a1, a2, a3, a4, a5, a6, a7, a8⟩ hkk
  simp only at a3 a4 a5 a6 a8
  have hz := (pts_sgl (cs := cs) (by omega)).zero a4
  rw [sgl_len] at hz
  obtain ⟨g, g1, g2, g3⟩ := id a4
  refine Yes.jn (Yes.cond (fun hc2 => ?_) (fun hc2 => Yes.some ?_))
  ·have hlt2 : pt.group < ((sgl cs).length : Int) := of_decide_eq_true hc2
   rw [sgl_len] at hlt2
   obtain ⟨k, rfl⟩ : ∃ k', k = k' + 1 := ⟨k - 1, by omega⟩
   refine Yes.bind (Yes.bind ((s58 hl (by omega) (by omega) a1 a2 a3 a4 a5 a7).mono fun b hb => Yes.bind (Yes.apnd (by simp; omega) (by simp; omega) (Yes.some ?_))))
   obtain ⟨n', b1, b2, b3, b4, b5, b6, b7⟩ := hb
   refine hkk _ ⟨k, n', b1, b2, b3, b4, b5, ?_, b7, by simp; omega⟩ ?_
   ·show (ps ++ [b.1]) ++ _ = _
    rw [← a6, b6]; simp
   ·show cs.length - (ps ++ [b.1]).length < cs.length - ps.length
    simp; omega
  ·have hge : ¬ pt.group < ((sgl cs).length : Int) := of_decide_eq_false hc2
   rw [sgl_len] at hge
   have hk0 : k = 0 := by omega
   subst hk0
   rw [Nat.sub_zero, List.drop_length, rf, List.append_nil] at a6
   exact a6
theorem s3 (l : BoxLoom) (cs : List Int) : f3 l cs = some true := by
 refine Yes.eq ?_
 unfold f3
 have known : Yes (f14.bind fun y => some y) (fun r => r = true) := ⟨true, rfl, rfl⟩
 refine Yes.jn (Yes.bind (Yes.mono (Q' := fun b => b = false → Sml l ∧ cs.length ≤ 30) ?_ fun b hb => ?_))
 ·refine qbind _ (s13 l) (Yes.cond (fun hc => Yes.some fun h => by cases h) (fun hc => ?_))
  have hs : Sml l := Classical.not_not.1 (of_decide_eq_false hc)
  refine Yes.cond (fun _ => Yes.cond (fun _ => Yes.some fun h => by cases h) (fun _ => Yes.some fun h => ⟨hs, ?_⟩)) (fun _ => Yes.some fun h => ⟨hs, ?_⟩)
  ·have := of_decide_eq_false h; omega
  ·have := of_decide_eq_false h; omega
 refine Yes.cond (fun _ => known) (fun hc => ?_)
 obtain ⟨hs, h30⟩ := hb hc
 -- the last lines, for an error
 have fin : ∀ {o : List BoxPick × Int × Int × Int} {e at' : Int}, o = ([], 0, at', e) → Yes (Option.bind (α := Bool) (bif (o.2.2.2 == e) then bif (o.2.2.1 == at') then bif (((o.1).length : Int) == (0 : Int)) then bif (o.2.1 == (0 : Int)) then (f14).bind fun pA => some pA else some false else some false else some false else some false) fun t8 => some t8) (fun r => r = true) := fun {o e at'} ho => by
  subst ho
  exact Yes.bind (qtake (by simp) (qtake (by simp) (qtake rfl (qtake rfl ⟨true, rfl, true, rfl, rfl⟩))))
 have first : ∀ {X : Option Bool}, Yes X (fun r => r = true) → Yes (Option.bind (α := Bool) ((f18 l l).bind fun y74 => bif (!y74) then some true else (f19 cs cs).bind fun aC => some (!aC)) fun i8 => bif i8 then some false else X) (fun r => r = true) := fun {X} hX => by
  exact Yes.bind (qbind _ (s18r l hs) (qskip rfl (qbind true (by rw [s19 _ _ (by omega)]; simp) (Yes.some (qskip rfl hX)))))
 refine qbind _ (s15 l hs) (qbind _ (s16 cs (by omega)) ?_)
 by_cases he : chk l = 0
 ·have hl := chk0.1 he
  have h0 : (chk l != 0) = false := by rw [he]; rfl
  by_cases h24 : cs.length ≤ 24
  ·cases hcl : cs.all (btw 0 9) with
   | false => exact qbind _ (s17a hl h24 hcl) (Yes.jn (first (qbind _ (s20 l hs) (Yes.jn (qskip h0 (qskip (decide_eq_false (by omega)) (qbind _ (s21 cs (by omega)) (qtake (by rw [hcl]; rfl) (fin rfl)))))))))
   | true =>
    refine qbind _ (s17 hl h24 hcl) (Yes.jn (first (qbind _ (s20 l hs) (Yes.jn (qskip h0 (qskip (decide_eq_false (by omega)) (qbind _ (s21 cs (by omega)) (qskip (by rw [hcl]; rfl) (qbind _ (s22 cs big (by unfold big; omega) (by omega) hl) (Yes.jn ?_))))))))))
    by_cases hall : (rf cs l).2.2 = cs.length
    ·rw [if_pos hall]
     have hpl := (rf_ok cs (by omega) hl).bd.2.2
     exact qtake (beq_iff_eq.2 hall) (Yes.bind (qtake rfl (qbind true (by show f23 (rf cs l).1 (rf cs l).1 = _; rw [s23 _ _ (by omega)]; simp) (qtake rfl (qtake (by simp) (qtake rfl ⟨true, rfl, true, rfl, rfl⟩))))))
    ·rw [if_neg hall]
     exact qskip (beq_eq_false_iff_ne.2 hall) (fin rfl)
  ·exact qbind _ (s17l hl (by omega)) (Yes.jn (first (qbind _ (s20 l hs) (Yes.jn (qskip h0 (qtake (decide_eq_true (by omega)) (fin rfl)))))))
 ·exact qbind _ (s17e hs he) (Yes.jn (first (qbind _ (s20 l hs) (Yes.jn (qtake (by simpa using he) (fin rfl))))))
end Go.Proofs.Ytmpjooneiaiffaa
