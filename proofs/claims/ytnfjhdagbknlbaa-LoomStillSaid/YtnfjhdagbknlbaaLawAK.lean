/- LoomAgainst: the plain law, its end. -/
import Derived.Test.YtnfjhdagbknlbaaLawAJ
set_option maxRecDepth 8000
namespace Go.Proofs.Ytnfjhdagbknlbaa
open Go.RowKit
open Classical

theorem there_loop {A B : List Int} (hA : A.length ≤ 1000) (hB : B.length ≤ 1000) (h : ∃ x ∈ A, x ∈ B) :
    Yes (lp (σ := Bool × Int) (fun aT (pB, u5) =>
            jn (σ := Unit) (fun _ =>
             Option.bind (α := Bool) (
              lp (σ := Bool × Int) (fun bT (z6, c6) =>
               jn (σ := Unit) (fun _ =>
                Option.bind (α := Bool) (
                 bif z6 then
                  some (true)
                 else
                  (idx A u5).bind fun nC =>
                  (idx B c6).bind fun oC =>
                  some ((nC == oC))
                 ) fun qB =>
                bT (qB, (w64 (c6 + (1 : Int))))
                ) fun cT =>
               bif (decide (c6 < ((B).length : Int))) then
                cT ()
               else
                some (z6)
               ) big (pB, (0 : Int))
              ) fun rB =>
             aT (rB, (w64 (u5 + (1 : Int))))
             ) fun dT =>
            bif (decide (u5 < ((A).length : Int))) then
             dT ()
            else
             some (pB)
            ) big (false, (0 : Int))) fun r => r = true := by
  refine Yes.upto A.length (by omega) (fun i b => (∃ j, j < i ∧ ∃ x ∈ B, A[j]? = some x) → b = true) (fun ⟨j, hj, _⟩ => absurd hj (Nat.not_lt_zero _)) (fun i b k hi hI hk => ?_) (fun b k hI => ?_)
  · dsimp only
    refine Yes.jn ?_
    rw [decide_eq_true (Int.ofNat_lt.2 hi), cond_true]
    dsimp only
    refine Yes.bind (Yes.mono (Q' := fun r => (b = true ∨ A[i] ∈ B) → r = true) ?_ fun r hr => ?_)
    · refine Yes.upto B.length (by omega) (fun c z => (b = true ∨ ∃ d, d < c ∧ B[d]? = some A[i]) → z = true) (fun h => ?_) (fun c z k' hc hI' hk' => ?_) (fun z k' hI' => ?_)
      · rcases h with h | ⟨d, hd, _⟩
        · exact h
        · exact absurd hd (Nat.not_lt_zero _)
      · dsimp only
        refine Yes.jn ?_
        rw [decide_eq_true (Int.ofNat_lt.2 hc), cond_true, idx_at hi, idx_at hc]
        dsimp only
        cases z with
        | true => exact Yes.bind (Yes.some (hk' _ fun _ => rfl))
        | false =>
          refine Yes.bind (Yes.some (hk' _ fun h => ?_))
          rcases h with h | ⟨d, hd, he⟩
          · exact absurd (hI' (.inl h)) (by decide)
          · rcases Nat.lt_succ_iff_lt_or_eq.1 hd with h | rfl
            · exact absurd (hI' (.inr ⟨d, h, he⟩)) (by decide)
            · rw [List.getElem?_eq_getElem hc] at he
              simp [Option.some.inj he]
      · dsimp only
        refine Yes.jn ?_
        rw [decide_eq_false (show ¬ (B.length : Int) < (B.length : Int) by omega), cond_false]
        refine Yes.some fun h => hI' ?_
        rcases h with h | h
        · exact .inl h
        · obtain ⟨d, hd, he⟩ := List.getElem_of_mem h
          exact .inr ⟨d, hd, by rw [List.getElem?_eq_getElem hd, he]⟩
    · refine hk _ fun ⟨j, hj, x, hx, he⟩ => hr ?_
      rcases Nat.lt_succ_iff_lt_or_eq.1 hj with h | rfl
      · exact .inl (hI ⟨j, h, x, hx, he⟩)
      · rw [List.getElem?_eq_getElem hi] at he
        exact .inr (Option.some.inj he ▸ hx)
  · dsimp only
    refine Yes.jn ?_
    rw [decide_eq_false (show ¬ (A.length : Int) < (A.length : Int) by omega), cond_false]
    obtain ⟨x, hx, hxB⟩ := h
    obtain ⟨j, hj, he⟩ := List.getElem_of_mem hx
    exact Yes.some (hI ⟨j, hj, x, hxB, by rw [List.getElem?_eq_getElem hj, he]⟩)
theorem sum_loop {l : List LoomOrder} {m : LoomMill} (g : Good m l) (lo hi' : Int) :
    Yes (lp (σ := Int × Int) (fun qT (t7, m4) =>
        jn (σ := Unit) (fun _ =>
         Option.bind (α := Int) (
          Option.bind (α := Bool) (
           (idx l m4).bind fun g9 =>
           bif (decide ((g9).Early ≥ lo)) then
            (idx l m4).bind fun rD =>
            some ((decide ((rD).Late ≤ hi')))
           else
            some (false)
           ) fun j9 =>
          bif j9 then
           (idx l m4).bind fun gF =>
           some ((w64 (t7 + (gF).Woven)))
          else
           some (t7)
          ) fun uB =>
         qT (uB, (w64 (m4 + (1 : Int))))
         ) fun rT =>
        bif (decide (m4 < ((l).length : Int))) then
         rT ()
        else
         some (t7)
        ) big ((0 : Int), (0 : Int))) fun r => r = wrk l lo hi' := by
  have hl7 := g.l7
  rw [wrk_sm]
  generalize hf : (fun i : Nat => if inDays lo hi' (od l (i : Int)) = true then (od l (i : Int)).Woven else 0) = f
  have hfi : ∀ i, f i = if inDays lo hi' (od l (i : Int)) = true then (od l (i : Int)).Woven else 0 := fun i => by rw [← hf]
  have hfb : ∀ i, i < l.length → 0 ≤ f i ∧ f i ≤ 100 := fun i hi => by
    have := g.od hi
    rw [hfi]; split <;> omega
  refine Yes.upto l.length (by omega) (fun i s => s = sm i f ∧ 0 ≤ s ∧ s ≤ 100 * i) ⟨rfl, by omega, by omega⟩ (fun i s k hi hI hk => ?_) (fun s k hI => ?_)
  · obtain ⟨h1, h2, h3⟩ := hI
    have hb := hfb i hi
    have hn : sm (i + 1) f = s + f i := by rw [h1]; rfl
    dsimp only
    refine Yes.jn ?_
    rw [decide_eq_true (Int.ofNat_lt.2 hi), cond_true, idx_od (l := l) (by omega) (by omega)]
    simp only [Option.bind_some]
    have hin : inDays lo hi' (od l (i : Int)) = (decide ((od l (i : Int)).Early ≥ lo) && decide ((od l (i : Int)).Late ≤ hi')) := rfl
    have hfi' := hfi i
    rw [hin] at hfi'
    cases ha : decide ((od l (i : Int)).Early ≥ lo) with
    | false =>
      rw [ha] at hfi'
      have : f i = 0 := by simpa using hfi'
      exact hk s ⟨by rw [hn, this, Int.add_zero], h2, by omega⟩
    | true =>
      rw [ha] at hfi'
      cases hb2 : decide ((od l (i : Int)).Late ≤ hi') with
      | false =>
        rw [hb2] at hfi'
        have : f i = 0 := by simpa using hfi'
        exact hk s ⟨by rw [hn, this, Int.add_zero], h2, by omega⟩
      | true =>
        rw [hb2] at hfi'
        have : f i = (od l (i : Int)).Woven := by simpa using hfi'
        show Yes (k (w64 (s + (od l (i : Int)).Woven), _)) _
        rw [← this, w64_id (by omega) (by omega)]
        exact hk _ ⟨hn.symm, by omega, by omega⟩
  · dsimp only
    refine Yes.jn ?_
    rw [decide_eq_false (show ¬ (l.length : Int) < (l.length : Int) by omega), cond_false]
    exact Yes.some hI.1
theorem these_loop {m : LoomMill} {q : List LoomOrder} (g : Good m q) {s : Nat} (hs : best (AgP m q) (2 ^ q.length) = some s) {X : Option Bool} {Q : Bool → Prop} (hX : Yes X Q) :
    Yes (lp (σ := Int) (fun gT d6 =>
          jn (σ := Unit) (fun _ =>
           jn (σ := Unit) (fun _ =>
            gT ((w64 (d6 + (1 : Int))))
            ) fun iT =>
           (f42 (pick q (inS q.length s)) (([d6] : List Int))).bind fun qD =>
           (f15 m).bind fun jT =>
           (f17 jT (qD.1)).bind fun sB =>
           bif (sB.2 != (0 : Int)) then
            some (false)
           else
            iT ()
           ) fun kT =>
          bif (decide (d6 < ((pick q (inS q.length s)).length : Int))) then
           kT ()
          else
           X
          ) big ((0 : Int))) Q := by
  have hw3 := g.w3
  have hl7 := g.l7
  have hp := pow7 hl7
  obtain ⟨h1, h2⟩ := best_lt hs
  have hlen : (pick q (inS q.length s)).length = (inS q.length s).length := pick_len _ _
  have hle := inS_len q.length s
  have hpg := pick_good g (xs := inS q.length s) (by omega) fun x hx => (mem_inS.1 hx).1
  have g' := good_of hpg
  rw [hlen]
  refine Yes.upto0 (inS q.length s).length (by omega) (fun _ => True) trivial (fun i kk hi _ hk => ?_) (fun kk _ => ?_)
  · refine Yes.jn ?_
    rw [decide_eq_true (Int.ofNat_lt.2 hi), cond_true]
    refine Yes.jn ?_
    rw [← nums_pow (show i < 61 by omega), s42 (by omega) (Nat.pow_lt_pow_right (by decide) (by omega))]
    have hbit := (mem_inS.1 (List.getElem_mem hi)).2
    have hc := fits_less g h1 hi (ag_less g hs hbit)
    have hpg2 := pick_good g' (xs := outS (pick q (inS q.length s)).length (2 ^ i)) (by have := outS_len (pick q (inS q.length s)).length (2 ^ i); omega) fun x hx => (mem_outS.1 hx).1
    obtain ⟨r, hr, _, hr2⟩ := s17 m (pick (pick q (inS q.length s)) (outS (pick q (inS q.length s)).length (2 ^ i)))
    rw [hlen] at hr hr2 hpg2 ⊢
    have hr0 := ((hr2 hpg2).1 hc).1
    rw [s15 m (by omega)]
    simp only [Option.bind_some, hr, hr0]
    exact hk trivial
  · refine Yes.jn ?_
    rw [decide_eq_false (show ¬ ((inS q.length s).length : Int) < ((inS q.length s).length : Int) by omega), cond_false]
    exact hX
theorem skip {α : Type} {Q : α → Prop} {c : Bool} {X Y : Option α} (hc : c = false) (h : Yes Y Q) : Yes (bif c then X else Y) Q := by rw [hc]; exact h
theorem take {α : Type} {Q : α → Prop} {c : Bool} {X Y : Option α} (hc : c = true) (h : Yes X Q) : Yes (bif c then X else Y) Q := by rw [hc]; exact h
theorem days_ok {q : List LoomOrder} {n : Nat} {o : Span × Int × Int} {e : Int} (hn : n ≤ 3) (hO : (if (ov q n).2.2 = 0 then ((⟨0, 0⟩ : Span), (0 : Int), (7 : Int)) else ((ov q n).1, (ov q n).2.1, 0)) = o) (ho : (o.2.2 == 0) = true) (he : e = wrk q o.1.Low o.1.High) :
  (bif (decide ((o.1).Low < (0 : Int))) then some (true) else bif (decide ((o.1).High > (300 : Int))) then some (true) else bif (decide ((o.1).Low ≥ (o.1).High)) then some (true) else bif (e != o.2.1) then some (true) else
   some ((decide (o.2.1 ≤ (w64 ((w64 ((o.1).High - (o.1).Low)) * (n : Int))))))) = some false := by
 by_cases hov : (ov q n).2.2 = 0
 ·rw [if_pos hov] at hO; subst hO; cases ho
 ·rw [if_neg hov] at hO
  subst hO
  obtain ⟨h1, h2, h3, h4, h5⟩ := ov_is hov
  simp only at he
  rw [← h4] at he
  have hm := mul_bound (a := (ov q n).1.High - (ov q n).1.Low) (n := n) (by omega) (by omega) (by omega) (by omega)
  simp only
  rw [decide_eq_false (show ¬ (ov q n).1.Low < 0 by omega), decide_eq_false (show ¬ (ov q n).1.High > 300 by omega), decide_eq_false (show ¬ (ov q n).1.Low ≥ (ov q n).1.High by omega), w64_id (show -9223372036854775808 ≤ (ov q n).1.High - (ov q n).1.Low by omega) (by omega), w64_id (show -9223372036854775808 ≤ ((ov q n).1.High - (ov q n).1.Low) * (n : Int) by omega) (by omega), decide_eq_false (show ¬ (ov q n).2.1 ≤ ((ov q n).1.High - (ov q n).1.Low) * (n : Int) by omega)]
  simp [he]
theorem s8 (x : Hall) (x1 : Vector UInt8 7) (x2 : List UInt8) : f8 x x1 x2 = some true := by
 obtain ⟨⟨m, l, p⟩, hx, M⟩ := s39 x
 simp only at M
 have g0 := good_of M.ok
 have hw3 := g0.w3
 refine Yes.eq ?_
 unfold f8
 rw [hx, Option.bind_some]
 refine Yes.bind (Yes.mono (tight_loop g0 (fun j hj => ?_) x1) fun q hq => ?_)
 ·obtain ⟨K, F, h⟩ := M.fits
  have h1 := h.one j (by rw [M.n]; exact hj)
  have h2 := h1.e
  have h3 := h1.t
  omega
 have hck := tgt_good g0 hq
 have g := good_of hck
 have hl7 := g.l7
 have hp := pow7 hl7
 obtain ⟨t, ht⟩ := lf_some g
 obtain ⟨ht1, ht2⟩ := best_lt ht
 obtain ⟨r, hr, _, hr2⟩ := s17 m q
 have hr3 := hr2 hck
 have hpo := pick_good g (xs := outS q.length t) (by have := outS_len q.length t; omega) fun x hx => (mem_outS.1 hx).1
 obtain ⟨ro, hro, _, hro2⟩ := s17 m (pick q (outS q.length t))
 have hro0 := ((hro2 hpo).1 ((out_cpl g ht1).2 ht2)).1
 have h15 := s15 m (show m.Widths.length ≤ 1000000 by omega)
 have h16 := s16 q (show q.length ≤ 1000000 by omega)
 have h24 := s24 m q
 have h23 := s23 m q
 have h30 := s30 m q
 simp only [hck, ne_eq, not_true_eq_false, if_false, ht, bp] at h23 h24 h30
 generalize hO : (if (ov q m.Widths.length).2.2 = 0 then ((⟨0, 0⟩ : Span), (0 : Int), (7 : Int)) else ((ov q m.Widths.length).1, (ov q m.Widths.length).2.1, 0)) = o at h30
 have h42 := s42 hl7 ht1
 have e00 : ((0 : Int) != 0) = false := rfl
 refine Yes.bindv _ h15 (Yes.bindv _ h16 (Yes.bindv _ h23 (Yes.bindv _ h15 (Yes.bindv _ h16 (Yes.bindv _ h24 (Yes.bindv _ h15 (Yes.bindv _ h16 (Yes.bindv _ hr (Yes.bindv _ h15 (Yes.bindv _ h16 (Yes.bindv _ h30 ?_)))))))))))
 refine Yes.jn ?_
 cases hb : best (AgP m q) (2 ^ q.length) with
 | none =>
  have hc := (cpl_ag g).2 hb
  have h0 := (cpl_lf g ht).1 hc
  have hrz := (hr3.1 hc).1
  have hov := ov_zero g hc
  subst h0
  rw [if_pos hov] at hO
  subst hO
  refine Yes.bindv false (by rw [hrz, nums_zero]; rfl) (skip rfl ?_)
  refine Yes.bindv _ h42 (Yes.jn (skip rfl (Yes.jn (Yes.bindv _ h15 (Yes.bindv _ hro (skip (by rw [hro0]; rfl) (Yes.jn ?_)))))))
  refine tries_loop g ht x2 ?_
  refine Yes.jn (skip rfl ?_)
  refine Yes.jn (take rfl ?_)
  rw [known_ok]
  exact Yes.some rfl
 | some s =>
  obtain ⟨hs1, hs2⟩ := best_lt hb
  have hnc : ¬ Cpl m q [] := fun h => by rw [(cpl_ag g).1 h] at hb; cases hb
  have ht0 : t ≠ 0 := fun h => hnc ((cpl_lf g ht).2 h)
  have hr9 := hr3.2 hnc
  subst hr9
  have htl : (nums t).length ≠ 0 := fun h => ht0 (nums_empty (lt_pow62 hl7 ht1) (List.eq_nil_of_length_eq_zero h))
  have htl' : (((nums t).length : Int) == 0) = false := by rw [beq_eq_false_iff_ne]; omega
  have hs0 : s ≠ 0 := fun h => hs2 (h ▸ tog_zero)
  have hil := inS_len q.length s
  have hsl : (inS q.length s).length ≠ 0 := fun h => hs0 ((inS_len0 hs1).1 h)
  have hpi := pick_good g (xs := inS q.length s) (by omega) fun x hx => (mem_inS.1 hx).1
  have hpl : (pick q (inS q.length s)).length = (inS q.length s).length := pick_len _ _
  obtain ⟨ri, hri, _, hri2⟩ := s17 m (pick q (inS q.length s))
  have hri9 := (hri2 hpi).2 fun h => hs2 ((in_cpl g hs1).1 h)
  subst hri9
  have hthere : ∃ x ∈ nums s, x ∈ nums t := by
   obtain ⟨i, h1, h2⟩ := ag_meet g hb ht
   exact ⟨i, (mem_nums (lt_pow62 hl7 hs1)).2 h1, (mem_nums (lt_pow62 hl7 ht1)).2 h2⟩
  have hn1 := nums_len s
  have hn2 := nums_len t
  have hth := there_loop (A := nums s) (B := nums t) (by omega) (by omega) hthere
  have h16i := s16 (pick q (inS q.length s)) (by omega)
  refine Yes.bindv false (by rw [htl']; cases (o.2.2 == 0) <;> rfl) (skip rfl ?_)
  refine Yes.bindv _ h42 (Yes.jn (skip rfl (Yes.jn (Yes.bindv _ h15 (Yes.bindv _ hro (skip (by rw [hro0]; rfl) (Yes.jn ?_)))))))
  refine tries_loop g ht x2 ?_
  refine Yes.jn (Yes.cond (fun ho => Yes.bind (Yes.mono (sum_loop g _ _) fun e he => Yes.bindv false (days_ok hw3 hO ho he) (skip rfl ?_))) (fun _ => ?_))
  all_goals
   refine Yes.jn (skip rfl ?_)
   refine Yes.bindv _ (s42 hl7 hs1) (Yes.jn (Yes.bindv false (by rw [show (!true) = false from rfl, cond_false, hpl]; congr 1; rw [beq_eq_false_iff_ne]; omega) (skip rfl ?_)))
   refine Yes.jn (Yes.bindv _ h15 (Yes.bindv _ h16i (Yes.bindv _ hri (skip rfl ?_))))
   refine Yes.jn ?_
   refine these_loop g hb ?_
   refine Yes.bind (Yes.mono hth fun y hy => ?_)
   refine Yes.bind (take hy ?_)
   rw [known_ok]
   exact Yes.some (Yes.some rfl)
end Go.Proofs.Ytnfjhdagbknlbaa
