/- LoomInTime. -/
import Derived.Test.YtnfjhdagbknlbaaLawAE
set_option maxRecDepth 8000
namespace Go.Proofs.Ytnfjhdagbknlbaa
open Go.RowKit
open Classical

theorem holdF_run {m : LoomMill} {l : List LoomOrder} {p : List LoomRun} (g : Good m l) (hs : SeqP p) (hn : p.length ≤ l.length) {K : Nat → Nat} {F : Nat → Int} (h : Fits m l (fun i => i < p.length) (FixG (pg p)) K F) {i : Nat} (hi : i < p.length) :
  (rn p i).Order = (i : Int) ∧ (rn p i).Loom = (K i : Int) ∧ (rn p i).From = F i ∧ K i < m.Widths.length ∧ 0 ≤ F i ∧ F i + (od l i).Woven ≤ 300 := by
 obtain ⟨h1, h2⟩ := holdF_at h hi hi
 have h3 := h.one i hi
 have h4 := g.od h3.il
 have h5 := h3.e
 have h6 := h3.t
 exact ⟨hs i hi, h1, h2, h3.kw, by omega, by omega⟩
theorem s44t {m : LoomMill} {l : List LoomOrder} {p : List LoomRun} (g : Good m l) (hs : SeqP p) (hn : p.length ≤ l.length) (h : HoldF m l p) : f44 m l p = some true := by
 obtain ⟨K, F, h⟩ := h
 have hl7 := g.l7
 have hc := g.c
 refine Yes.eq ?_
 unfold f44
 refine Yes.jn ?_
 refine Yes.upto0 p.length (by omega) (fun _ => True) trivial (fun i kk hi _ hk => ?_) (fun kk _ => ?_)
 ·have h1 : decide ((i : Int) < (p.length : Int)) = true := decide_eq_true (Int.ofNat_lt.2 hi)
  refine Yes.jn ?_
  rw [h1, cond_true]
  refine Yes.jn ?_
  refine Yes.upto0 p.length (by omega) (fun _ => True) trivial (fun j kk' hj _ hk' => ?_) (fun kk' _ => ?_)
  ·have h2 : decide ((j : Int) < (p.length : Int)) = true := decide_eq_true (Int.ofNat_lt.2 hj)
   obtain ⟨a1, a2, a3, a4, a5, a6⟩ := holdF_run g hs hn h hi
   obtain ⟨b1, b2, b3, b4, b5, b6⟩ := holdF_run g hs hn h hj
   refine Yes.jn ?_
   rw [h2, cond_true]
   refine Yes.jn ?_
   rw [idx_rn hi, Option.bind_some, idx_rn hj, Option.bind_some]
   refine Yes.jn ?_
   have hskip : (bif ((i : Int) == (j : Int)) then some true else bif ((rn p i).Loom != (rn p j).Loom) then some true else bif decide ((rn p i).From > (rn p j).From) then some true else bif ((rn p i).From == (rn p j).From) then some (decide ((rn p i).Order > (rn p j).Order)) else some false) =
     some (decide (¬ (i ≠ j ∧ (rn p i).Loom = (rn p j).Loom ∧ ((rn p i).From < (rn p j).From ∨ (rn p i).From = (rn p j).From ∧ (rn p i).Order ≤ (rn p j).Order)))) := by
    by_cases c1 : i = j
    ·subst c1; simp
    ·have e1 : ((i : Int) == (j : Int)) = false := by rw [beq_eq_false_iff_ne]; omega
     rw [e1, cond_false]
     by_cases c2 : (rn p i).Loom = (rn p j).Loom
     ·have e2 : ((rn p i).Loom != (rn p j).Loom) = false := by simp [c2]
      rw [e2, cond_false]
      by_cases c3 : (rn p i).From > (rn p j).From
      ·rw [decide_eq_true c3, cond_true]
       congr 1; rw [eq_comm, decide_eq_true_iff]; omega
      ·rw [decide_eq_false c3, cond_false]
       by_cases c4 : (rn p i).From = (rn p j).From
       ·have e4 : ((rn p i).From == (rn p j).From) = true := by simp [c4]
        rw [e4, cond_true]
        congr 1; rw [decide_eq_decide]; omega
       ·have e4 : ((rn p i).From == (rn p j).From) = false := by simp [c4]
        rw [e4, cond_false]
        congr 1; rw [eq_comm, decide_eq_false_iff_not]; omega
     ·have e2 : ((rn p i).Loom != (rn p j).Loom) = true := by simp [c2]
      rw [e2, cond_true]
      congr 1; rw [eq_comm, decide_eq_true_iff]
      exact fun h => c2 h.2.1
   refine Yes.bindv _ hskip ?_
   by_cases hsk : i ≠ j ∧ (rn p i).Loom = (rn p j).Loom ∧ ((rn p i).From < (rn p j).From ∨ (rn p i).From = (rn p j).From ∧ (rn p i).Order ≤ (rn p j).Order)
   ·rw [decide_eq_false (fun h => h hsk), cond_false]
    dsimp only
    have hsep := h.sep i j hi hj hsk.1 (by omega) (by omega)
    refine Yes.bind (Yes.mono (Q' := fun _ => True) ?_ fun v _ => ?_)
    ·refine Yes.upto p.length (by omega) (fun _ _ => True) trivial (fun t s kk'' ht _ hk'' => ?_) (fun s kk'' _ => ?_)
     ·have h3 : decide ((t : Int) < (p.length : Int)) = true := decide_eq_true (Int.ofNat_lt.2 ht)
      dsimp only
      refine Yes.jn ?_
      rw [h3, cond_true, idx_rn ht]
      refine Yes.bind (Yes.bind (Yes.some ?_))
      have hany : ∀ (x : Option Bool), (∃ b, x = some b) → Yes x fun b => Yes (kk'' (b, w64 ((t : Int) + 1))) fun _ => True := fun x hx => by
       obtain ⟨b, rfl⟩ := hx
       exact Yes.some (hk'' b trivial)
      apply hany
      cases s with
      | true => exact ⟨_, rfl⟩
      | false =>
       cases ((t : Int) != (i : Int)) <;> cases ((t : Int) != (j : Int)) <;> cases ((rn p t).Loom == (rn p i).Loom) <;> cases (decide ((rn p t).From > (rn p i).From)) <;> cases (decide ((rn p t).From < (rn p j).From)) <;> cases ((rn p t).From == (rn p j).From) <;> cases ((rn p t).From == (rn p i).From) <;> cases (decide ((rn p t).Order > (rn p i).Order)) <;> exact ⟨_, rfl⟩
     ·have h3 : decide ((p.length : Int) < (p.length : Int)) = false := by simp
      dsimp only
      refine Yes.jn ?_
      rw [h3, cond_false]
      exact Yes.some trivial
    ·have go := g.od (show i < l.length by omega)
     rw [a1, b1, idx_od (l := l) (by omega) (by omega), idx_od (l := l) (by omega) (by omega)]
     simp only [Option.bind_some]
     have hchain : gap m l i j = if (od l (i : Int)).Chain = (od l (j : Int)).Chain then 0 else m.Change := rfl
     have hg := gap_nn (l := l) hc.1 i j
     have hday : ∃ d, Option.bind (α := Bool) (bif !v then some ((od l (i : Int)).Chain != (od l (j : Int)).Chain) else some false) (fun t6 => bif t6 then some (w64 (w64 ((rn p i).From + (od l (i : Int)).Woven) + m.Change)) else some (w64 ((rn p i).From + (od l (i : Int)).Woven))) = some d ∧ d ≤ (rn p j).From := by
      rw [w64_id (show -9223372036854775808 ≤ (rn p i).From + (od l (i : Int)).Woven by omega) (by omega), w64_id (show -9223372036854775808 ≤ (rn p i).From + (od l (i : Int)).Woven + m.Change by omega) (by omega)]
      cases v with
      | true => exact ⟨_, rfl, by omega⟩
      | false =>
       by_cases c5 : (od l (i : Int)).Chain = (od l (j : Int)).Chain
       ·have e5 : ((od l (i : Int)).Chain != (od l (j : Int)).Chain) = false := by simp [c5]
        rw [e5]; exact ⟨_, rfl, by omega⟩
       ·have e5 : ((od l (i : Int)).Chain != (od l (j : Int)).Chain) = true := by simp [c5]
        rw [if_neg c5] at hchain
        rw [e5]; exact ⟨_, rfl, by omega⟩
     obtain ⟨d, hd, hdl⟩ := hday
     refine Yes.bindv _ hd ?_
     rw [decide_eq_false (show ¬ (rn p j).From < d by omega), cond_false]
     exact hk' trivial
   ·rw [decide_eq_true hsk, cond_true]
    exact hk' trivial
  ·have h2 : decide ((p.length : Int) < (p.length : Int)) = false := by simp
   refine Yes.jn ?_
   rw [h2, cond_false]
   exact hk trivial
 ·have h1 : decide ((p.length : Int) < (p.length : Int)) = false := by simp
  refine Yes.jn ?_
  rw [h1, cond_false]
  exact Yes.some rfl
theorem s41t {m : LoomMill} {l : List LoomOrder} {p : List LoomRun} (g : Good m l) (hs : SeqP p) (hn : p.length ≤ l.length) (h : HoldF m l p) : f41 m l p = some true := by
 have h44 := s44t g hs hn h
 obtain ⟨K, F, h⟩ := h
 have hl7 := g.l7
 refine Yes.eq ?_
 unfold f41
 refine Yes.jn ?_
 refine Yes.upto0 p.length (by omega) (fun _ => True) trivial (fun i kk hi _ hk => ?_) (fun kk _ => ?_)
 ·have h1 : decide ((i : Int) < (p.length : Int)) = true := decide_eq_true (Int.ofNat_lt.2 hi)
  obtain ⟨a1, a2, a3, a4, a5, a6⟩ := holdF_run g hs hn h hi
  have h3 := h.one i hi
  have hw := h3.w
  have he := h3.e
  have ht := h3.t
  have go := g.od h3.il
  refine Yes.jn ?_
  rw [h1, cond_true]
  refine Yes.jn ?_
  rw [idx_rn hi, Option.bind_some]
  refine Yes.jn ?_
  rw [decide_eq_false (show ¬ (rn p i).Order < 0 by omega), decide_eq_false (show ¬ (rn p i).Order ≥ (l.length : Int) by omega), decide_eq_false (show ¬ (rn p i).Loom < 0 by omega), decide_eq_false (show ¬ (rn p i).Loom ≥ (m.Widths.length : Int) by omega)]
  simp only [cond_false]
  have hp : (bif decide ((i : Int) > 0) then (idx p (w64 ((i : Int) - 1))).bind fun x4 => bif decide ((rn p i).Order ≤ x4.Order) then some true else some (decide ((rn p i).From > 1000)) else some (decide ((rn p i).From > 1000))) = some false := by
   rw [decide_eq_false (show ¬ (rn p i).From > 1000 by omega)]
   by_cases h0 : i = 0
   ·subst h0; rfl
   ·rw [decide_eq_true (show (i : Int) > 0 by omega), cond_true, w64_id (by omega) (by omega), show (i : Int) - 1 = ((i - 1 : Nat) : Int) by omega, idx_rn (by omega), Option.bind_some]
    have := hs (i - 1) (by omega)
    rw [decide_eq_false (show ¬ (rn p i).Order ≤ (rn p (i - 1)).Order by omega)]; rfl
  refine Yes.bindv _ hp ?_
  rw [cond_false]
  rw [a1, idx_od (l := l) (by omega) (by omega), Option.bind_some, a2, idx_wd (m := m) (by omega) (by omega), Option.bind_some, w64_id (by omega) (by omega), decide_eq_false (show ¬ (od l (i : Int)).Width > wd m (K i) by omega), decide_eq_false (show ¬ (rn p i).From < (od l (i : Int)).Early by omega), decide_eq_false (show ¬ (rn p i).From + (od l (i : Int)).Woven > (od l (i : Int)).Late by omega)]
  exact hk trivial
 ·have h1 : decide ((p.length : Int) < (p.length : Int)) = false := by simp
  refine Yes.jn ?_
  rw [h1, cond_false]
  dsimp only
  rw [h44]
  exact Yes.some rfl
theorem holdsV_of {m : LoomMill} {l : List LoomOrder} {p : List LoomRun} (h : (holdsV m l p).2 = 0) (hl : p.length ≤ l.length) : holdsV m l p = (0, 0) := by
 have h0 := (holds_zero hl).1 h
 unfold holdsV
 rw [if_neg (by omega)]
 have e1 : (List.range p.length).find? (fun i => decide (oneE m l p i ≠ 0)) = none := find_none.2 fun i hi => by simp [h0.1 i hi]
 have e2 : (List.range p.length).find? (fun i => decide (soonP m l p i)) = none := find_none.2 fun i hi => decide_eq_false (h0.2 i hi)
 rw [e1]
 simp only
 rw [e2]
theorem cpl_of {m : LoomMill} {l : List LoomOrder} {p : List LoomRun} (h : HoldF m l p) (hn : p.length = l.length) : Cpl m l p := (cpl_full hn).2 h
theorem tog_of_cpl {m : LoomMill} {l : List LoomOrder} (g : Good m l) (h : Cpl m l []) {s : Nat} (hs : s < 2 ^ l.length) : TogP m l ng (allL m) s := by
 obtain ⟨K, F, h⟩ := h
 have hw3 := g.w3
 have hpw := pow7 (show m.Widths.length ≤ 7 by omega)
 refine ⟨K, F, h.mono (fun i hi => bit_lt hs hi) fun i hi ha => ⟨?_, fun r hr => by cases hr⟩⟩
 refine (mem_nums (lt128_62 (by omega))).2 ?_
 rw [all_bit]
 exact decide_eq_true (h.one i (bit_lt hs hi)).kw
theorem best_zero {P : Nat → Prop} (h0 : P 0) : ∀ n, 0 < n → best P n = some 0
 | 0, h => absurd h (Nat.lt_irrefl _)
 | 1, _ => by
  unfold best
  rw [if_pos ⟨h0, fun b hb => by cases hb⟩]
 | n + 2, _ => by
  have ih := best_zero h0 (n + 1) (by omega)
  unfold best
  rw [ih, if_neg]
  rintro ⟨_, h⟩
  have h1 := h 0 rfl
  have h2 : nums 0 = [] := by unfold nums; simp
  unfold lessS at h1
  rw [h2] at h1
  rcases h1 with h1 | h1
  ·simp at h1
  ·obtain ⟨i, a, b, _, h3, _⟩ := h1.2
   simp at h3
theorem nums_zero : nums 0 = [] := by unfold nums; simp
theorem or_back {s : Nat} (hs : s < 2 ^ 62) {t : Nat} (ht : t < 2 ^ 62) (h : ∀ i, t.testBit i = true ↔ ∃ j, ∃ hj : j < (nums s).length, (nums s)[j] = (i : Int)) : t = s := by
 apply Nat.eq_of_testBit_eq
 intro i
 rw [Bool.eq_iff_iff, h, ← mem_nums hs]
 constructor
 ·rintro ⟨j, hj, he⟩
  rw [← he]; exact List.getElem_mem hj
 ·intro hm
  obtain ⟨j, hj, he⟩ := List.getElem_of_mem hm
  exact ⟨j, hj, he⟩
end Go.Proofs.Ytnfjhdagbknlbaa
