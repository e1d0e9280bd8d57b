/- The mill, orders and plan that are made out of bytes. -/
import Derived.Test.YtnfjhdagbknlbaaLawAC
set_option maxRecDepth 8000
namespace Go.Proofs.Ytnfjhdagbknlbaa
open Go.RowKit
open Classical

theorem rem_nat {a b : Int} (ha : 0 ≤ a) (hb : 0 < b) : ∃ r, rem64 a b = some r ∧ 0 ≤ r ∧ r < b := by
 unfold rem64
 rw [if_neg (by omega), Int.tmod_eq_emod_of_nonneg ha]
 exact ⟨_, rfl, Int.emod_nonneg _ (by omega), Int.emod_lt_of_pos _ hb⟩
theorem quo_nat {a : Int} (ha : 0 ≤ a) (ha2 : a ≤ 1000) : ∃ r, quo64 a 3 = some r ∧ 0 ≤ r := by
 unfold quo64
 rw [if_neg (by decide), Int.tdiv_eq_ediv_of_nonneg ha]
 have h1 : 0 ≤ a / 3 := Int.ediv_nonneg ha (by decide)
 have h2 : a / 3 ≤ 1000 := by omega
 exact ⟨_, rfl, by rw [w64_id (by omega) (by omega)]; exact h1⟩
def rv (v : Vector Int 3) (k : Nat) : Int := if h : k < 3 then v[k] else 0
theorem rv_idx {v : Vector Int 3} {k : Nat} (h : k < 3) : idx v.toList (k : Int) = some (rv v k) := by rw [idx_vec h]; unfold rv; rw [dif_pos h]
theorem rv_set {v : Vector Int 3} {k k' : Nat} {y : Int} (h' : k' < 3) : rv (vset v (k : Int) y) k' = if k' = k then y else rv v k' := by
 unfold rv vset
 rw [dif_pos h', dif_pos h']
 simp only [Int.toNat_natCast, Vector.getElem_setIfInBounds]
 by_cases hk : k = k'
 ·subst hk; simp
 ·simp [hk, Ne.symm hk]
structure MadeI (m : LoomMill) (i : Nat) (l : List LoomOrder) (p : List LoomRun) (rd ch : Nat → Int) : Prop where
 ll : l.length = i
 pl : p.length = i
 ord : ∀ j, j < i → (1 ≤ (od l j).Width ∧ (od l j).Width ≤ 100) ∧ (0 ≤ (od l j).Chain ∧ (od l j).Chain ≤ 2) ∧ (1 ≤ (od l j).Woven ∧ (od l j).Woven ≤ 15) ∧ 0 ≤ (od l j).Early ∧ (od l j).Late ≤ 22 * i + 8
 run : ∀ j, j < i → (rn p j).Order = (j : Int) ∧ ∃ k : Nat, (rn p j).Loom = (k : Int) ∧ k < m.Widths.length ∧ (od l j).Width ≤ wd m k ∧ (od l j).Early ≤ (rn p j).From ∧ (rn p j).From + (od l j).Woven ≤ (od l j).Late ∧ 0 ≤ (rn p j).From ∧ (rn p j).From + (od l j).Woven ≤ 22 * i
 bnd : ∀ k, k < m.Widths.length → 0 ≤ rd k ∧ rd k ≤ 22 * i ∧ -1 ≤ ch k ∧ ch k ≤ 2
 lst : ∀ j k : Nat, j < i → (rn p j).Loom = (k : Int) → ∀ c, (rn p j).From + (od l j).Woven + (if (od l j).Chain = c then 0 else m.Change) ≤ rd k + (if 0 ≤ ch k ∧ ch k ≠ c then m.Change else 0)
 sep : ∀ j j' : Nat, j < j' → j' < i → (rn p j).Loom = (rn p j').Loom → (rn p j).From + (od l j).Woven + gap m l j j' ≤ (rn p j').From
theorem od_app {l : List LoomOrder} {x : LoomOrder} {j : Nat} (h : j ≤ l.length) : od (l ++ [x]) (j : Int) = if j = l.length then x else od l (j : Int) := by
 unfold od
 rw [Int.toNat_natCast]
 split
 ·rename_i he; subst he; simp
 ·rw [List.getElem?_append_left (by omega)]
theorem rn_app {p : List LoomRun} {r : LoomRun} {j : Nat} : rn (p ++ [r]) j = if j = p.length then r else rn p j := by
 have h1 := pg_app (p := p) (r := r) (i := j)
 unfold pg at h1
 unfold rn
 rw [h1]
 split <;> rfl
theorem MadeI.step {m : LoomMill} {i : Nat} {l : List LoomOrder} {p : List LoomRun} {rd ch rd' ch' : Nat → Int} (h : MadeI m i l p rd ch) (hc : 0 ≤ m.Change ∧ m.Change ≤ 5) (hw3 : m.Widths.length ≤ 3) {k : Nat} (hk : k < m.Widths.length)
    {wi c wo ex e la from' : Int} (hwi : 1 ≤ wi ∧ wi ≤ wd m k) (hwi2 : wd m k ≤ 100) (hcc : 0 ≤ c ∧ c ≤ 2) (hwo : 1 ≤ wo ∧ wo ≤ 15) (hex : 0 ≤ ex ∧ ex ≤ 2) (hfrom : from' = rd k + ex + (if 0 ≤ ch k ∧ ch k ≠ c then m.Change else 0)) (he : 0 ≤ e ∧ e ≤ from') (hla : from' + wo ≤ la ∧ la ≤ from' + wo + 8)
    (hrd : ∀ k', k' < m.Widths.length → rd' k' = if k' = k then from' + wo else rd k') (hch : ∀ k', k' < m.Widths.length → ch' k' = if k' = k then c else ch k') :
    MadeI m (i + 1) (l ++ [⟨wi, c, wo, e, la⟩]) (p ++ [⟨(i : Int), (k : Int), from'⟩]) rd' ch' := by
  have hbk := h.bnd k hk
  have hfb : rd k ≤ from' ∧ from' ≤ 22 * i + 7 := by
    split at hfrom <;> omega
  have hod : ∀ j : Nat, j < i + 1 → od (l ++ [⟨wi, c, wo, e, la⟩]) (j : Int) = if j = i then ⟨wi, c, wo, e, la⟩ else od l (j : Int) := fun j hj => by
    have := od_app (l := l) (x := ⟨wi, c, wo, e, la⟩) (j := j) (by have := h.ll; omega)
    rw [this, h.ll]
  have hrn : ∀ j : Nat, rn (p ++ [⟨(i : Int), (k : Int), from'⟩]) j = if j = i then ⟨(i : Int), (k : Int), from'⟩ else rn p j := fun j => by rw [rn_app, h.pl]
  refine ⟨by simp [h.ll], by simp [h.pl], fun j hj => ?_, fun j hj => ?_, fun k' hk' => ?_, fun j k' hj hlo c' => ?_, fun j j' hjj hj' hlo => ?_⟩
  · rw [hod j hj]
    split
    · simp only; omega
    · rename_i hne
      have := h.ord j (by omega)
      omega
  · rw [hod j hj, hrn j]
    split
    · rename_i hje
      exact ⟨by simp [hje], k, rfl, hk, hwi.2, he.2, hla.1, by simp only; omega, by simp only; omega⟩
    · rename_i hne
      obtain ⟨h1, k', h2, h3, h4, h5, h6, h7, h8⟩ := h.run j (by omega)
      exact ⟨h1, k', h2, h3, h4, h5, h6, h7, by omega⟩
  · rw [hrd k' hk', hch k' hk']
    have := h.bnd k' hk'
    split <;> omega
  · have hkk : k' < m.Widths.length := by
      rw [hrn j] at hlo
      split at hlo
      · have : (k : Int) = k' := hlo
        omega
      · obtain ⟨_, k2, h2, h3, _⟩ := h.run j (by omega)
        have : (k2 : Int) = k' := h2.symm.trans hlo
        omega
    rw [hrd k' hkk, hch k' hkk]
    rw [hrn j] at hlo
    rw [hod j hj, hrn j]
    by_cases hje : j = i
    · rw [if_pos hje] at hlo
      have hk2 : k' = k := by have : (k : Int) = k' := hlo
                              omega
      rw [if_pos hje, if_pos hje, if_pos hk2, if_pos hk2]
      simp only [hcc.1, true_and]
      by_cases hcc' : c = c'
      · simp [hcc']
      · simp [hcc']
    · rw [if_neg hje] at hlo
      rw [if_neg hje, if_neg hje]
      have h1 := h.lst j k' (by omega) hlo
      by_cases hk2 : k' = k
      · subst hk2
        rw [if_pos rfl, if_pos rfl]
        have h2 := h1 c
        have h3 : (rn p j).From + (od l j).Woven + (if (od l j).Chain = c then 0 else m.Change) ≤ from' := by omega
        have hoj := h.ord j (by omega)
        by_cases hc1 : (od l j).Chain = c
        · rw [if_pos hc1] at h3
          rw [hc1]
          by_cases hc2 : c = c'
          · simp [hc2]; omega
          · simp [hc2, hcc.1]; omega
        · rw [if_neg hc1] at h3
          have h5 : (if (od l j).Chain = c' then 0 else m.Change) ≤ m.Change := by split <;> omega
          have h6 : 0 ≤ (if 0 ≤ c ∧ c ≠ c' then m.Change else 0) := by split <;> omega
          omega
      · rw [if_neg hk2, if_neg hk2]; exact h1 c'
  · have hg : gap m (l ++ [⟨wi, c, wo, e, la⟩]) j j' = if (od (l ++ [⟨wi, c, wo, e, la⟩]) (j : Int)).Chain = (od (l ++ [⟨wi, c, wo, e, la⟩]) (j' : Int)).Chain then 0 else m.Change := rfl
    rw [hg, hod j (by omega), hod j' hj', hrn j, hrn j', if_neg (show ¬ j = i by omega), if_neg (show ¬ j = i by omega)]
    rw [hrn j, hrn j', if_neg (show ¬ j = i by omega)] at hlo
    by_cases hje : j' = i
    · rw [if_pos hje, if_pos hje]
      rw [if_pos hje] at hlo
      have h2 := h.lst j k (by omega) hlo c
      simp only
      omega
    · rw [if_neg hje, if_neg hje]
      rw [if_neg hje] at hlo
      exact h.sep j j' hjj (by omega) hlo
structure Made (m : LoomMill) (l : List LoomOrder) (p : List LoomRun) : Prop where
 ok : chkE m l = 0
 n : p.length = l.length
 seq : SeqP p
 fits : HoldF m l p
 c5 : m.Change ≤ 5
 w15 : ∀ j : Nat, j < l.length → (od l j).Woven ≤ 15
 b : ∀ j, j < p.length → (rn p j).From + (od l j).Woven ≤ 154
 w29 : ∀ x ∈ m.Widths, x ≤ 29
theorem MadeI.made {m : LoomMill} {i : Nat} {l : List LoomOrder} {p : List LoomRun} {rd ch : Nat → Int} (h : MadeI m i l p rd ch) (hi : i ≤ 7) (hc : 0 ≤ m.Change ∧ m.Change ≤ 5) (hw1 : 0 < m.Widths.length) (hw3 : m.Widths.length ≤ 3) (hw : ∀ x ∈ m.Widths, 10 ≤ x ∧ x ≤ 29) : Made m l p := by
 have hll := h.ll
 have hpl := h.pl
 have hget : ∀ x ∈ l, ∃ j : Nat, j < i ∧ x = od l (j : Int) := fun x hx => by
  obtain ⟨j, hj, rfl⟩ := List.getElem_of_mem hx
  exact ⟨j, by omega, by unfold od; rw [Int.toNat_natCast, List.getElem?_eq_getElem hj]; rfl⟩
 refine ⟨?_, by omega, fun j hj => (h.run j (by omega)).1, ⟨fun j => (rn p j).Loom.toNat, fun j => (rn p j).From, fun j hj => ?_, fun j j' hj hj' hne hk hle => ?_⟩, hc.2, fun j hj => (h.ord j (by omega)).2.2.1.2, fun j hj => ?_, fun x hx => (hw x hx).2⟩
 ·unfold chkE
  rw [if_neg (by omega), if_pos]
  refine ⟨by omega, List.all_eq_true.2 fun x hx => btw_iff.2 (by have := hw x hx; omega), btw_iff.2 (by omega), List.all_eq_true.2 fun x hx => ?_⟩
  obtain ⟨j, hj, rfl⟩ := hget x hx
  have h1 := h.ord j hj
  obtain ⟨_, _, _, _, _, h5, h6, _, _⟩ := h.run j hj
  simp only [ordOk, Bool.and_eq_true, btw_iff]
  omega
 ·obtain ⟨h1, k, h2, h3, h4, h5, h6, h7, h8⟩ := h.run j (by omega)
  have hk : (rn p j).Loom.toNat = k := by omega
  rw [hk]
  refine ⟨by omega, h3, fun r hr => ?_, h4, h5, h6⟩
  rw [pg_rn hj] at hr
  cases hr
  exact ⟨h2, rfl⟩
 ·obtain ⟨_, k, h2, _, _, _, _, _, _⟩ := h.run j (by omega)
  obtain ⟨_, k', h2', _, _, _, _, _, _⟩ := h.run j' (by omega)
  have hlo : (rn p j).Loom = (rn p j').Loom := by omega
  by_cases hlt : j < j'
  ·exact h.sep j j' hlt (by omega) hlo
  ·have h3 := h.sep j' j (by omega) (by omega) hlo.symm
   have h4 := (h.ord j' (by omega)).2.2.1.1
   have h5 := gap_nn (l := l) hc.1 j' j
   omega
 ·obtain ⟨_, k, _, _, _, _, _, _, h8⟩ := h.run j (by omega)
  omega
theorem apnd8 {xs : List Int} {y : Int} (h : xs.length ≤ 1000) : apnd 8 xs [y] = some (xs ++ [y]) := apnd1 rfl h
theorem apnd40 {xs : List LoomOrder} {y : LoomOrder} (h : xs.length ≤ 1000) : apnd 40 xs [y] = some (xs ++ [y]) := by
 unfold apnd; rw [if_pos ⟨by simp; omega, by simp; omega⟩]
theorem u8_nn (c : UInt8) : 0 ≤ (c.toNat : Int) ∧ (c.toNat : Int) ≤ 255 := ⟨Int.natCast_nonneg _, by have := c.toNat_lt; omega⟩
theorem s39 (x : Hall) : Yes (f39 x) fun r => Made r.1 r.2.1 r.2.2 := by
 unfold f39
 obtain ⟨y5, hy5, h50, h55⟩ := rem_nat (u8_nn x.Change).1 (show (0 : Int) < 6 by decide)
 obtain ⟨n3, hn3, h30, h33⟩ := rem_nat (u8_nn x.Looms).1 (show (0 : Int) < 3 by decide)
 rw [hy5, Option.bind_some]
 refine Yes.bind ?_
 obtain ⟨nw, hnw⟩ : ∃ nw : Nat, n3 = (nw : Int) := ⟨n3.toNat, by omega⟩
 refine Yes.upto (σ := LoomMill) (nw + 1) (by omega) (fun i m => m.Change = y5 ∧ m.Widths.length = i ∧ ∀ w ∈ m.Widths, 10 ≤ w ∧ w ≤ 29) ⟨rfl, rfl, fun w hw => by cases hw⟩ (fun i m k hi hI hk => ?_) (fun m k hI => ?_)
 ·dsimp only
  refine Yes.jn ?_
  have h1 : decide ((i : Int) ≤ n3) = true := decide_eq_true (by omega)
  rw [hn3, Option.bind_some, h1, cond_true]
  dsimp only
  rw [idx_vec (show i < 3 by omega), Option.bind_some]
  obtain ⟨z, hz, hz0, hz20⟩ := rem_nat (u8_nn (x.Widths[i]'(by omega))).1 (show (0 : Int) < 20 by decide)
  rw [hz, Option.bind_some, apnd8 (by have := hI.2.1; omega), Option.bind_some, w64_id (by omega) (by omega)]
  refine Yes.bind (Yes.some (hk _ ⟨hI.1, by simp [hI.2.1], fun w hw => ?_⟩))
  rcases List.mem_append.1 hw with hw | hw
  ·exact hI.2.2 w hw
  ·rw [List.mem_singleton] at hw; omega
 ·dsimp only
  refine Yes.jn ?_
  have h1 : decide (((nw + 1 : Nat) : Int) ≤ n3) = false := decide_eq_false (by omega)
  rw [hn3, Option.bind_some, h1, cond_false]
  obtain ⟨hm1, hm2, hm3⟩ := hI
  refine Yes.some (Yes.bind ?_)
  have hwb : ∀ k, k < m.Widths.length → 10 ≤ wd m k ∧ wd m k ≤ 29 := fun k hk => hm3 _ (by unfold wd; rw [Int.toNat_natCast, List.getElem?_eq_getElem hk]; exact List.getElem_mem hk)
  refine Yes.rng (σ := List LoomOrder × List LoomRun × Vector Int 3 × Vector Int 3) (fun s i => (s.1, s.2.1, s.2.2.1, s.2.2.2, (i : Int))) 0 (min x.Orders.length 7) (fun i s => MadeI m i s.1 s.2.1 (rv s.2.2.1) (rv s.2.2.2)) ([], [], _, _) rfl (Nat.zero_le _) (by omega) ?_ (fun i s k _ hi hI hk => ?_) (fun s k hI => ?_)
  ·refine ⟨rfl, rfl, fun j h => absurd h (Nat.not_lt_zero _), fun j h => absurd h (Nat.not_lt_zero _), fun k hk => ?_, fun j k h => absurd h (Nat.not_lt_zero _), fun j j' _ h => absurd h (Nat.not_lt_zero _)⟩
   have : k = 0 ∨ k = 1 ∨ k = 2 := by omega
   rcases this with rfl | rfl | rfl <;> simp [rv]
  ·obtain ⟨l, p, rd, ch⟩ := s
   simp only at hI hk
   dsimp only
   refine Yes.jn ?_
   have h1 : decide ((i : Int) < (x.Orders.length : Int)) = true := decide_eq_true (by omega)
   have h2 : decide ((i : Int) < 7) = true := decide_eq_true (by omega)
   rw [h1, cond_true, h2, Option.bind_some, cond_true]
   dsimp only
   rw [idx_at (show i < x.Orders.length by omega), Option.bind_some]
   generalize x.Orders[i]'(by omega) = v
   obtain ⟨kk, hkk, hk0, hk1⟩ := rem_nat (u8_nn v[0]).1 (show (0 : Int) < (m.Widths.length : Int) by omega)
   obtain ⟨kn, rfl⟩ : ∃ kn : Nat, kk = (kn : Int) := ⟨kk.toNat, by omega⟩
   have hkn : kn < m.Widths.length := by omega
   have hwk := hwb kn hkn
   rw [hkk, Option.bind_some, idx_wd (m := m) (by omega) (by omega), Option.bind_some]
   obtain ⟨a1, ha1, ha10, ha11⟩ := rem_nat (u8_nn v[1]).1 (show (0 : Int) < wd m kn by omega)
   obtain ⟨a2, ha2, ha20, ha21⟩ := rem_nat (u8_nn v[2]).1 (show (0 : Int) < 3 by decide)
   obtain ⟨a3, ha3, ha30, ha31⟩ := rem_nat (u8_nn v[3]).1 (show (0 : Int) < 15 by decide)
   obtain ⟨q, hq, hq0⟩ := quo_nat (u8_nn v[0]).1 (by have := (u8_nn v[0]).2; omega)
   obtain ⟨a0, ha0, ha00, ha01⟩ := rem_nat hq0 (show (0 : Int) < 3 by decide)
   obtain ⟨a4, ha4, ha40, ha41⟩ := rem_nat (u8_nn v[4]).1 (show (0 : Int) < 9 by decide)
   obtain ⟨a5, ha5, ha50, ha51⟩ := rem_nat (u8_nn v[5]).1 (show (0 : Int) < 9 by decide)
   rw [ha1, Option.bind_some, ha2, Option.bind_some, ha3, Option.bind_some, rv_idx (show kn < 3 by omega), Option.bind_some, hq, Option.bind_some, ha0, Option.bind_some]
   have hb := hI.bnd kn hkn
   have hll := hI.ll
   have hpl := hI.pl
   have hday : (Option.bind (α := Bool) ((idx ch.toList (kn : Int)).bind fun k6 => bif decide (k6 ≥ (0 : Int)) then (idx ch.toList (kn : Int)).bind fun j8 => some (j8 != a2) else some false)
     fun m6 => bif m6 then some (w64 (w64 (rv rd kn + a0) + m.Change)) else some (w64 (rv rd kn + a0))) = some (rv rd kn + a0 + (if 0 ≤ rv ch kn ∧ rv ch kn ≠ a2 then m.Change else 0)) := by
    rw [rv_idx (show kn < 3 by omega)]
    simp only [Option.bind_some]
    rw [w64_id (show -9223372036854775808 ≤ rv rd kn + a0 by omega) (by omega), w64_id (show -9223372036854775808 ≤ rv rd kn + a0 + m.Change by omega) (by omega)]
    by_cases h3 : rv ch kn ≥ 0
    ·have h3' : 0 ≤ rv ch kn := h3
     rw [decide_eq_true h3]
     simp only [cond_true, Option.bind_some, h3', true_and]
     by_cases h4 : rv ch kn = a2
     ·have : (rv ch kn != a2) = false := by simp [h4]
      rw [this, if_neg (by simp [h4])]; simp
     ·have : (rv ch kn != a2) = true := by simp [h4]
      rw [this, if_pos h4]; rfl
    ·have h3' : ¬ 0 ≤ rv ch kn := h3
     rw [decide_eq_false h3]
     simp only [cond_false, Option.bind_some, h3', false_and, if_false]
     simp
   refine Yes.bind (Yes.bindv _ hday ?_)
   have hfrom : 0 ≤ rv rd kn + a0 + (if 0 ≤ rv ch kn ∧ rv ch kn ≠ a2 then m.Change else 0) ∧ rv rd kn + a0 + (if 0 ≤ rv ch kn ∧ rv ch kn ≠ a2 then m.Change else 0) ≤ 1000 := by split <;> omega
   generalize hfe : rv rd kn + a0 + (if 0 ≤ rv ch kn ∧ rv ch kn ≠ a2 then m.Change else 0) = from' at hfrom
   rw [ha4, Option.bind_some, ha5, Option.bind_some, apnd40 (by omega), Option.bind_some]
   unfold f46
   rw [Option.bind_some, apnd24' (by omega) (by simp), Option.bind_some, rv_idx (show kn < 3 by omega), Option.bind_some, Option.bind_some, max_or, w64_id (show -9223372036854775808 ≤ (1 : Int) + a1 by omega) (by omega), w64_id (show -9223372036854775808 ≤ (1 : Int) + a3 by omega) (by omega),
    w64_id (show -9223372036854775808 ≤ from' - a4 by omega) (by omega), w64_id (show -9223372036854775808 ≤ from' + (1 + a3) by omega) (by omega), w64_id (show -9223372036854775808 ≤ from' + (1 + a3) + a5 by omega) (by omega), w64_succ (by omega)]
   refine Yes.some (hk (_, _, _, _) ?_)
   exact hI.step ⟨by omega, by omega⟩ (by omega) hkn ⟨by omega, by omega⟩ (by omega) ⟨ha20, by omega⟩ ⟨by omega, by omega⟩ (ex := a0) ⟨ha00, by omega⟩ hfe.symm ⟨by omega, by omega⟩ ⟨by omega, by omega⟩ (fun k' hk' => rv_set (by omega)) fun k' hk' => rv_set (by omega)
  ·obtain ⟨l, p, rd, ch⟩ := s
   simp only at hI
   dsimp only
   refine Yes.jn ?_
   have h2 : (bif decide (((min x.Orders.length 7 : Nat) : Int) < (x.Orders.length : Int)) then some (decide (((min x.Orders.length 7 : Nat) : Int) < 7)) else some false) = some false := by
    by_cases h : x.Orders.length ≤ 7
    ·rw [decide_eq_false (show ¬ ((min x.Orders.length 7 : Nat) : Int) < (x.Orders.length : Int) by omega)]; rfl
    ·rw [decide_eq_true (show ((min x.Orders.length 7 : Nat) : Int) < (x.Orders.length : Int) by omega), decide_eq_false (show ¬ ((min x.Orders.length 7 : Nat) : Int) < 7 by omega)]; rfl
   refine Yes.bindv _ h2 ?_
   rw [cond_false]
   exact Yes.some (Yes.some (hI.made (by omega) ⟨by omega, by omega⟩ (by omega) (by omega) fun w hw => hm3 w hw))
end Go.Proofs.Ytnfjhdagbknlbaa
