/- Easier: what is made easier leaves no more orders out. LoomEasier. -/
import Derived.Test.YtnfjhdagbknlbaaLawAK
set_option maxRecDepth 8000
namespace Go.Proofs.Ytnfjhdagbknlbaa
open Go.RowKit
open Classical

theorem chk_good {m : LoomMill} {l : List LoomOrder} (g : Good m l) : chkE m l = 0 := by
 have h1 := g.w1
 have h2 := g.w3
 have h3 := g.l7
 unfold chkE
 rw [if_neg (by omega), if_pos]
 refine ⟨by omega, List.all_eq_true.2 fun x hx => btw_iff.2 (g.w x hx), btw_iff.2 g.c, List.all_eq_true.2 fun x hx => ?_⟩
 have := g.o x hx
 simp only [ordOk, Bool.and_eq_true, btw_iff]
 omega
def OrdP (x : LoomOrder) : Prop := (1 ≤ x.Width ∧ x.Width ≤ 100) ∧ (0 ≤ x.Chain ∧ x.Chain ≤ 100) ∧ (1 ≤ x.Woven ∧ x.Woven ≤ 100) ∧ (0 ≤ x.Early ∧ x.Early ≤ 300) ∧ (0 ≤ x.Late ∧ x.Late ≤ 300)
theorem late_loop {m : LoomMill} {l : List LoomOrder} (g : Good m l) (x1 : Vector UInt8 7) : Yes (lp (σ := (List LoomOrder) × Int) (fun yM (jB, j6) =>
   jn (σ := Unit) (fun _ =>
    Option.bind (α := (List LoomOrder)) (
     (idx jB j6).bind fun y125 =>
     (idx (x1).toList j6).bind fun iF =>
     (rem64 ((iF).toNat : Int) (20 : Int)).bind fun y132 =>
     (idx jB j6).bind fun xI =>
     some ((List.set jB (Int.toNat j6) ({ xI with Late := (max64 (0 : Int) (w64 ((y125).Late - y132))) })))
     ) fun mD =>
    yM (mD, (w64 (j6 + (1 : Int))))
    ) fun zM =>
   bif (decide (j6 < ((jB).length : Int))) then
    zM ()
   else
    some (jB)
   ) big (l, (0 : Int))) (fun q => Good m q) := by
  have hl7 := g.l7
  refine Yes.upto (σ := List LoomOrder) l.length (by omega) (fun _ q => q.length = l.length ∧ ∀ x ∈ q, OrdP x) ⟨rfl, g.o⟩ (fun i q k hi hI hk => ?_) (fun q k hI => ?_)
  · have hlen := hI.1
    have h1 : decide ((i : Int) < (q.length : Int)) = true := decide_eq_true (Int.ofNat_lt.2 (by omega))
    obtain ⟨r, hr, hr0, hr1⟩ := rem_nat (a := (((x1.toList[i]'(by simp; omega)).toNat : Nat) : Int)) (b := 20) (by omega) (by omega)
    have hx := hI.2 _ (od_mem (l := q) (x := (i : Int)) (by omega) (by omega))
    obtain ⟨a1, a2, a3, a4, a5⟩ := hx
    dsimp only
    refine Yes.jn ?_
    rw [h1, cond_true]
    dsimp only
    rw [idx_od (l := q) (by omega) (by omega), idx_at (show i < x1.toList.length by simp; omega)]
    simp only [Option.bind_some, hr]
    rw [w64_id (show -9223372036854775808 ≤ (od q (i : Int)).Late - r by omega) (by omega)]
    refine hk _ ⟨by simp [hlen], fun x hx => ?_⟩
    rcases List.mem_or_eq_of_mem_set hx with h | rfl
    · exact hI.2 x h
    · refine ⟨a1, a2, a3, a4, ?_⟩
      simp only [max64]
      split <;> omega
  · have h1 : decide ((l.length : Int) < (q.length : Int)) = false := by rw [hI.1]; simp
    dsimp only
    refine Yes.jn ?_
    rw [h1, cond_false]
    exact Yes.some ⟨g.w1, g.w3, by rw [hI.1]; exact hl7, g.w, g.c, hI.2⟩
structure Easy (m m' : LoomMill) (l l' : List LoomOrder) : Prop where
 n : l'.length = l.length
 w : ∀ k : Nat, k < m.Widths.length → k < m'.Widths.length ∧ wd m k ≤ wd m' k
 c : m'.Change ≤ m.Change
 o : ∀ i : Nat, i < l.length → (od l' i).Width = (od l i).Width ∧ (od l' i).Chain = (od l i).Chain ∧ (od l' i).Woven = (od l i).Woven ∧ (od l' i).Early ≤ (od l i).Early ∧ (od l i).Late ≤ (od l' i).Late
theorem tog_easy {m m' : LoomMill} {l l' : List LoomOrder} (g' : Good m' l') (E : Easy m m' l l') {s : Nat} (h : TogP m l ng (allL m) s) : TogP m' l' ng (allL m') s := by
 obtain ⟨K, F, h⟩ := h
 have hw3 := g'.w3
 refine ⟨K, F, fun i hi => ?_, fun i j hi hj hne hk hle => ?_⟩
 ·have h1 := h.one i hi
  have hil := h1.il
  obtain ⟨hk, hwd⟩ := E.w _ h1.kw
  obtain ⟨o1, o2, o3, o4, o5⟩ := E.o i hil
  have a1 := h1.w
  have a2 := h1.e
  have a3 := h1.t
  refine ⟨by rw [E.n]; exact hil, hk, ⟨(mem_nums (lt128_62 (by have := pow7 (n := m'.Widths.length) (by omega); omega))).2 ?_, fun r hr => by cases hr⟩, by omega, by omega, by omega⟩
  rw [all_bit]; exact decide_eq_true hk
 ·have h1 := h.sep i j hi hj hne hk hle
  obtain ⟨o1, o2, o3, _, _⟩ := E.o i (h.one i hi).il
  obtain ⟨p1, p2, p3, _, _⟩ := E.o j (h.one j hj).il
  have hc := E.c
  have hc0 := g'.c.1
  unfold gap at h1 ⊢
  rw [o2, p2]
  split at h1 <;> rename_i hh
  ·rw [if_pos hh]; omega
  ·rw [if_neg hh]; omega
theorem left_le {m' : LoomMill} {l' : List LoomOrder} (g' : Good m' l') {t s' : Nat} (hs : s' < 2 ^ l'.length) (hL : LfP m' l' s') (hn : (nums s').length ≤ (nums t).length) :
  ∃ t', best (LfP m' l') (2 ^ l'.length) = some t' ∧ (nums t').length ≤ (nums t).length := by
 obtain ⟨t', ht'⟩ := lf_some g'
 exact ⟨t', ht', Nat.le_trans (best_min ht' s' hs hL) hn⟩
theorem left_easy {m m' : LoomMill} {l l' : List LoomOrder} (g' : Good m' l') (E : Easy m m' l l') {t : Nat} (ht : best (LfP m l) (2 ^ l.length) = some t) :
  ∃ t', best (LfP m' l') (2 ^ l'.length) = some t' ∧ (nums t').length ≤ (nums t).length := by
 obtain ⟨h1, h2⟩ := best_lt ht
 refine left_le g' (by rw [E.n]; exact h1) ?_ (Nat.le_refl _)
 unfold LfP at h2 ⊢
 rw [E.n]
 exact tog_easy g' E h2
/-! ### An order less -/
def shf (k i : Nat) : Nat := if i < k then i else i + 1
theorem od_erase {l : List LoomOrder} {k : Nat} (i : Nat) : od (l.eraseIdx k) i = od l (shf k i) := by
 unfold od shf
 rw [Int.toNat_natCast, Int.toNat_natCast, List.getElem?_eraseIdx]
 split <;> rfl
theorem range_shf {n k : Nat} (hk : k < n) : (List.range (n - 1)).map (shf k) = (List.range n).eraseIdx k := by
 apply List.ext_getElem?
 intro i
 rw [List.getElem?_eraseIdx, List.getElem?_map]
 unfold shf
 by_cases hi : i < n - 1
 ·rw [List.getElem?_range hi]
  by_cases hik : i < k
  ·rw [if_pos hik, List.getElem?_range (by omega)]; simp [hik]
  ·rw [if_neg hik, List.getElem?_range (by omega)]; simp [hik]
 ·rw [List.getElem?_eq_none (by simp; omega)]
  by_cases hik : i < k
  ·omega
  ·rw [if_neg hik, List.getElem?_eq_none (by simp; omega)]; rfl
theorem left_erase {m : LoomMill} {l : List LoomOrder} (g : Good m l) {k : Nat} (hk : k < l.length) {t : Nat} (ht : best (LfP m l) (2 ^ l.length) = some t) :
  Good m (l.eraseIdx k) ∧ ∃ t', best (LfP m (l.eraseIdx k)) (2 ^ (l.eraseIdx k).length) = some t' ∧ (nums t').length ≤ (nums t).length := by
 have hl7 := g.l7
 have hlen : (l.eraseIdx k).length = l.length - 1 := by rw [List.length_eraseIdx, if_pos hk]
 have g' : Good m (l.eraseIdx k) := ⟨g.w1, g.w3, by omega, g.w, g.c, fun x hx => g.o x (List.mem_of_mem_eraseIdx hx)⟩
 refine ⟨g', ?_⟩
 obtain ⟨h1, h2⟩ := best_lt ht
 obtain ⟨s, hs1, hs2⟩ := set_of (l.length - 1) (fun i => i < l.length - 1 ∧ t.testBit (shf k i) = true) (fun i h => h.1)
 have hp := pow7 hl7
 have hp2 := pow7 (show l.length - 1 ≤ 7 by omega)
 refine left_le g' (s' := s) (by rw [hlen]; exact hs1) ?_ ?_
 ·unfold LfP at h2 ⊢
  obtain ⟨K, F, h⟩ := h2
  have hbit : ∀ i, (dif (2 ^ (l.eraseIdx k).length - 1) s).testBit i = true → (dif (2 ^ l.length - 1) t).testBit (shf k i) = true := fun i hi => by
   rw [dif_bit (lt128_62 (by rw [hlen]; omega)) (lt128_62 (by omega)), all_bit, hlen] at hi
   rw [dif_bit (lt128_62 (by omega)) (lt128_62 (by omega)), all_bit]
   simp only [Bool.and_eq_true, decide_eq_true_eq, Bool.not_eq_true'] at hi ⊢
   have hsh : shf k i < l.length := by unfold shf; split <;> omega
   refine ⟨hsh, ?_⟩
   cases hb : t.testBit (shf k i) with
   | false => rfl
   | true => rw [(hs2 i).2 ⟨hi.1, hb⟩] at hi; exact absurd hi.2 (by simp)
  have hinj : ∀ i j, i ≠ j → shf k i ≠ shf k j := fun i j hne => by unfold shf; split <;> split <;> omega
  refine ⟨fun i => K (shf k i), fun i => F (shf k i), fun i hi => ?_, fun i j hi hj hne hkk hle => ?_⟩
  ·have a := h.one _ (hbit i hi)
   rw [dif_bit (lt128_62 (by rw [hlen]; omega)) (lt128_62 (by omega)), all_bit, hlen] at hi
   simp only [Bool.and_eq_true, decide_eq_true_eq, Bool.not_eq_true'] at hi
   exact ⟨by rw [hlen]; exact hi.1, a.kw, ⟨a.a.1, fun r hr => by cases hr⟩, by rw [od_erase]; exact a.w, by rw [od_erase]; exact a.e, by rw [od_erase]; exact a.t⟩
  ·have a := h.sep _ _ (hbit i hi) (hbit j hj) (hinj i j hne) hkk hle
   unfold gap at a ⊢
   rw [od_erase, od_erase]; exact a
 ·rw [nums_inS hs1 (by omega), nums_inS h1 (by omega), List.length_map, List.length_map]
  have e1 : (inS (l.length - 1) s).length = ((List.range (l.length - 1)).filter fun i => t.testBit (shf k i)).length := by
   unfold inS
   congr 1
   refine List.filter_congr fun i hi => ?_
   rw [List.mem_range] at hi
   cases hb : t.testBit (shf k i) with
   | true => exact (hs2 i).2 ⟨hi, hb⟩
   | false =>
    cases hc : s.testBit i with
    | false => rfl
    | true => have := ((hs2 i).1 hc).2; rw [hb] at this; cases this
  have e2 : ((List.range (l.length - 1)).filter fun i => t.testBit (shf k i)).length = (((List.range (l.length - 1)).map (shf k)).filter fun i => t.testBit i).length := by
   rw [List.filter_map, List.length_map]; rfl
  rw [e1, e2, range_shf hk]
  exact ((List.eraseIdx_sublist _ _).filter _).length_le
end Go.Proofs.Ytnfjhdagbknlbaa
