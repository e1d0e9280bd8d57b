/- In time: what holds of orders that can be woven. -/
import Derived.Test.YtnfjhdagbknlbaaLawAD
set_option maxRecDepth 8000
namespace Go.Proofs.Ytnfjhdagbknlbaa
open Go.RowKit
open Classical

/-! ### The smallest plan, run by run -/
/-! ### Work and days -/
def sm (n : Nat) (f : Nat → Int) : Int := match n with
 | 0 => 0
 | n + 1 => sm n f + f n
theorem sm_le {n : Nat} {f g : Nat → Int} (h : ∀ i, i < n → f i ≤ g i) : sm n f ≤ sm n g := by
 induction n with
 | zero => exact Int.le_refl _
 | succ n ih =>
  have := ih fun i hi => h i (by omega)
  have := h n (by omega)
  simp only [sm]; omega
theorem sm_congr {n : Nat} {f g : Nat → Int} (h : ∀ i, i < n → f i = g i) : sm n f = sm n g := by
 induction n with
 | zero => rfl
 | succ n ih => simp only [sm]; rw [ih fun i hi => h i (by omega), h n (by omega)]
theorem sm_zero {n : Nat} {f : Nat → Int} (h : ∀ i, i < n → f i = 0) : sm n f = 0 := by
 induction n with
 | zero => rfl
 | succ n ih => simp only [sm]; rw [ih fun i hi => h i (by omega), h n (by omega)]; rfl
theorem sm_out {n : Nat} {f : Nat → Int} {t : Nat} (ht : t < n) : sm n f = sm n (fun i => if i = t then 0 else f i) + f t := by
 induction n with
 | zero => omega
 | succ n ih =>
  simp only [sm]
  by_cases h : t = n
  ·subst h
   rw [if_pos rfl, sm_congr (g := f) (f := fun i => if i = t then 0 else f i) fun i hi => if_neg (by omega)]
   omega
  ·rw [if_neg (fun e => h e.symm), ih (by omega)]; omega
theorem sm_add {n : Nat} {f g : Nat → Int} : sm n (fun i => f i + g i) = sm n f + sm n g := by
 induction n with
 | zero => rfl
 | succ n ih => simp only [sm]; rw [ih]; omega
theorem sm_const {n : Nat} {c : Int} : sm n (fun _ => c) = c * n := by
 induction n with
 | zero => simp [sm]
 | succ n ih => simp only [sm]; rw [ih, Int.natCast_add, Int.mul_add]; simp
theorem pack (n : Nat) (w F : Nat → Int) (lo : Int) (hw : ∀ i, i < n → 1 ≤ w i) : ∀ (d : Nat) (hi : Int) (S : Nat → Prop), (hi - lo).toNat = d → lo ≤ hi → (∀ i, i < n → S i → lo ≤ F i ∧ F i + w i ≤ hi) →
  (∀ i j, i < n → j < n → S i → S j → i ≠ j → F i ≤ F j → F i + w i ≤ F j) → sm n (fun i => if S i then w i else 0) ≤ hi - lo := by
 intro d
 induction d using Nat.strongRecOn with
 | ind d ih =>
  intro hi S hd hlh hS hsep
  by_cases hne : ∃ i, S i ∧ i < n
  ·obtain ⟨t, ⟨ht, htn⟩, hm⟩ := exl_max n (fun i => S i ∧ i < n) (fun i h => h.2) F hne
   have h1 := hS t htn ht
   have hwt := hw t htn
   have h2 := ih (F t - lo).toNat (by omega) (F t) (fun i => S i ∧ i ≠ t) rfl h1.1 (fun i hin hs => ⟨(hS i hin hs.1).1, hsep i t hin htn hs.1 ht hs.2 (hm i ⟨hs.1, hin⟩)⟩) fun i j hin hjn hsi hsj => hsep i j hin hjn hsi.1 hsj.1
   rw [sm_out htn, if_pos ht]
   have h3 : sm n (fun i => if i = t then 0 else if S i then w i else 0) = sm n (fun i => @ite _ (S i ∧ i ≠ t) (Classical.propDecidable _) (w i) 0) := sm_congr fun i _ => by
    by_cases he : i = t
    ·simp [he]
    ·simp [he]
   rw [h3]; omega
  ·rw [sm_zero fun i hi => if_neg fun hs => hne ⟨i, hs, hi⟩]; omega
theorem wrk_sm (l : List LoomOrder) (low high : Int) : wrk l low high = sm l.length (fun i => if inDays low high (od l (i : Int)) = true then (od l (i : Int)).Woven else 0) := by
 have key : ∀ (b a : List LoomOrder) (s : Int), a ++ b = l → b.foldl (fun s x => if inDays low high x then s + x.Woven else s) s = s + (sm l.length (fun i => if a.length ≤ i then (if inDays low high (od l (i : Int)) = true then (od l (i : Int)).Woven else 0) else 0)) := by
  intro b
  induction b with
  | nil =>
   intro a s h
   rw [List.append_nil] at h
   rw [sm_zero fun i hi => if_neg (by rw [h]; omega)]; simp
  | cons x b ih =>
   intro a s h
   have hlen : a.length < l.length := by rw [← h]; simp
   have hx : od l (a.length : Int) = x := by unfold od; rw [Int.toNat_natCast, ← h]; simp
   rw [List.foldl_cons, ih (a ++ [x]) _ (by simp [h])]
   rw [sm_out (f := fun i => if a.length ≤ i then (if inDays low high (od l (i : Int)) = true then (od l (i : Int)).Woven else 0) else 0) hlen, if_pos (Nat.le_refl _), hx]
   have h3 : sm l.length (fun i => if i = a.length then 0 else if a.length ≤ i then (if inDays low high (od l (i : Int)) = true then (od l (i : Int)).Woven else 0) else 0) = sm l.length (fun i => if (a ++ [x]).length ≤ i then (if inDays low high (od l (i : Int)) = true then (od l (i : Int)).Woven else 0) else 0) := sm_congr fun i _ => by
    rw [List.length_append, List.length_singleton]
    by_cases h1 : i = a.length
    ·have h2 : ¬ a.length + 1 ≤ i := by omega
     simp only [h1, if_true]
     rw [h1] at h2
     simp only [h2, if_false]
    ·by_cases h2 : a.length ≤ i
     ·have h4 : a.length + 1 ≤ i := by omega
      simp only [h1, h2, h4, if_true, if_false]
     ·have h4 : ¬ a.length + 1 ≤ i := by omega
      simp only [h1, h2, h4, if_false]
   rw [h3]
   split <;> omega
 have := key l [] 0 rfl
 unfold wrk
 rw [this, Int.zero_add]
 exact sm_congr fun i _ => if_pos (Nat.zero_le _)
theorem sm_swap {n w : Nat} {f : Nat → Int} {K : Nat → Nat} (hK : ∀ i, i < n → f i ≠ 0 → K i < w) : sm n f = sm w (fun k => sm n (fun i => if K i = k then f i else 0)) := by
 induction n with
 | zero => exact (sm_zero fun _ _ => rfl).symm
 | succ n ih =>
  simp only [sm]
  rw [sm_add, ← ih fun i hi => hK i (by omega)]
  congr 1
  by_cases h0 : f n = 0
  ·rw [sm_zero fun k _ => by split <;> simp [h0]]; exact h0
  ·rw [sm_out (t := K n) (hK n (by omega) h0), if_pos rfl, sm_zero fun k _ => by
    by_cases hk : k = K n
    ·rw [if_pos hk]
    ·rw [if_neg hk, if_neg fun e => hk e.symm]]
   omega
theorem wrk_le {m : LoomMill} {l : List LoomOrder} (g : Good m l) (h : Cpl m l []) {low high : Int} (hlh : low ≤ high) : wrk l low high ≤ (high - low) * m.Widths.length := by
 obtain ⟨K, F, h⟩ := h
 rw [wrk_sm, sm_swap (w := m.Widths.length) (K := K) fun i hi _ => (h.one i hi).kw, ← sm_const]
 refine sm_le fun k _ => ?_
 have hp := pack l.length (fun i => (od l (i : Int)).Woven) F low (fun i hi => (g.od hi).2.2.1.1) _ high (fun i => K i = k ∧ inDays low high (od l (i : Int)) = true) rfl hlh (fun i hi hs => ?_) (fun i j hi hj hs hs' hne hle => ?_)
 ·refine Int.le_trans (Int.le_of_eq (sm_congr fun i _ => ?_)) hp
  by_cases h1 : K i = k <;> by_cases h2 : inDays low high (od l (i : Int)) = true <;> simp [h1, h2]
 ·have h1 := h.one i hi
  have h2 := hs.2
  unfold inDays at h2
  simp only [Bool.and_eq_true, decide_eq_true_eq] at h2
  have := h1.e
  have := h1.t
  exact ⟨by omega, by omega⟩
 ·have h1 := h.sep i j hi hj hne (hs.1.trans hs'.1.symm) hle
  have := gap_nn (l := l) g.c.1 i j
  omega
theorem ov_zero {m : LoomMill} {l : List LoomOrder} (g : Good m l) (h : Cpl m l []) : (ov l m.Widths.length).2.2 = 0 := by
 have hI : ∀ (s : Span × Int × Int), s.2.2 = 0 → ∀ low : Nat, (ovLow l m.Widths.length low s).2.2 = 0 := fun s hs low =>
  foldl_I (I := fun s : Span × Int × Int => s.2.2 = 0) _ s hs fun i hi s hs => by
   have h1 := (List.mem_range'_1.1 hi).1
   have h2 := wrk_le g h (low := (low : Int)) (high := (i : Int)) (by omega)
   unfold ovStep
   rw [if_neg (by omega)]; exact hs
 exact foldl_I (I := fun s : Span × Int × Int => s.2.2 = 0) _ _ rfl fun i _ s hs => hI s hs i

/-! ### Fewer looms -/
def part (m : LoomMill) (q : Nat) : LoomMill := ⟨(nums q).map fun k => wd m k, m.Change⟩
theorem nums_at {q j : Nat} (h : j < (nums q).length) : ∃ k : Nat, (nums q)[j] = (k : Int) ∧ q.testBit k = true := by
 obtain ⟨k, hk, _, hb⟩ := nums_nn (List.getElem_mem h)
 exact ⟨k, hk, hb⟩
end Go.Proofs.Ytnfjhdagbknlbaa
/- LoomInTime. -/
set_option maxRecDepth 8000
namespace Go.Proofs.Ytnfjhdagbknlbaa
open Go.RowKit
open Classical

theorem holdF_run {m : LoomMill} {l : List LoomOrder} {p : List LoomRun} (g : Good m l) (hs : SeqP p) (hn : p.length ≤ l.length) {K : Nat → Nat} {F : Nat → Int} (h : Fits m l (fun i => i < p.length) (FixG (pg p)) K F) {i : Nat} (hi : i < p.length) :
  (rn p i).Order = (i : Int) ∧ (rn p i).Loom = (K i : Int) ∧ (rn p i).From = F i ∧ K i < m.Widths.length ∧ 0 ≤ F i ∧ F i + (od l i).Woven ≤ 300 := by
 obtain ⟨h1, h2⟩ := holdF_at h hi hi
 have h3 := h.one i hi
 have h4 := g.od h3.il
 have h5 := h3.e
 have h6 := h3.t
 exact ⟨hs i hi, h1, h2, h3.kw, by omega, by omega⟩
theorem tog_of_cpl {m : LoomMill} {l : List LoomOrder} (g : Good m l) (h : Cpl m l []) {s : Nat} (hs : s < 2 ^ l.length) : TogP m l ng (allL m) s := by
 obtain ⟨K, F, h⟩ := h
 have hw3 := g.w3
 have hpw := pow7 (show m.Widths.length ≤ 7 by omega)
 refine ⟨K, F, h.mono (fun i hi => bit_lt hs hi) fun i hi ha => ⟨?_, fun r hr => by cases hr⟩⟩
 refine (mem_nums (lt128_62 (by omega))).2 ?_
 rw [all_bit]
 exact decide_eq_true (h.one i (bit_lt hs hi)).kw
theorem best_zero {P : Nat → Prop} (h0 : P 0) : ∀ n, 0 < n → best P n = some 0
 | 0, h => absurd h (Nat.lt_irrefl _)
 | 1, _ => by
  unfold best
  rw [if_pos ⟨h0, fun b hb => by cases hb⟩]
 | n + 2, _ => by
  have ih := best_zero h0 (n + 1) (by omega)
  unfold best
  rw [ih, if_neg]
  rintro ⟨_, h⟩
  have h1 := h 0 rfl
  have h2 : nums 0 = [] := by unfold nums; simp
  unfold lessS at h1
  rw [h2] at h1
  rcases h1 with h1 | h1
  ·simp at h1
  ·obtain ⟨i, a, b, _, h3, _⟩ := h1.2
   simp at h3
theorem nums_zero : nums 0 = [] := by unfold nums; simp
theorem nums_empty {q : Nat} (hq : q < 2 ^ 62) (h : nums q = []) : q = 0 := nums_inj hq (by decide) (h.trans nums_zero.symm)
end Go.Proofs.Ytnfjhdagbknlbaa
/- LoomInTime: the plain law. -/
set_option maxRecDepth 8000
namespace Go.Proofs.Ytnfjhdagbknlbaa
open Go.RowKit
open Classical

theorem nums_le {q n : Nat} (hq : q < 2 ^ n) (hn : n ≤ 62) : (nums q).length ≤ n := by
 unfold nums
 rw [← filter_cut (n := n) (by rw [Nat.shiftRight_eq_div_pow]; exact Nat.div_eq_of_lt hq) hn, List.length_map]
 have := List.length_filter_le (fun i => q.testBit i) (List.range n)
 rw [List.length_range] at this; exact this
end Go.Proofs.Ytnfjhdagbknlbaa
