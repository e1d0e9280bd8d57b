/- In time: what holds of orders that can be woven. -/
import Derived.Test.YtnfjhdagbknlbaaLawAD
set_option maxRecDepth 8000
namespace Go.Proofs.Ytnfjhdagbknlbaa
open Go.RowKit
open Classical

/-! ### The smallest plan, run by run -/
theorem grd_pre {m : LoomMill} {l : List LoomOrder} {p q : List LoomRun} (h : Grd m l p q) : ∃ s, q = p ++ s := by
 induction h with
 | done _ => exact ⟨[], by simp⟩
 | @step p q r _ _ _ ih =>
  obtain ⟨s, hs⟩ := ih
  exact ⟨r :: s, by rw [hs]; simp⟩
theorem grd_at {m : LoomMill} {l : List LoomOrder} {p q : List LoomRun} (h : Grd m l p q) : ∀ i, p.length ≤ i → i < l.length → Least1 m l (q.take i) (rn q i) := by
 induction h with
 | done h => intro i h1 h2; omega
 | @step p q r hl hr hq ih =>
  intro i h1 h2
  obtain ⟨s, hs⟩ := grd_pre hq
  by_cases hi : i = p.length
  ·subst hi
   have e1 : q.take p.length = p := by rw [hs, List.append_assoc, List.take_left' rfl]
   have e2 : rn q p.length = r := by unfold rn; rw [hs]; simp
   rw [e1, e2]; exact hr
  ·exact ih i (by simp; omega) h2
theorem grd_seq {m : LoomMill} {l : List LoomOrder} {p q : List LoomRun} (h : Grd m l p q) : SeqP p → SeqP q := by
 induction h with
 | done _ => exact fun h => h
 | step _ hr _ ih => exact fun h => ih (h.app hr.o)
theorem grd_cpl {m : LoomMill} {l : List LoomOrder} {p q : List LoomRun} (h : Grd m l p q) : Cpl m l p → Cpl m l q := by
 induction h with
 | done _ => exact fun h => h
 | step _ hr _ ih => exact fun _ => ih hr.c
theorem seq_nil : SeqP [] := fun i hi => absurd hi (Nat.not_lt_zero _)
theorem cpl_take {m : LoomMill} {l : List LoomOrder} {p : List LoomRun} (h : Cpl m l p) (i : Nat) : Cpl m l (p.take i) := by
 obtain ⟨K, F, h⟩ := h
 refine ⟨K, F, h.mono (fun _ h => h) fun j _ ha r hr => ha r ?_⟩
 unfold pg at hr ⊢
 rw [List.getElem?_take] at hr
 split at hr
 ·exact hr
 ·cases hr
theorem take_rn {p : List LoomRun} {i : Nat} (h : i < p.length) : p.take (i + 1) = p.take i ++ [rn p i] := by
 rw [List.take_add_one, List.getElem?_eq_getElem h]
 unfold rn
 rw [List.getElem?_eq_getElem h]; rfl
theorem grd_less {m : LoomMill} {l : List LoomOrder} {p q : List LoomRun} (h : Grd m l [] q) (hp : Cpl m l p) (hn : p.length = l.length) (hs : SeqP p) {i : Nat} (hi : i < l.length) (he : ∀ j, j < i → rn q j = rn p j) :
  (rn q i).From < (rn p i).From ∨ (rn q i).From = (rn p i).From ∧ (rn q i).Loom ≤ (rn p i).Loom := by
 have h1 := grd_at h i (Nat.zero_le _) hi
 have hql := grd_len h
 have e : q.take i = p.take i := by
  apply List.ext_getElem
  ·simp [hql, hn]
  ·intro j h1 h2
   rw [List.length_take] at h1 h2
   rw [List.getElem_take, List.getElem_take]
   have := he j (by omega)
   unfold rn at this
   rw [List.getElem?_eq_getElem (by omega), List.getElem?_eq_getElem (by omega)] at this
   exact this
 refine h1.m (rn p i) ?_ ?_
 ·rw [hs i (by omega), List.length_take]; omega
 ·rw [e, ← take_rn (by omega)]; exact cpl_take hp _

/-! ### Work and days -/
def sm (n : Nat) (f : Nat → Int) : Int := match n with
 | 0 => 0
 | n + 1 => sm n f + f n
theorem sm_le {n : Nat} {f g : Nat → Int} (h : ∀ i, i < n → f i ≤ g i) : sm n f ≤ sm n g := by
 induction n with
 | zero => exact Int.le_refl _
 | succ n ih =>
  have := ih fun i hi => h i (by omega)
  have := h n (by omega)
  simp only [sm]; omega
theorem sm_congr {n : Nat} {f g : Nat → Int} (h : ∀ i, i < n → f i = g i) : sm n f = sm n g := by
 induction n with
 | zero => rfl
 | succ n ih => simp only [sm]; rw [ih fun i hi => h i (by omega), h n (by omega)]
theorem sm_zero {n : Nat} {f : Nat → Int} (h : ∀ i, i < n → f i = 0) : sm n f = 0 := by
 induction n with
 | zero => rfl
 | succ n ih => simp only [sm]; rw [ih fun i hi => h i (by omega), h n (by omega)]; rfl
theorem sm_out {n : Nat} {f : Nat → Int} {t : Nat} (ht : t < n) : sm n f = sm n (fun i => if i = t then 0 else f i) + f t := by
 induction n with
 | zero => omega
 | succ n ih =>
  simp only [sm]
  by_cases h : t = n
  ·subst h
   rw [if_pos rfl, sm_congr (g := f) (f := fun i => if i = t then 0 else f i) fun i hi => if_neg (by omega)]
   omega
  ·rw [if_neg (fun e => h e.symm), ih (by omega)]; omega
theorem sm_add {n : Nat} {f g : Nat → Int} : sm n (fun i => f i + g i) = sm n f + sm n g := by
 induction n with
 | zero => rfl
 | succ n ih => simp only [sm]; rw [ih]; omega
theorem sm_const {n : Nat} {c : Int} : sm n (fun _ => c) = c * n := by
 induction n with
 | zero => simp [sm]
 | succ n ih => simp only [sm]; rw [ih, Int.natCast_add, Int.mul_add]; simp
theorem pack (n : Nat) (w F : Nat → Int) (lo : Int) (hw : ∀ i, i < n → 1 ≤ w i) : ∀ (d : Nat) (hi : Int) (S : Nat → Prop), (hi - lo).toNat = d → lo ≤ hi → (∀ i, i < n → S i → lo ≤ F i ∧ F i + w i ≤ hi) →
  (∀ i j, i < n → j < n → S i → S j → i ≠ j → F i ≤ F j → F i + w i ≤ F j) → sm n (fun i => if S i then w i else 0) ≤ hi - lo := by
 intro d
 induction d using Nat.strongRecOn with
 | ind d ih =>
  intro hi S hd hlh hS hsep
  by_cases hne : ∃ i, S i ∧ i < n
  ·obtain ⟨t, ⟨ht, htn⟩, hm⟩ := exl_max n (fun i => S i ∧ i < n) (fun i h => h.2) F hne
   have h1 := hS t htn ht
   have hwt := hw t htn
   have h2 := ih (F t - lo).toNat (by omega) (F t) (fun i => S i ∧ i ≠ t) rfl h1.1 (fun i hin hs => ⟨(hS i hin hs.1).1, hsep i t hin htn hs.1 ht hs.2 (hm i ⟨hs.1, hin⟩)⟩) fun i j hin hjn hsi hsj => hsep i j hin hjn hsi.1 hsj.1
   rw [sm_out htn, if_pos ht]
   have h3 : sm n (fun i => if i = t then 0 else if S i then w i else 0) = sm n (fun i => @ite _ (S i ∧ i ≠ t) (Classical.propDecidable _) (w i) 0) := sm_congr fun i _ => by
    by_cases he : i = t
    ·simp [he]
    ·simp [he]
   rw [h3]; omega
  ·rw [sm_zero fun i hi => if_neg fun hs => hne ⟨i, hs, hi⟩]; omega
theorem wrk_sm (l : List LoomOrder) (low high : Int) : wrk l low high = sm l.length (fun i => if inDays low high (od l (i : Int)) = true then (od l (i : Int)).Woven else 0) := by
 have key : ∀ (b a : List LoomOrder) (s : Int), a ++ b = l → b.foldl (fun s x => if inDays low high x then s + x.Woven else s) s = s + (sm l.length (fun i => if a.length ≤ i then (if inDays low high (od l (i : Int)) = true then (od l (i : Int)).Woven else 0) else 0)) := by
  intro b
  induction b with
  | nil =>
   intro a s h
   rw [List.append_nil] at h
   rw [sm_zero fun i hi => if_neg (by rw [h]; omega)]; simp
  | cons x b ih =>
   intro a s h
   have hlen : a.length < l.length := by rw [← h]; simp
   have hx : od l (a.length : Int) = x := by unfold od; rw [Int.toNat_natCast, ← h]; simp
   rw [List.foldl_cons, ih (a ++ [x]) _ (by simp [h])]
   rw [sm_out (f := fun i => if a.length ≤ i then (if inDays low high (od l (i : Int)) = true then (od l (i : Int)).Woven else 0) else 0) hlen, if_pos (Nat.le_refl _), hx]
   have h3 : sm l.length (fun i => if i = a.length then 0 else if a.length ≤ i then (if inDays low high (od l (i : Int)) = true then (od l (i : Int)).Woven else 0) else 0) = sm l.length (fun i => if (a ++ [x]).length ≤ i then (if inDays low high (od l (i : Int)) = true then (od l (i : Int)).Woven else 0) else 0) := sm_congr fun i _ => by
    rw [List.length_append, List.length_singleton]
    by_cases h1 : i = a.length
    ·have h2 : ¬ a.length + 1 ≤ i := by omega
     simp only [h1, if_true]
     rw [h1] at h2
     simp only [h2, if_false]
    ·by_cases h2 : a.length ≤ i
     ·have h4 : a.length + 1 ≤ i := by omega
      simp only [h1, h2, h4, if_true, if_false]
     ·have h4 : ¬ a.length + 1 ≤ i := by omega
      simp only [h1, h2, h4, if_false]
   rw [h3]
   split <;> omega
 have := key l [] 0 rfl
 unfold wrk
 rw [this, Int.zero_add]
 exact sm_congr fun i _ => if_pos (Nat.zero_le _)
theorem sm_swap {n w : Nat} {f : Nat → Int} {K : Nat → Nat} (hK : ∀ i, i < n → f i ≠ 0 → K i < w) : sm n f = sm w (fun k => sm n (fun i => if K i = k then f i else 0)) := by
 induction n with
 | zero => exact (sm_zero fun _ _ => rfl).symm
 | succ n ih =>
  simp only [sm]
  rw [sm_add, ← ih fun i hi => hK i (by omega)]
  congr 1
  by_cases h0 : f n = 0
  ·rw [sm_zero fun k _ => by split <;> simp [h0]]; exact h0
  ·rw [sm_out (t := K n) (hK n (by omega) h0), if_pos rfl, sm_zero fun k _ => by
    by_cases hk : k = K n
    ·rw [if_pos hk]
    ·rw [if_neg hk, if_neg fun e => hk e.symm]]
   omega
theorem wrk_le {m : LoomMill} {l : List LoomOrder} (g : Good m l) (h : Cpl m l []) {low high : Int} (hlh : low ≤ high) : wrk l low high ≤ (high - low) * m.Widths.length := by
 obtain ⟨K, F, h⟩ := h
 rw [wrk_sm, sm_swap (w := m.Widths.length) (K := K) fun i hi _ => (h.one i hi).kw, ← sm_const]
 refine sm_le fun k _ => ?_
 have hp := pack l.length (fun i => (od l (i : Int)).Woven) F low (fun i hi => (g.od hi).2.2.1.1) _ high (fun i => K i = k ∧ inDays low high (od l (i : Int)) = true) rfl hlh (fun i hi hs => ?_) (fun i j hi hj hs hs' hne hle => ?_)
 ·refine Int.le_trans (Int.le_of_eq (sm_congr fun i _ => ?_)) hp
  by_cases h1 : K i = k <;> by_cases h2 : inDays low high (od l (i : Int)) = true <;> simp [h1, h2]
 ·have h1 := h.one i hi
  have h2 := hs.2
  unfold inDays at h2
  simp only [Bool.and_eq_true, decide_eq_true_eq] at h2
  have := h1.e
  have := h1.t
  exact ⟨by omega, by omega⟩
 ·have h1 := h.sep i j hi hj hne (hs.1.trans hs'.1.symm) hle
  have := gap_nn (l := l) g.c.1 i j
  omega
theorem ov_zero {m : LoomMill} {l : List LoomOrder} (g : Good m l) (h : Cpl m l []) : (ov l m.Widths.length).2.2 = 0 := by
 have hI : ∀ (s : Span × Int × Int), s.2.2 = 0 → ∀ low : Nat, (ovLow l m.Widths.length low s).2.2 = 0 := fun s hs low =>
  foldl_I (I := fun s : Span × Int × Int => s.2.2 = 0) _ s hs fun i hi s hs => by
   have h1 := (List.mem_range'_1.1 hi).1
   have h2 := wrk_le g h (low := (low : Int)) (high := (i : Int)) (by omega)
   unfold ovStep
   rw [if_neg (by omega)]; exact hs
 exact foldl_I (I := fun s : Span × Int × Int => s.2.2 = 0) _ _ rfl fun i _ s hs => hI s hs i

/-! ### Fewer looms -/
def part (m : LoomMill) (q : Nat) : LoomMill := ⟨(nums q).map fun k => wd m k, m.Change⟩
theorem part_wd {m : LoomMill} {q j : Nat} (h : j < (nums q).length) : wd (part m q) j = wd m ((nums q)[j]) := by
 unfold part
 conv => lhs; unfold wd
 simp [h]
 rfl
theorem nums_at {q j : Nat} (h : j < (nums q).length) : ∃ k : Nat, (nums q)[j] = (k : Int) ∧ q.testBit k = true := by
 obtain ⟨k, hk, _, hb⟩ := nums_nn (List.getElem_mem h)
 exact ⟨k, hk, hb⟩
theorem part_good {m : LoomMill} {l : List LoomOrder} (g : Good m l) {q : Nat} (hq : q < 2 ^ m.Widths.length) (hq0 : (nums q).length ≠ 0) : chkE (part m q) l = 0 := by
 have hw3 := g.w3
 have hl : (nums q).length ≤ 3 := by
  have := nodup_lt m.Widths.length ((nums q).map Int.toNat) (by
   rw [List.nodup_iff_pairwise_ne, List.pairwise_map]
   exact (nums_nodup q).imp_of_mem fun ha hb hne => by
    obtain ⟨a, rfl, _⟩ := nums_nn ha
    obtain ⟨b, rfl, _⟩ := nums_nn hb
    omega) (fun x hx => by
    obtain ⟨y, hy, rfl⟩ := List.mem_map.1 hx
    have := some_ok hq y hy
    omega)
  rw [List.length_map] at this; omega
 have hwl : (part m q).Widths.length = (nums q).length := by simp [part]
 have hl7 := g.l7
 unfold chkE
 rw [hwl, if_neg (by omega), if_pos]
 refine ⟨hq0, List.all_eq_true.2 fun x hx => ?_, btw_iff.2 g.c, List.all_eq_true.2 fun x hx => ?_⟩
 ·obtain ⟨k, hk, rfl⟩ := List.mem_map.1 hx
  have h1 := some_ok hq k hk
  obtain ⟨n, rfl⟩ : ∃ n : Nat, k = (n : Int) := ⟨k.toNat, by omega⟩
  refine btw_iff.2 (g.w _ ?_)
  unfold wd
  rw [Int.toNat_natCast, List.getElem?_eq_getElem (by omega)]
  exact List.getElem_mem _
 ·have := g.o x hx
  simp only [ordOk, Bool.and_eq_true, btw_iff]
  omega
theorem part_cpl {m : LoomMill} {l : List LoomOrder} {q : Nat} (hq : q < 2 ^ m.Widths.length) (hw : m.Widths.length ≤ 7) : Cpl (part m q) l [] ↔ TogP m l ng (nums q) (2 ^ l.length - 1) := by
 have hb : ∀ i, (2 ^ l.length - 1).testBit i = true ↔ i < l.length := fun i => by rw [all_bit]; exact decide_eq_true_iff
 have hwl : (part m q).Widths.length = (nums q).length := by simp [part]
 have hgap : ∀ i j, gap (part m q) l i j = gap m l i j := fun _ _ => rfl
 constructor
 ·rintro ⟨K, F, h⟩
  have hk : ∀ i, i < l.length → ∃ k : Nat, ∃ hj : K i < (nums q).length, (nums q)[K i] = (k : Int) ∧ q.testBit k = true := fun i hi => by
   have h1 := (h.one i hi).kw
   rw [hwl] at h1
   obtain ⟨k, hk⟩ := nums_at h1
   exact ⟨k, h1, hk⟩
  have hex : ∀ i, ∃ k : Nat, i < l.length → ∃ hj : K i < (nums q).length, (nums q)[K i] = (k : Int) ∧ q.testBit k = true := fun i => by
   by_cases hi : i < l.length
   ·obtain ⟨k, hk⟩ := hk i hi; exact ⟨k, fun _ => hk⟩
   ·exact ⟨0, fun h => absurd h hi⟩
  obtain ⟨K', hK'⟩ := Classical.axiomOfChoice hex
  refine ⟨K', F, fun i hi => ?_, fun i j hi hj hne hkk hle => ?_⟩
  ·have hi := (hb i).1 hi
   obtain ⟨hj, h1, h2⟩ := hK' i hi
   have h3 := h.one i hi
   have hwd := h3.w
   rw [part_wd hj, h1] at hwd
   exact ⟨hi, bit_lt hq h2, ⟨(mem_nums (lt_pow62 hw hq)).2 h2, fun r hr => by cases hr⟩, hwd, h3.e, h3.t⟩
  ·have hi := (hb i).1 hi
   have hj := (hb j).1 hj
   obtain ⟨hji, h1, _⟩ := hK' i hi
   obtain ⟨hjj, h2, _⟩ := hK' j hj
   have hke : K i = K j := by
    rw [hkk, ← h2] at h1
    rcases Nat.lt_trichotomy (K i) (K j) with h | h | h
    ·exact absurd h1 (List.pairwise_iff_getElem.1 (nums_nodup q) _ _ hji hjj h)
    ·exact h
    ·exact absurd h1.symm (List.pairwise_iff_getElem.1 (nums_nodup q) _ _ hjj hji h)
   exact h.sep i j hi hj hne hke hle
 ·rintro ⟨K, F, h⟩
  have hex : ∀ i, ∃ j : Nat, i < l.length → ∃ hj : j < (nums q).length, (nums q)[j] = (K i : Int) := fun i => by
   by_cases hi : i < l.length
   ·obtain ⟨j, hj, he⟩ := List.getElem_of_mem (h.one i ((hb i).2 hi)).a.1
    exact ⟨j, fun _ => ⟨hj, he⟩⟩
   ·exact ⟨0, fun h => absurd h hi⟩
  obtain ⟨K', hK'⟩ := Classical.axiomOfChoice hex
  refine ⟨K', F, fun i hi => ?_, fun i j hi hj hne hkk hle => ?_⟩
  ·obtain ⟨hj, h1⟩ := hK' i hi
   have h3 := h.one i ((hb i).2 hi)
   refine ⟨hi, by rw [hwl]; exact hj, fun r hr => (by cases hr), ?_, h3.e, h3.t⟩
   rw [part_wd hj, h1]; exact h3.w
  ·obtain ⟨hji, h1⟩ := hK' i hi
   obtain ⟨hjj, h2⟩ := hK' j hj
   have hkk' : K i = K j := by
    have : (K i : Int) = K j := by
     rw [← h1, ← h2]
     congr 1
    omega
   exact h.sep i j ((hb i).2 hi) ((hb j).2 hj) hne hkk' hle
end Go.Proofs.Ytnfjhdagbknlbaa
