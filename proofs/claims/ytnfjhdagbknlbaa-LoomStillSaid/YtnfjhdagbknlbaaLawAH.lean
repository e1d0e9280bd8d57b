/- Fewer orders: which can be woven. -/
import Derived.Test.YtnfjhdagbknlbaaLawAG
set_option maxRecDepth 8000
namespace Go.Proofs.Ytnfjhdagbknlbaa
open Go.RowKit
open Classical

def pick (l : List LoomOrder) (xs : List Nat) : List LoomOrder := xs.map fun (i : Nat) => od l (i : Int)
theorem pick_od {l : List LoomOrder} {xs : List Nat} {j : Nat} (h : j < xs.length) : od (pick l xs) (j : Int) = od l (xs[j] : Int) := by
 conv => lhs; unfold od pick
 simp [h]
theorem pick_cpl {m : LoomMill} {l : List LoomOrder} {xs : List Nat} (hx : xs.Nodup) (hl : ∀ x ∈ xs, x < l.length) : Cpl m (pick l xs) [] ↔ ∃ K F, Fits m l (fun i => i ∈ xs) (FixG ng) K F := by
 have hlen : (pick l xs).length = xs.length := by simp [pick]
 have hgap : ∀ i j (hi : i < xs.length) (hj : j < xs.length), gap m (pick l xs) i j = gap m l xs[i] xs[j] := fun i j hi hj => by
  unfold gap; rw [pick_od hi, pick_od hj]
 constructor
 ·rintro ⟨K, F, h⟩
  have hex : ∀ i, ∃ j : Nat, i ∈ xs → ∃ hj : j < xs.length, xs[j] = i := fun i => by
   by_cases hi : i ∈ xs
   ·obtain ⟨j, hj, he⟩ := List.getElem_of_mem hi
    exact ⟨j, fun _ => ⟨hj, he⟩⟩
   ·exact ⟨0, fun h => absurd h hi⟩
  obtain ⟨J, hJ⟩ := Classical.axiomOfChoice hex
  refine ⟨fun i => K (J i), fun i => F (J i), fun i hi => ?_, fun i i' hi hi' hne hk hle => ?_⟩
  ·obtain ⟨hj, he⟩ := hJ i hi
   have h1 := h.one (J i) (by rw [hlen]; exact hj)
   have hw := h1.w
   have hee := h1.e
   have ht := h1.t
   rw [pick_od hj, he] at hw hee ht
   exact ⟨hl i hi, h1.kw, fun r hr => (by cases hr), hw, hee, ht⟩
  ·obtain ⟨hj, he⟩ := hJ i hi
   obtain ⟨hj', he'⟩ := hJ i' hi'
   have hne' : J i ≠ J i' := fun e => hne (by
    rw [← he, ← he']
    congr 1)
   have h1 := h.sep (J i) (J i') (by rw [hlen]; exact hj) (by rw [hlen]; exact hj') hne' hk hle
   rw [pick_od hj, hgap _ _ hj hj', he, he'] at h1
   exact h1
 ·rintro ⟨K, F, h⟩
  have hat : ∀ j, j < xs.length → ∃ i, xs[j]? = some i ∧ i ∈ xs := fun j hj => ⟨xs[j], List.getElem?_eq_getElem hj, List.getElem_mem hj⟩
  refine ⟨fun j => K ((xs[j]?).getD 0), fun j => F ((xs[j]?).getD 0), fun j hj => ?_, fun j j' hj hj' hne hk hle => ?_⟩
  ·rw [hlen] at hj
   have h1 := h.one xs[j] (List.getElem_mem hj)
   simp only [List.getElem?_eq_getElem hj, Option.getD_some]
   refine ⟨by rw [hlen]; exact hj, h1.kw, fun r hr => (by cases hr), ?_, ?_, ?_⟩
   ·rw [pick_od hj]; exact h1.w
   ·rw [pick_od hj]; exact h1.e
   ·rw [pick_od hj]; exact h1.t
  ·rw [hlen] at hj hj'
   simp only [List.getElem?_eq_getElem hj, List.getElem?_eq_getElem hj', Option.getD_some] at hk hle ⊢
   have hne' : xs[j] ≠ xs[j'] := fun e => by
    rcases Nat.lt_or_gt_of_ne hne with h | h
    ·exact List.pairwise_iff_getElem.1 hx j j' hj hj' h e
    ·exact List.pairwise_iff_getElem.1 hx j' j hj' hj h e.symm
   have h1 := h.sep _ _ (List.getElem_mem hj) (List.getElem_mem hj') hne' hk hle
   rw [pick_od hj, hgap _ _ hj hj']
   exact h1
theorem pick_good {m : LoomMill} {l : List LoomOrder} (g : Good m l) {xs : List Nat} (hx : xs.length ≤ 7) (hl : ∀ x ∈ xs, x < l.length) : chkE m (pick l xs) = 0 := by
 have hw3 := g.w3
 have hw1 := g.w1
 have hlen : (pick l xs).length = xs.length := by simp [pick]
 unfold chkE
 rw [if_neg (by omega), if_pos]
 refine ⟨by omega, List.all_eq_true.2 fun x hx => btw_iff.2 (g.w x hx), btw_iff.2 g.c, List.all_eq_true.2 fun x hx => ?_⟩
 obtain ⟨i, hi, rfl⟩ := List.mem_map.1 hx
 have := g.od (hl i hi)
 simp only [ordOk, Bool.and_eq_true, btw_iff]
 omega
theorem fits_tog {m : LoomMill} {l : List LoomOrder} (hw : m.Widths.length ≤ 7) {s : Nat} {S : Nat → Prop} (hs : ∀ i, s.testBit i = true ↔ S i) : TogP m l ng (allL m) s ↔ ∃ K F, Fits m l S (FixG ng) K F := by
 have hpw := pow7 hw
 have e : (fun i => s.testBit i = true) = S := funext fun i => propext (hs i)
 unfold TogP
 rw [e]
 constructor
 ·rintro ⟨K, F, h⟩
  exact ⟨K, F, h.mono (fun _ h => h) fun _ _ h => h.2⟩
 ·rintro ⟨K, F, h⟩
  refine ⟨K, F, h.mono (fun _ h => h) fun i hi ha => ⟨?_, ha⟩⟩
  refine (mem_nums (lt128_62 (by omega))).2 ?_
  rw [all_bit]
  exact decide_eq_true (h.one i hi).kw
theorem tog_mono {m : LoomMill} {l : List LoomOrder} {g : Nat → Option LoomRun} {Ls : List Int} {s t : Nat} (h : TogP m l g Ls s) (ht : ∀ i, t.testBit i = true → s.testBit i = true) : TogP m l g Ls t := let ⟨K, F, h⟩ := h; ⟨K, F, h.mono ht fun _ _ h => h⟩
def inS (n s : Nat) : List Nat := (List.range n).filter fun i => s.testBit i
def outS (n s : Nat) : List Nat := (List.range n).filter fun i => !s.testBit i
theorem inS_nodup (n s : Nat) : (inS n s).Nodup := by unfold inS; exact List.Pairwise.filter _ List.nodup_range
theorem outS_nodup (n s : Nat) : (outS n s).Nodup := by unfold outS; exact List.Pairwise.filter _ List.nodup_range
theorem mem_inS {n s i : Nat} : i ∈ inS n s ↔ i < n ∧ s.testBit i = true := by simp [inS]
theorem mem_outS {n s i : Nat} : i ∈ outS n s ↔ i < n ∧ s.testBit i = false := by simp [outS]
theorem inS_len (n s : Nat) : (inS n s).length ≤ n := by
 unfold inS
 have := List.length_filter_le (fun i => s.testBit i) (List.range n)
 rw [List.length_range] at this; exact this
theorem outS_len (n s : Nat) : (outS n s).length ≤ n := by
 unfold outS
 have := List.length_filter_le (fun i => !s.testBit i) (List.range n)
 rw [List.length_range] at this; exact this
theorem nums_inS {n s : Nat} (hs : s < 2 ^ n) (hn : n ≤ 62) : nums s = (inS n s).map fun (i : Nat) => (i : Int) := by
 unfold nums inS
 rw [← filter_cut (n := n) (by rw [Nat.shiftRight_eq_div_pow]; exact Nat.div_eq_of_lt hs) hn]
theorem in_cpl {m : LoomMill} {l : List LoomOrder} (g : Good m l) {s : Nat} (hs : s < 2 ^ l.length) : Cpl m (pick l (inS l.length s)) [] ↔ TogP m l ng (allL m) s := by
 rw [pick_cpl (inS_nodup _ _) fun x hx => (mem_inS.1 hx).1]
 exact (fits_tog (by have := g.w3; omega) fun i => (⟨fun h => mem_inS.2 ⟨bit_lt hs h, h⟩, fun h => (mem_inS.1 h).2⟩ : s.testBit i = true ↔ i ∈ inS l.length s)).symm
theorem out_cpl {m : LoomMill} {l : List LoomOrder} (g : Good m l) {s : Nat} (hs : s < 2 ^ l.length) : Cpl m (pick l (outS l.length s)) [] ↔ LfP m l s := by
 have hp := pow7 g.l7
 rw [pick_cpl (outS_nodup _ _) fun x hx => (mem_outS.1 hx).1]
 refine (fits_tog (by have := g.w3; omega) fun i => ?_).symm
 rw [dif_bit (lt128_62 (by omega)) (lt_pow62 g.l7 hs), all_bit, mem_outS]
 simp
theorem inS_succ {n s : Nat} : inS (n + 1) s = inS n s ++ (if s.testBit n = true then [n] else []) := by
 unfold inS
 rw [List.range_succ, List.filter_append]
 cases h : s.testBit n <;> simp [h]
theorem outS_succ {n s : Nat} : outS (n + 1) s = outS n s ++ (if s.testBit n = true then [] else [n]) := by
 unfold outS
 rw [List.range_succ, List.filter_append]
 cases h : s.testBit n <;> simp [h]
theorem inS_get {n s i : Nat} (hi : i < n) (hb : s.testBit i = true) : (inS n s)[(inS i s).length]? = some i := by
 obtain ⟨d, rfl⟩ : ∃ d, n = i + 1 + d := ⟨n - (i + 1), by omega⟩
 induction d with
 | zero => rw [Nat.add_zero, inS_succ, if_pos hb]; simp
 | succ d ih =>
  rw [← Nat.add_assoc, inS_succ]
  have h1 := ih (by omega)
  have h2 := (List.getElem?_eq_some_iff.1 h1).1
  rw [List.getElem?_append_left h2]; exact h1
theorem pick_app {l : List LoomOrder} {xs ys : List Nat} : pick l (xs ++ ys) = pick l xs ++ pick l ys := by unfold pick; exact List.map_append
theorem s42 {l : List LoomOrder} (hl : l.length ≤ 7) {s : Nat} (hs : s < 2 ^ l.length) : f42 l (nums s) = some (pick l (outS l.length s), pick l (inS l.length s), true) := by
 have hnl := nums_le hs (by omega)
 have hs62 := lt_pow62 hl hs
 have hni := nums_inS hs (by omega)
 refine Yes.eq ?_
 unfold f42
 refine Yes.jn ?_
 refine Yes.rng (σ := Unit) (fun _ i => ([], [], (i : Int))) 0 (nums s).length (fun _ _ => True) () rfl (Nat.zero_le _) (by omega) trivial (fun o _ kk' _ ho _ hk' => ?_) (fun _ kk' _ => ?_)
 ·have h2 : decide ((o : Int) < ((nums s).length : Int)) = true := decide_eq_true (Int.ofNat_lt.2 ho)
  obtain ⟨k, hk1, hk2⟩ := nums_at ho
  have hkw := bit_lt hs hk2
  dsimp only
  refine Yes.jn ?_
  rw [h2, cond_true]
  refine Yes.jn ?_
  rw [idx_at ho, hk1]
  have hg7 : ((some (k : Int)).bind fun j5 => bif decide (j5 < 0) then some true else (some (k : Int)).bind fun m5 => bif decide (m5 ≥ (l.length : Int)) then some true else bif decide ((o : Int) > 0) then (some (k : Int)).bind fun b9 => (idx (nums s) (w64 ((o : Int) - 1))).bind fun c9 => some (decide (b9 ≤ c9)) else some false) = some false := by
   simp only [Option.bind_some]
   rw [decide_eq_false (show ¬ (k : Int) < 0 by omega), decide_eq_false (show ¬ (k : Int) ≥ (l.length : Int) by omega)]
   simp only [cond_false]
   by_cases h0 : o = 0
   ·subst h0; rfl
   ·have hlt := List.pairwise_iff_getElem.1 (nums_pw s) (o - 1) o (by omega) ho (by omega)
    rw [decide_eq_true (show (o : Int) > 0 by omega), cond_true, w64_id (by omega) (by omega), show (o : Int) - 1 = ((o - 1 : Nat) : Int) by omega, idx_at (show o - 1 < (nums s).length by omega), Option.bind_some]
    rw [decide_eq_false (by omega)]
  refine Yes.bindv _ hg7 ?_
  rw [cond_false, w64_succ (by omega)]
  exact hk' () trivial
 ·have h2 : decide (((nums s).length : Int) < ((nums s).length : Int)) = false := by simp
  dsimp only
  refine Yes.jn ?_
  rw [h2, cond_false]
  refine Yes.bind ?_
  refine Yes.rng (σ := List LoomOrder × List LoomOrder × Int) (fun t i => (t.1, t.2.1, t.2.2, (i : Int))) 0 l.length (fun i t => t.1 = pick l (outS i s) ∧ t.2.1 = pick l (inS i s) ∧ t.2.2 = ((inS i s).length : Int)) ([], [], 0) rfl (Nat.zero_le _) (by omega) ⟨rfl, rfl, rfl⟩ (fun i t kk _ hi hI hk => ?_) (fun t kk hI => ?_)
  ·obtain ⟨a, b, c⟩ := t
   obtain ⟨h3, h4, h5⟩ := hI
   simp only at h3 h4 h5
   subst h3 h4 h5
   have h6 : decide ((i : Int) < (l.length : Int)) = true := decide_eq_true (Int.ofNat_lt.2 hi)
   have hil := inS_len i s
   have hol := outS_len i s
   dsimp only
   refine Yes.jn ?_
   rw [h6, cond_true]
   dsimp only
   have htest : (bif decide (((inS i s).length : Int) < ((nums s).length : Int)) then (idx (nums s) ((inS i s).length : Int)).bind fun u6 => some (u6 == (i : Int)) else some false) = some (s.testBit i) := by
    cases hb : s.testBit i with
    | true =>
     have hg := inS_get hi hb
     have hlt := (List.getElem?_eq_some_iff.1 hg).1
     have hlt' : (inS i s).length < (nums s).length := by rw [hni, List.length_map]; exact hlt
     rw [decide_eq_true (Int.ofNat_lt.2 hlt'), cond_true, idx_at hlt', Option.bind_some]
     have : (nums s)[(inS i s).length] = (i : Int) := by
      have h7 : (nums s)[(inS i s).length]? = some (i : Int) := by rw [hni, List.getElem?_map, hg]; rfl
      exact (List.getElem?_eq_some_iff.1 h7).2
     rw [this]; simp
    | false =>
     by_cases hlt : (inS i s).length < (nums s).length
     ·rw [decide_eq_true (Int.ofNat_lt.2 hlt), cond_true, idx_at hlt, Option.bind_some]
      have : (nums s)[(inS i s).length] ≠ (i : Int) := fun e => by
       have h7 := List.getElem_mem hlt
       rw [e] at h7
       have := (mem_nums hs62).1 h7
       rw [hb] at this; cases this
      congr 1
      rw [beq_eq_false_iff_ne]; exact this
     ·rw [decide_eq_false (fun h => hlt (Int.ofNat_lt.1 h))]; rfl
   refine Yes.bind (Yes.bindv _ htest ?_)
   have hpi : (pick l (inS i s)).length ≤ 7 := by simp [pick]; omega
   have hpo : (pick l (outS i s)).length ≤ 7 := by simp [pick]; omega
   rw [idx_od (l := l) (by omega) (by omega)]
   cases hb : s.testBit i with
   | true =>
    rw [cond_true, Option.bind_some, apnd40 (by omega), Option.bind_some, w64_succ (by omega)]
    refine Yes.some ?_
    dsimp only
    rw [w64_succ (by omega)]
    refine hk (_, _, _) ⟨?_, ?_, ?_⟩
    ·rw [outS_succ, if_pos hb, List.append_nil]; rfl
    ·rw [inS_succ, if_pos hb, pick_app]; rfl
    ·simp only; rw [inS_succ, if_pos hb]; simp
   | false =>
    rw [cond_false, Option.bind_some, apnd40 (by omega), Option.bind_some]
    refine Yes.some ?_
    dsimp only
    rw [w64_succ (by omega)]
    refine hk (_, _, _) ⟨?_, ?_, ?_⟩
    ·rw [outS_succ, if_neg (by simp [hb]), pick_app]; rfl
    ·rw [inS_succ, if_neg (by simp [hb]), List.append_nil]; rfl
    ·simp only; rw [inS_succ, if_neg (by simp [hb]), List.append_nil]
  ·obtain ⟨a, b, c⟩ := t
   obtain ⟨h3, h4, h5⟩ := hI
   simp only at h3 h4
   subst h3 h4
   have h6 : decide ((l.length : Int) < (l.length : Int)) = false := by simp
   dsimp only
   refine Yes.jn ?_
   rw [h6, cond_false]
   exact Yes.some (Yes.some rfl)
theorem nums_snoc {t k : Nat} (ht : t < 2 ^ k) (hk : k < 61) : nums (2 ^ k + t) = nums t ++ [(k : Int)] := by
 have hp : 2 ^ (k + 1) = 2 ^ k + 2 ^ k := by rw [Nat.pow_succ]; omega
 rw [nums_inS (n := k + 1) (by omega) (by omega), nums_inS ht (by omega), inS_succ, if_pos (by rw [Nat.testBit_two_pow_add_eq, Nat.testBit_lt_two_pow ht]; rfl), List.map_append]
 congr 2
 unfold inS
 refine List.filter_congr fun i hi => ?_
 rw [Nat.testBit_two_pow_add_gt (List.mem_range.1 hi)]
theorem nums_pow {k : Nat} (hk : k < 61) : nums (2 ^ k) = [(k : Int)] := by
 have := nums_snoc (t := 0) (k := k) (Nat.two_pow_pos k) hk
 rw [nums_zero] at this
 exact this
end Go.Proofs.Ytnfjhdagbknlbaa
