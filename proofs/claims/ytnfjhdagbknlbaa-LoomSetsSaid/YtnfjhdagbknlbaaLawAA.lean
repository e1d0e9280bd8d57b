/- Against, Left, Fewest: the two programs agree. -/
import Derived.Test.YtnfjhdagbknlbaaLawZ
import Derived.Test.YtnfjhdagbknlbaaKnown
set_option maxRecDepth 8000
namespace Go.Proofs.Ytnfjhdagbknlbaa
open Go.RowKit
open Classical

/-- No run is given. -/
def ng : Nat → Option LoomRun := fun _ => none
theorem days_ng : Days ng := fun _ _ h => by cases h
def allL (m : LoomMill) : List Int := nums (2 ^ m.Widths.length - 1)
def AgP (m : LoomMill) (l : List LoomOrder) (s : Nat) : Prop := ¬ TogP m l ng (allL m) s
def LfP (m : LoomMill) (l : List LoomOrder) (s : Nat) : Prop := TogP m l ng (allL m) (dif (2 ^ l.length - 1) s)
def FwP (m : LoomMill) (l : List LoomOrder) (q : Nat) : Prop := TogP m l ng (nums q) (2 ^ l.length - 1)
theorem ref_take {i : Nat} (hi : i < 2 ^ 62) {P : Nat → Prop} {u : List Int} {v : Bool} (hI : (u, v) = bp (best P i)) {a : Bool} (ha : a = true ↔ P i) :
    (Option.bind (bif !v then some a else (f62 (nums i) u).bind fun r => bif r then some a else some false) fun d => bif d then some (nums i, true) else some (u, v)) = some (bp (best P (i + 1))) := by
  have hlen := nums_len i
  cases hb : best P i with
  | none =>
    rw [hb] at hI
    cases hI
    have hbs : best P (i + 1) = if P i then some i else none := by
      unfold best; rw [hb]; simp
    rw [hbs]
    cases a with
    | true => rw [if_pos (ha.1 rfl)]; rfl
    | false => rw [if_neg fun h => by have := ha.2 h; cases this]; rfl
  | some b =>
    rw [hb] at hI
    cases hI
    have hlb := nums_len b
    have hbs : best P (i + 1) = if P i ∧ lessS i b then some i else some b := by
      rw [best, hb]
      have : (∀ b', some b = some b' → lessS i b') ↔ lessS i b := ⟨fun h => h b rfl, fun h b' e => by cases e; exact h⟩
      simp only [this]
    rw [hbs]
    obtain ⟨r, hr, hri⟩ := s62 (x := nums i) (y := nums b) (by omega) (by omega)
    have hri' : r = true ↔ lessS i b := hri
    rw [hr]
    cases r with
    | true =>
      cases a with
      | true => rw [if_pos ⟨ha.1 rfl, hri'.1 rfl⟩]; rfl
      | false => rw [if_neg fun h => by have := ha.2 h.1; cases this]; rfl
    | false => rw [if_neg fun h => by have := hri'.2 h.2; cases this]; rfl
theorem le_pred {i n : Nat} : decide ((i : Int) ≤ ((2 ^ n - 1 : Nat) : Int)) = decide (i < 2 ^ n) := by
  have := Nat.two_pow_pos n
  rw [decide_eq_decide]; omega
theorem s26 {m : LoomMill} {l : List LoomOrder} (g : Good m l) : f26 m l = some (bp (best (AgP m l) (2 ^ l.length))) := by
  have hw3 := g.w3
  have hl7 := g.l7
  have hp := pow7 hl7
  have hpw := pow7 (show m.Widths.length ≤ 7 by omega)
  refine Yes.eq ?_
  unfold f26
  refine Yes.bind ?_
  refine Yes.rng (fun (s : List Int × Bool) i => (s.1, s.2, (i : Int))) 0 (2 ^ l.length) (fun i s => s = bp (best (AgP m l) i)) ([], false) rfl (Nat.zero_le _) (by omega) rfl (fun i s k _ hi hI hk => ?_) (fun s k hI => ?_)
  · obtain ⟨u, v⟩ := s
    have hi62 := lt_pow62 hl7 hi
    dsimp only
    refine Yes.jn ?_
    rw [s60 (by omega), Option.bind_some, le_pred, decide_eq_true hi, cond_true, s60 (by omega), s61 hi62]
    dsimp only
    simp only [Option.bind_some]
    rw [s63 g hi (by omega)]
    simp only [Option.bind_some]
    rw [ref_take hi62 hI (a := !decide (TogP m l (fun x => none) (nums (2 ^ m.Widths.length - 1)) i)) (by unfold AgP; rw [Bool.not_eq_true', decide_eq_false_iff_not]; exact Iff.rfl), w64_succ (by omega)]
    exact hk _ rfl
  · subst hI
    dsimp only
    refine Yes.jn ?_
    rw [s60 (by omega), Option.bind_some, le_pred, decide_eq_false (by omega), cond_false]
    exact Yes.some (Yes.some rfl)
theorem s27 {m : LoomMill} {l : List LoomOrder} (g : Good m l) : f27 m l = some (bp (best (FwP m l) (2 ^ m.Widths.length))) := by
  have hw3 := g.w3
  have hl7 := g.l7
  have hp := pow7 hl7
  have hpw := pow7 (show m.Widths.length ≤ 7 by omega)
  refine Yes.eq ?_
  unfold f27
  refine Yes.bind ?_
  refine Yes.rng (fun (s : List Int × Bool) i => (s.1, s.2, (i : Int))) 0 (2 ^ m.Widths.length) (fun i s => s = bp (best (FwP m l) i)) ([], false) rfl (Nat.zero_le _) (by omega) rfl (fun i s k _ hi hI hk => ?_) (fun s k hI => ?_)
  · obtain ⟨u, v⟩ := s
    have hi62 := lt_pow62 (show m.Widths.length ≤ 7 by omega) hi
    dsimp only
    refine Yes.jn ?_
    rw [s60 (by omega), Option.bind_some, le_pred, decide_eq_true hi, cond_true, s60 (by omega), s61 hi62]
    dsimp only
    simp only [Option.bind_some]
    rw [s63 g (show 2 ^ l.length - 1 < 2 ^ l.length by omega) hi62]
    simp only [Option.bind_some]
    rw [ref_take hi62 hI (a := decide (TogP m l (fun x => none) (nums i) (2 ^ l.length - 1))) decide_eq_true_iff, w64_succ (by omega)]
    exact hk _ rfl
  · subst hI
    dsimp only
    refine Yes.jn ?_
    rw [s60 (by omega), Option.bind_some, le_pred, decide_eq_false (by omega), cond_false]
    exact Yes.some (Yes.some rfl)
theorem sub_dif {n s : Nat} (hn : n ≤ 7) (hs : s < 2 ^ n) : 2 ^ n - 1 - s = dif (2 ^ n - 1) s := by
  have hp := pow7 hn
  apply Nat.eq_of_testBit_eq
  intro i
  rw [dif_bit (lt128_62 (by omega)) (lt128_62 (by omega)), show 2 ^ n - 1 - s = 2 ^ n - (s + 1) by omega, Nat.testBit_two_pow_sub_succ hs, all_bit]
theorem len_filter {p q : Nat → Bool} {xs : List Nat} (h : ∀ x ∈ xs, p x = true → q x = true) : (xs.filter p).length ≤ (xs.filter q).length ∧ ((∃ x ∈ xs, q x = true ∧ p x = false) → (xs.filter p).length < (xs.filter q).length) := by
  induction xs with
  | nil => exact ⟨Nat.le_refl _, fun ⟨x, hx, _⟩ => by cases hx⟩
  | cons x xs ih =>
    have h2 := ih fun y hy => h y (by simp [hy])
    have hx := h x (by simp)
    constructor
    · cases hp : p x with
      | true => have := hx hp; simp [hp, this]; exact h2.1
      | false => cases hq : q x <;> simp [hp, hq] <;> omega
    · rintro ⟨y, hy, hq, hpn⟩
      rcases List.mem_cons.1 hy with rfl | hy
      · simp [hq, hpn]; omega
      · have h3 := h2.2 ⟨y, hy, hq, hpn⟩
        cases hp : p x with
        | true => have := hx hp; simp [hp, this]; exact h3
        | false => cases hq : q x <;> simp [hp, hq] <;> omega
theorem nums_strict {a b : Nat} (hb : b < 2 ^ 62) (h : ∀ i, a.testBit i = true → b.testBit i = true) (hne : a ≠ b) : (nums a).length < (nums b).length := by
  have : ∃ i, b.testBit i = true ∧ a.testBit i = false := by
    by_cases hx : ∃ i, b.testBit i = true ∧ a.testBit i = false
    · exact hx
    · exfalso
      apply hne
      apply Nat.eq_of_testBit_eq
      intro i
      cases ha : a.testBit i with
      | true => exact (h i ha).symm
      | false =>
        cases hb : b.testBit i with
        | false => rfl
        | true => exact absurd ⟨i, hb, ha⟩ hx
  obtain ⟨i, h1, h2⟩ := this
  unfold nums; rw [List.length_map, List.length_map]
  exact (len_filter fun x _ => h x).2 ⟨i, List.mem_range.2 (bit_lt hb h1), h1, h2⟩
theorem lf_all {m : LoomMill} {l : List LoomOrder} (g : Good m l) : LfP m l (2 ^ l.length - 1) := by
  have hp := pow7 g.l7
  unfold LfP
  rw [← sub_dif g.l7 (by omega), Nat.sub_self]
  exact ⟨fun _ => 0, fun _ => 0, fun i hi => absurd hi (by simp), fun i _ hi => absurd hi (by simp)⟩
/-- Some orders can always be left out. -/
theorem lf_some {m : LoomMill} {l : List LoomOrder} (g : Good m l) : ∃ s, best (LfP m l) (2 ^ l.length) = some s := by
  cases h : best (LfP m l) (2 ^ l.length) with
  | some s => exact ⟨s, rfl⟩
  | none => exact absurd (lf_all g) (best_none h _ (by have := (pow7 g.l7).2; omega))
theorem s29 {m : LoomMill} {l : List LoomOrder} (g : Good m l) : Yes (f29 m l) fun r => ∃ s, best (LfP m l) (2 ^ l.length) = some s ∧ r = nums s := by
  have hw3 := g.w3
  have hl7 := g.l7
  have hp := pow7 hl7
  have hpw := pow7 (show m.Widths.length ≤ 7 by omega)
  unfold f29
  rw [s60 (show l.length ≤ 61 by omega), Option.bind_some, s61 (lt128_62 (by omega)), Option.bind_some]
  refine Yes.bind ?_
  refine Yes.rng (fun (s : List Int) i => (s, (i : Int))) 0 (2 ^ l.length) (fun i s => s = match best (LfP m l) i with | none => nums (2 ^ l.length - 1) | some b => nums b) _ rfl (Nat.zero_le _) (by omega) rfl (fun i s k _ hi hI hk => ?_) (fun s k hI => ?_)
  · have hi62 := lt_pow62 hl7 hi
    have hlen := nums_len i
    have hall62 : 2 ^ l.length - 1 < 2 ^ 62 := lt128_62 (by omega)
    have hla := nums_len (2 ^ l.length - 1)
    dsimp only
    refine Yes.jn ?_
    rw [Option.bind_some, le_pred, decide_eq_true hi, cond_true, s60 (show m.Widths.length ≤ 61 by omega), s61 hi62]
    dsimp only
    simp only [Option.bind_some]
    have hsub : w64 (((2 ^ l.length - 1 : Nat) : Int) - (i : Int)) = ((dif (2 ^ l.length - 1) i : Nat) : Int) := by
      rw [← sub_dif hl7 hi, w64_id (by omega) (by omega)]; omega
    have hdl := dif_le (2 ^ l.length - 1) i
    rw [hsub, s63 g (show dif (2 ^ l.length - 1) i < 2 ^ l.length by omega) (lt128_62 (by omega))]
    simp only [Option.bind_some]
    rw [w64_succ (by omega)]
    have ha : (decide (TogP m l (fun x => none) (nums (2 ^ m.Widths.length - 1)) (dif (2 ^ l.length - 1) i)) = true) ↔ LfP m l i := decide_eq_true_iff
    generalize decide (TogP m l (fun x => none) (nums (2 ^ m.Widths.length - 1)) (dif (2 ^ l.length - 1) i)) = a at ha
    have hls : s.length ≤ 62 := by rw [hI]; split <;> exact nums_len _
    obtain ⟨r, hr, hri⟩ := s62 (x := nums i) (y := s) (by omega) (by omega)
    rw [hr]
    have hgo : (bif r && a then nums i else s) = (match best (LfP m l) (i + 1) with | none => nums (2 ^ l.length - 1) | some b => nums b) := by
      cases hb : best (LfP m l) i with
      | none =>
        rw [hb] at hI
        have hI : s = nums (2 ^ l.length - 1) := hI
        have hbs : best (LfP m l) (i + 1) = if LfP m l i then some i else none := by
          unfold best; rw [hb]; simp
        rw [hbs]
        by_cases hia : i = 2 ^ l.length - 1
        · have hr0 : r = false := by
            cases r with
            | false => rfl
            | true =>
              have := hri.1 rfl
              rw [hI, hia] at this
              rcases this with h | h
              · omega
              · exact absurd h.2 lexL_irr
          have hlf : LfP m l i := by rw [hia]; exact lf_all g
          rw [hr0, if_pos hlf, hI, hia]; rfl
        · have hr1 : r = true := by
            refine hri.2 (.inl ?_)
            rw [hI]
            exact nums_strict hall62 (fun j hj => by rw [all_bit]; exact decide_eq_true (bit_lt hi hj)) hia
          rw [hr1]
          cases a with
          | true => rw [if_pos (ha.1 rfl)]; rfl
          | false => rw [if_neg fun h => by have := ha.2 h; cases this]; exact hI
      | some b =>
        rw [hb] at hI
        have hbs : best (LfP m l) (i + 1) = if LfP m l i ∧ lessS i b then some i else some b := by
          rw [best, hb]
          have : (∀ b', some b = some b' → lessS i b') ↔ lessS i b := ⟨fun h => h b rfl, fun h b' e => by cases e; exact h⟩
          simp only [this]
        rw [hbs]
        have hri' : r = true ↔ lessS i b := by rw [hri, hI]; rfl
        cases r with
        | true =>
          cases a with
          | true => rw [if_pos ⟨ha.1 rfl, hri'.1 rfl⟩]; rfl
          | false => rw [if_neg fun h => by have := ha.2 h.1; cases this]; exact hI
        | false => rw [if_neg fun h => by have := hri'.2 h.2; cases this]; exact hI
    cases r with
    | false => exact hk _ hgo
    | true =>
      cases a with
      | false => exact hk _ hgo
      | true => exact hk _ hgo
  · dsimp only
    refine Yes.jn ?_
    rw [Option.bind_some, le_pred, decide_eq_false (by omega), cond_false]
    obtain ⟨b, hb⟩ := lf_some g
    rw [hb] at hI
    exact Yes.some (Yes.some ⟨b, hb, hI⟩)

/-! ### The program -/
theorem all_ok (m : LoomMill) (hw : m.Widths.length ≤ 7) : ∀ x ∈ allL m, 0 ≤ x ∧ x < m.Widths.length := fun x hx => by
  obtain ⟨k, rfl, _, h⟩ := nums_nn hx
  rw [all_bit] at h
  have := of_decide_eq_true h
  omega
theorem some_ok {m : LoomMill} {q : Nat} (hq : q < 2 ^ m.Widths.length) : ∀ x ∈ nums q, 0 ≤ x ∧ x < m.Widths.length := fun x hx => by
  obtain ⟨k, rfl, _, h⟩ := nums_nn hx
  have := bit_lt hq h
  omega
theorem s51a {m : LoomMill} {l : List LoomOrder} (g : Good m l) : f51 ⟨m, l⟩ (allL m) [] = some (bl l.length (TogP m l ng (allL m))) := s51 g (f := []) days_ng (nums_nodup _) (all_ok m (by have := g.w3; omega))
theorem s23 (m : LoomMill) (l : List LoomOrder) : f23 m l = some (if chkE m l ≠ 0 then ([], chkE m l) else match best (AgP m l) (2 ^ l.length) with | none => ([], 7) | some s => (nums s, 0)) := by
  unfold f23
  rw [s50, Option.bind_some]
  by_cases hc : chkE m l = 0
  · have g := good_of hc
    have hor : openR m l = (⟨m, l⟩, 0) := by simp [openR, hc]
    rw [hor, if_neg (by simp [hc])]
    have h0 : ((0 : Int) != 0) = false := rfl
    simp only [jn, h0, cond_false, s52 g, Option.bind_some]
    have := s51a g
    unfold allL at this
    rw [this, Option.bind_some, s55 g.l7 (P := AgP m l) (fun s hs => ?_), Option.bind_some]
    · cases best (AgP m l) (2 ^ l.length) <;> rfl
    · unfold f56
      rw [bl_idx hs, Option.bind_some]
      congr 1
      unfold AgP allL
      rw [Bool.eq_iff_iff]; simp
  · have hor : openR m l = (⟨⟨[], 0⟩, []⟩, chkE m l) := by simp [openR, hc]
    have h0 : (chkE m l != 0) = true := by simp [hc]
    rw [hor, if_pos hc]
    simp only [jn, h0, cond_true]
theorem s24 (m : LoomMill) (l : List LoomOrder) : f24 m l = some (if chkE m l ≠ 0 then ([], chkE m l) else ((bp (best (LfP m l) (2 ^ l.length))).1, 0)) := by
  unfold f24
  rw [s50, Option.bind_some]
  by_cases hc : chkE m l = 0
  · have g := good_of hc
    have hp := pow7 g.l7
    have hor : openR m l = (⟨m, l⟩, 0) := by simp [openR, hc]
    rw [hor, if_neg (by simp [hc])]
    have h0 : ((0 : Int) != 0) = false := rfl
    simp only [jn, h0, cond_false, s52 g, Option.bind_some]
    have := s51a g
    unfold allL at this
    rw [this, Option.bind_some, s55 g.l7 (P := LfP m l) (fun s hs => ?_), Option.bind_some]
    · have hdl := dif_le (2 ^ l.length - 1) s
      unfold f57
      rw [s53 g, Option.bind_some, andn64 (lt128_62 (by omega)) (lt128_62 (by omega)), bl_idx (by omega), Option.bind_some]
      rfl
  · have hor : openR m l = (⟨⟨[], 0⟩, []⟩, chkE m l) := by simp [openR, hc]
    have h0 : (chkE m l != 0) = true := by simp [hc]
    rw [hor, if_pos hc]
    simp only [jn, h0, cond_true]
theorem s25 (m : LoomMill) (l : List LoomOrder) : f25 m l = some (if chkE m l ≠ 0 then ([], chkE m l) else match best (FwP m l) (2 ^ m.Widths.length) with | none => ([], 9) | some s => (nums s, 0)) := by
  unfold f25
  rw [s50, Option.bind_some]
  by_cases hc : chkE m l = 0
  · have g := good_of hc
    have hw3 := g.w3
    have hp := pow7 g.l7
    have hor : openR m l = (⟨m, l⟩, 0) := by simp [openR, hc]
    rw [hor, if_neg (by simp [hc])]
    have h0 : ((0 : Int) != 0) = false := rfl
    simp only [jn, h0, cond_false]
    rw [s55 (show m.Widths.length ≤ 7 by omega) (P := FwP m l) (fun q hq => ?_), Option.bind_some]
    · cases best (FwP m l) (2 ^ m.Widths.length) <;> rfl
    · unfold f58
      rw [s59 (lt_pow62 (show m.Widths.length ≤ 7 by omega) hq), Option.bind_some, s51 g (f := []) days_ng (nums_nodup _) (some_ok hq), Option.bind_some, s53 g, Option.bind_some, bl_idx (by omega), Option.bind_some]
      rfl
  · have hor : openR m l = (⟨⟨[], 0⟩, []⟩, chkE m l) := by simp [openR, hc]
    have h0 : (chkE m l != 0) = true := by simp [hc]
    rw [hor, if_pos hc]
    simp only [jn, h0, cond_true]
theorem s4 (m : LoomMill) (l : List LoomOrder) : f4 m l = some true := by
  unfold f4
  simp only [jn, s12, Option.bind_some, known_ok]
  by_cases hL : m.Widths.length > 10 ∨ (l.length : Int) > 4 ∧ l.length ≤ 7 ∨ l.length > 10
  · simp [hL]
  · have hm : m.Widths.length ≤ 10 := by omega
    have hl : l.length ≤ 10 := by omega
    rw [decide_eq_false hL]
    rw [s15 m (by omega), s16 l (by omega)]
    simp only [cond_false, Option.bind_some, s23, s24, s25, s18 m m (by omega), s19 l l (by omega), s20, decide_true, Bool.not_true]
    by_cases hc : chkE m l = 0
    · have g := good_of hc
      obtain ⟨x, hx, s, hs, rfl⟩ := s29 g
      have h0 : ((0 : Int) != 0) = false := rfl
      have h1 : ((0 : Int) == 0) = true := rfl
      have h7 : ((7 : Int) != 7) = false := rfl
      have h9 : ((9 : Int) != 9) = false := rfl
      have e28 : ∀ a, f28 (nums a) (nums a) = some true := fun a => by rw [s28 _ _ (by have := nums_len a; omega)]; simp
      simp only [hc, ne_eq, not_true_eq_false, if_false, h0, cond_false, s26 g, s27 g, hx, Option.bind_some, hs, bp, h1, cond_true, e28]
      cases best (AgP m l) (2 ^ l.length) <;> cases best (FwP m l) (2 ^ m.Widths.length) <;> simp [bp, e28]
    · have h0 : (chkE m l != 0) = true := by simp [hc]
      simp [hc, h0]
end Go.Proofs.Ytnfjhdagbknlbaa
