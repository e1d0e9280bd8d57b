/- PayMends. -/
import Derived.Test.YtkmbkaoolacofaaGreatLawMH
set_option maxRecDepth 8000
namespace Go.Proofs.YtkmbkaoolacofaaGreat
open Go.RowKit
open Classical

def z0 : PayEntry := ⟨0, 0, 0, 0⟩
def MendQ (t : PayTable) (r : PayEntry × Int) : Prop := (∀ x ∈ ents t, Good t x → r = (x, 0)) ∧ (r = (z0, 9) ∨ ∃ x ∈ ents t, Good t x ∧ r = (x, 0))
theorem rng_at {n : Nat} {f : Nat → Int} {i : Nat} (h : i < n) : ((List.range n).map f)[i]'(by simpa using h) = f i := by simp
theorem rng_zero {n : Nat} {f : Nat → Int} : many ((List.range n).map f) = 0 ↔ ∀ i, i < n → f i = 0 := by
 rw [many_zero]
 constructor
 ·intro h i hi; exact h _ (List.mem_map.2 ⟨i, List.mem_range.2 hi, rfl⟩)
 ·intro h x hx
  obtain ⟨i, hi, rfl⟩ := List.mem_map.1 hx
  exact h i (List.mem_range.1 hi)
theorem rng_one {n : Nat} {f : Nat → Int} {i : Nat} (hi : i < n) (h1 : f i ≠ 0) (hm : many ((List.range n).map f) = 1) : ∀ j, j < n → j ≠ i → f j = 0 := fun j hj hji => Classical.byContradiction fun hne => hji (by
 have := many_one hm j i (by simpa using hj) (by simpa using hi) (by rw [rng_at hj]; exact hne) (by rw [rng_at hi]; exact h1)
 exact this)
theorem only_one {n : Nat} {f : Nat → Int} {i : Nat} (hi : i < n) (h1 : f i ≠ 0) (ho : ∀ j, j < n → j ≠ i → f j = 0) : many ((List.range n).map f) = 1 := by
 induction n with
 | zero => exact absurd hi (Nat.not_lt_zero _)
 | succ n ih =>
  have hc : many ((List.range (n + 1)).map f) = many ((List.range n).map f) + if f n = 0 then 0 else 1 := by
   unfold many
   rw [List.range_succ, List.map_append, List.countP_append]
   by_cases hx : f n = 0 <;> simp [hx]
  rw [hc]
  by_cases hin : i = n
  ·subst hin
   rw [if_neg h1, rng_zero.2 fun j hj => ho j (by omega) (by omega)]
  ·rw [ih (by omega) fun j hj hji => ho j (by omega) hji, if_pos (ho n (by omega) fun h => hin h.symm)]
def PAt (t : PayTable) (i k : Nat) : Prop := i < t.Rows.length ∧ k < t.Down.length ∧ ro t i ≠ 0 ∧ co t k = ro t i ∧ (∀ j, j < t.Rows.length → j ≠ i → ro t j = 0) ∧ (∀ m, m < t.Down.length → m ≠ k → co t m = 0) ∧ ac t = 0 ∧ dn t = 0
def PCt (t : PayTable) (i : Nat) : Prop := i < t.Rows.length ∧ ro t i ≠ 0 ∧ (∀ j, j < t.Rows.length → j ≠ i → ro t j = 0) ∧ (∀ m, m < t.Down.length → co t m = 0) ∧ ac t + ro t i = 0 ∧ dn t = 0
def PDt (t : PayTable) (k : Nat) : Prop := k < t.Down.length ∧ co t k ≠ 0 ∧ (∀ j, j < t.Rows.length → ro t j = 0) ∧ (∀ m, m < t.Down.length → m ≠ k → co t m = 0) ∧ ac t = 0 ∧ dn t + co t k = 0
def PTt (t : PayTable) : Prop := (∀ j, j < t.Rows.length → ro t j = 0) ∧ (∀ m, m < t.Down.length → co t m = 0) ∧ ac t = dn t
theorem good_is {t : PayTable} (h : TOk t) (hn : ¬ RightP t) {x : PayEntry} (hx : x ∈ ents t) (hg : Good t x) : (∃ i k, PAt t i k ∧ x = entA t i k ∧ 0 ≤ x.Number ∧ x.Number ≤ 1000000) ∨ (∃ i, PCt t i ∧ x = entC t i) ∨ (∃ k, PDt t k ∧ x = entD t k) ∨ (PTt t ∧ x = entT t ∧ 0 ≤ t.Total + ac t ∧ t.Total + ac t ≤ 1000000000) := by
 rcases mem_ents.1 hx with ⟨i, k, hi, hk, rfl⟩ | ⟨i, hi, rfl⟩ | ⟨k, hk, rfl⟩ | rfl
 ·obtain ⟨g1, g2, g3, g4, g5, g6, g7⟩ := (goodA h hi hk).1 hg
  refine .inl ⟨i, k, ⟨hi, hk, fun h0 => hn ⟨fun j hj => ?_, fun m hm => ?_, g4, g5⟩, g3, g1, g2, g4, g5⟩, rfl, g6, g7⟩
  ·by_cases hji : j = i
   ·rw [hji]; exact h0
   ·exact g1 j hj hji
  ·by_cases hmk : m = k
   ·rw [hmk, g3]; exact h0
   ·exact g2 m hm hmk
 ·obtain ⟨g1, g2, g3, g4⟩ := (goodC h hi).1 hg
  refine .inr (.inl ⟨i, ⟨hi, fun h0 => hn ⟨fun j hj => ?_, g2, by omega, g4⟩, g1, g2, g3, g4⟩, rfl⟩)
  by_cases hji : j = i
  ·rw [hji]; exact h0
  ·exact g1 j hj hji
 ·obtain ⟨g1, g2, g3, g4⟩ := (goodD h hk).1 hg
  refine .inr (.inr (.inl ⟨k, ⟨hk, fun h0 => hn ⟨g1, fun m hm => ?_, g3, by omega⟩, g1, g2, g3, g4⟩, rfl⟩))
  by_cases hmk : m = k
  ·rw [hmk]; exact h0
  ·exact g2 m hm hmk
 ·obtain ⟨g1, g2, g3, g4, g5⟩ := (goodT h).1 hg
  exact .inr (.inr (.inr ⟨⟨g1, g2, g3⟩, rfl, g4, g5⟩))
theorem good_one {t : PayTable} (h : TOk t) (hn : ¬ RightP t) {x y : PayEntry} (hx : x ∈ ents t) (hgx : Good t x) (hy : y ∈ ents t) (hgy : Good t y) : x = y := by
 rcases good_is h hn hx hgx with ⟨i, k, ⟨a1, a2, a3, a4, a5, a6, a7, a8⟩, rfl, _⟩ | ⟨i, ⟨a1, a3, a5, a6, a7, a8⟩, rfl⟩ | ⟨k, ⟨a2, a3, a5, a6, a7, a8⟩, rfl⟩ | ⟨⟨a5, a6, a7⟩, rfl, _⟩ <;>
  rcases good_is h hn hy hgy with ⟨i', k', ⟨b1, b2, b3, b4, b5, b6, b7, b8⟩, rfl, _⟩ | ⟨i', ⟨b1, b3, b5, b6, b7, b8⟩, rfl⟩ | ⟨k', ⟨b2, b3, b5, b6, b7, b8⟩, rfl⟩ | ⟨⟨b5, b6, b7⟩, rfl, _⟩
 ·have e1 : i = i' := Classical.byContradiction fun hne => a3 (b5 i a1 hne)
  have e2 : k = k' := Classical.byContradiction fun hne => by have := b6 k a2 hne; omega
  rw [e1, e2]
 ·exact absurd (b6 k a2) (by omega)
 ·exact absurd (b5 i a1) a3
 ·exact absurd (b5 i a1) a3
 ·exact absurd (a6 k' b2) (by omega)
 ·have e1 : i = i' := Classical.byContradiction fun hne => a3 (b5 i a1 hne)
  rw [e1]
 ·exact absurd (b5 i a1) a3
 ·exact absurd (b5 i a1) a3
 ·exact absurd (a5 i' b1) b3
 ·exact absurd (a5 i' b1) b3
 ·have e2 : k = k' := Classical.byContradiction fun hne => a3 (b6 k a2 hne)
  rw [e2]
 ·exact absurd (b6 k a2) a3
 ·exact absurd (a5 i' b1) b3
 ·exact absurd (a5 i' b1) b3
 ·exact absurd (a6 k' b2) b3
 ·rfl
theorem mq_some {t : PayTable} (h : TOk t) (hn : ¬ RightP t) {x : PayEntry} (hx : x ∈ ents t) (hg : Good t x) : MendQ t (x, 0) := ⟨fun y hy hgy => by rw [good_one h hn hx hg hy hgy], .inr ⟨x, hx, hg, rfl⟩⟩
theorem mq_none {t : PayTable} (hn : ∀ y ∈ ents t, ¬ Good t y) : MendQ t (z0, 9) := ⟨fun y hy hg => absurd hg (hn y hy), .inl rfl⟩
theorem ros_at {n : Nat} {f : Nat → Int} {a : Int} (h : lastP ((List.range n).map f) a) (hm : many ((List.range n).map f) = 1) : ∃ i : Nat, a = (i : Int) ∧ i < n ∧ f i ≠ 0 ∧ ∀ j, j < n → j ≠ i → f j = 0 := by
 obtain ⟨i, e, hi, hne⟩ := h.2 (by omega)
 have hi' : i < n := by simpa using hi
 rw [rng_at hi'] at hne
 exact ⟨i, e, hi', hne, rng_one hi' hne hm⟩
theorem s42 {t : PayTable} (h : Smt t) (he : chkR t = 0) : Yes (f42 t) (fun r => (RightP t → r = (z0, 0)) ∧ (¬ RightP t → MendQ t r)) := by
 obtain ⟨hk, _⟩ := tok_chk he
 have hr6 := hk.r; have hd6 := hk.d; have hal := hk.s.a
 obtain ⟨ha, hd, ht⟩ := hk.acb
 unfold f42
 refine qbind _ (s66 h) (Yes.jn (qskip (by rw [he]; rfl) (qbind _ (s67 hk) (Yes.bind ((s71 (xs := (List.range t.Rows.length).map (ro t)) (by simp; omega)).mono fun l hl => Yes.bind ((s71 (xs := (List.range t.Down.length).map (co t)) (by simp; omega)).mono fun u hu => Yes.jn ?_))))))
 obtain ⟨l1, l2⟩ := l
 obtain ⟨u1, u2⟩ := u
 obtain ⟨hl1, hl2⟩ := hl
 obtain ⟨hu1, hu2⟩ := hu
 simp only at hl1 hl2 hu1 hu2
 have z1 := rng_zero (n := t.Rows.length) (f := ro t)
 have z2 := rng_zero (n := t.Down.length) (f := co t)
 refine Yes.bind (Yes.mono (Q' := fun b => b = decide (RightP t)) ?_ fun b hb => ?_)
 ·refine Yes.cond (fun hc => Yes.cond (fun hc2 => Yes.cond (fun hc3 => Yes.some ?_) (fun hc3 => Yes.some ?_)) (fun hc2 => Yes.some ?_)) (fun hc => Yes.some ?_)
  ·have e1 : l2 = 0 := beq_iff_eq.1 hc
   have e2 : u2 = 0 := beq_iff_eq.1 hc2
   have e3 : ac t = 0 := beq_iff_eq.1 hc3
   rw [Bool.eq_iff_iff, decide_eq_true_iff, beq_iff_eq]
   exact ⟨fun e4 => ⟨z1.1 (by omega), z2.1 (by omega), e3, e4⟩, fun hp => hp.d⟩
  ·exact (decide_eq_false fun hp => beq_eq_false_iff_ne.1 hc3 hp.a).symm
  ·have e2 : u2 ≠ 0 := beq_eq_false_iff_ne.1 hc2
   exact (decide_eq_false fun hp => e2 (by rw [hu1, z2.2 hp.c]; rfl)).symm
  ·have e1 : l2 ≠ 0 := beq_eq_false_iff_ne.1 hc
   exact (decide_eq_false fun hp => e1 (by rw [hl1, z1.2 hp.r]; rfl)).symm
 subst hb
 refine Yes.cond (fun hc => Yes.some ⟨fun _ => rfl, fun hn => absurd (of_decide_eq_true hc) hn⟩) (fun hc => ?_)
 have hn : ¬ RightP t := of_decide_eq_false hc
 refine Yes.mono (Q' := fun r => MendQ t r) ?_ fun r hr => ⟨fun hp => absurd hp hn, fun _ => hr⟩
 -- an answer, or none
 have ans : ∀ {x : PayEntry} {b : Bool}, x ∈ ents t → (b = true → Good t x) → (b = false → ∀ y ∈ ents t, ¬ Good t y) → Yes (bif (!b) then some ((⟨0, 0, 0, 0⟩ : PayEntry), (9 : Int)) else some (x, (0 : Int))) (fun r => MendQ t r) := fun {x b} hx h1 h2 => by
  cases b with
  | true => exact qskip rfl (Yes.some (mq_some hk hn hx (h1 rfl)))
  | false => exact qtake rfl (Yes.some (mq_none (h2 rfl)))
 have r1 : ∀ {i}, i < t.Rows.length → ro t i ≠ 0 → (∀ j, j < t.Rows.length → j ≠ i → ro t j = 0) → l2 = 1 := fun h1 h2 h3 => by rw [hl1, only_one h1 h2 h3]; rfl
 have c1 : ∀ {k}, k < t.Down.length → co t k ≠ 0 → (∀ j, j < t.Down.length → j ≠ k → co t j = 0) → u2 = 1 := fun h1 h2 h3 => by rw [hu1, only_one h1 h2 h3]; rfl
 have r0 : (∀ j, j < t.Rows.length → ro t j = 0) → l2 = 0 := fun h1 => by rw [hl1, z1.2 h1]; rfl
 have c0 : (∀ j, j < t.Down.length → co t j = 0) → u2 = 0 := fun h1 => by rw [hu1, z2.2 h1]; rfl
 have rI : l2 = 1 → ∃ i : Nat, l1 = (i : Int) ∧ i < t.Rows.length ∧ ro t i ≠ 0 ∧ ∀ j, j < t.Rows.length → j ≠ i → ro t j = 0 := fun e => ros_at hl2 (by omega)
 have cI : u2 = 1 → ∃ k : Nat, u1 = (k : Int) ∧ k < t.Down.length ∧ co t k ≠ 0 ∧ ∀ j, j < t.Down.length → j ≠ k → co t j = 0 := fun e => ros_at hu2 (by omega)
 have ix1 : ∀ {i : Nat}, i < t.Rows.length → idx ((List.range t.Rows.length).map (ro t)) (i : Int) = some (ro t i) := fun {i} hi => by rw [qidx (by simpa using hi), rng_at hi]
 have ix2 : ∀ {i : Nat}, i < t.Down.length → idx ((List.range t.Down.length).map (co t)) (i : Int) = some (co t i) := fun {i} hi => by rw [qidx (by simpa using hi), rng_at hi]
 refine Yes.bind (Yes.mono (Q' := fun b => (b = true → ∃ i k : Nat, l1 = (i : Int) ∧ u1 = (k : Int) ∧ PAt t i k) ∧ (b = false → ∀ i k, ¬ PAt t i k)) ?_ fun b hb => ?_)
 ·refine Yes.cond (fun hc1 => Yes.cond (fun hc2 => Yes.cond (fun hc3 => Yes.cond (fun hc4 => ?_) (fun hc4 => Yes.some ⟨fun h => (by cases h), fun _ i k (hp : PAt t i k) => beq_eq_false_iff_ne.1 hc4 hp.2.2.2.2.2.2.2⟩)) (fun hc3 => Yes.some ⟨fun h => (by cases h), fun _ i k (hp : PAt t i k) => beq_eq_false_iff_ne.1 hc3 hp.2.2.2.2.2.2.1⟩)) (fun hc2 => Yes.some ⟨fun h => (by cases h), fun _ i k (hp : PAt t i k) => beq_eq_false_iff_ne.1 hc2 (c1 hp.2.1 (hp.2.2.2.1 ▸ hp.2.2.1) hp.2.2.2.2.2.1)⟩)) (fun hc1 => Yes.some ⟨fun h => (by cases h), fun _ i k (hp : PAt t i k) => beq_eq_false_iff_ne.1 hc1 (r1 hp.1 hp.2.2.1 hp.2.2.2.2.1)⟩)
  obtain ⟨i, e1, i1, i2, i3⟩ := rI (beq_iff_eq.1 hc1)
  obtain ⟨k, e2, k1, k2, k3⟩ := cI (beq_iff_eq.1 hc2)
  rw [e1, e2]
  refine qbind _ (ix1 i1) (qbind _ (ix2 k1) (Yes.some ⟨fun hb => ⟨i, k, rfl, rfl, i1, k1, i2, (beq_iff_eq.1 hb).symm, i3, k3, beq_iff_eq.1 hc3, beq_iff_eq.1 hc4⟩, fun hb i' k' hp => ?_⟩))
  have a1 : i' = i := Classical.byContradiction fun hne => hp.2.2.1 (i3 i' hp.1 hne)
  have a2 : k' = k := Classical.byContradiction fun hne => by have := k3 k' hp.2.1 hne; have := hp.2.2.1; have := hp.2.2.2.1; omega
  subst a1 a2
  exact beq_eq_false_iff_ne.1 hb hp.2.2.2.1.symm
 refine Yes.cond (fun hc1 => ?_) (fun hc1 => ?_)
 ·obtain ⟨i, k, e1, e2, p1, p2, p3, p4, p5, p6, p7, p8⟩ := hb.1 hc1
  rw [e1, e2]
  have hki : k < t.Rows[i].length := by rw [hk.s.c _ (List.getElem_mem p1)]; exact p2
  have nb := hk.num (List.getElem_mem p1) (List.getElem_mem hki)
  have hia : i < t.Across.length := by omega
  have hrb := hk.rowb p1
  have hab := ha _ (List.getElem_mem hia)
  have hro : ro t i = (t.Rows.getD i []).sum - t.Across[i] := by unfold ro; rw [getD_is hia]
  have hent : entA t i k = ⟨1, (i : Int), (k : Int), t.Rows[i][k] - ro t i⟩ := by unfold entA; rw [hk.row p1, getD_is hki]
  have hw : w64 (t.Rows[i][k] - ro t i) = t.Rows[i][k] - ro t i := w64_id (by omega) (by omega)
  refine qbind _ (qidx p1) (qbind _ (qidx hki) (qbind _ (ix1 p1) ?_))
  rw [hw]
  refine qbind _ (s54_one _ _ _) ?_
  have := ans (x := entA t i k) (b := btw 0 1000000 (t.Rows[i][k] - ro t i)) (mem_ents.2 (.inl ⟨i, k, p1, p2, rfl⟩)) (fun hb' => (goodA hk p1 p2).2 ⟨p5, p6, p4, p7, p8, by rw [hk.row p1, getD_is hki]; exact btw_iff.1 hb'⟩) (fun hb' y hy hgy => ?_)
  ·rw [hent] at this; exact this
  ·rcases good_is hk hn hy hgy with ⟨i', k', q, rfl, q1, q2⟩ | ⟨i', q, rfl⟩ | ⟨k', q, rfl⟩ | ⟨q, rfl, _⟩
   ·have a1 : i' = i := Classical.byContradiction fun hne => q.2.2.1 (p5 i' q.1 hne)
    have a2 : k' = k := Classical.byContradiction fun hne => by have := p6 k' q.2.1 hne; have := q.2.2.1; have := q.2.2.2.1; omega
    subst a1 a2
    rw [hent] at q1 q2
    rw [btw_iff.2 ⟨q1, q2⟩] at hb'; cases hb'
   ·exact absurd (q.2.2.2.1 k p2) (by omega)
   ·exact absurd (q.2.2.1 i p1) p3
   ·exact absurd (q.1 i p1) p3
 have bac := sum_bd (xs := t.Across) (B := 1000000000) fun n hn => by have := ha n hn; omega
 have bdn := sum_bd (xs := t.Down) (B := 1000000000) fun n hn => by have := hd n hn; omega
 have wac : w64 (0 - ac t) = - ac t := by unfold ac; rw [w64_id (by omega) (by omega)]; omega
 have wdn : w64 (0 - dn t) = - dn t := by unfold dn; rw [w64_id (by omega) (by omega)]; omega
 have noA := hb.2 hc1
 refine Yes.bind (Yes.mono (Q' := fun b => (b = true → ∃ i : Nat, l1 = (i : Int) ∧ PCt t i) ∧ (b = false → ∀ i, ¬ PCt t i)) ?_ fun b2 hb2 => ?_)
 ·refine Yes.cond (fun hc1 => Yes.cond (fun hc2 => Yes.cond (fun hc3 => ?_) (fun hc3 => Yes.some ⟨fun h => (by cases h), fun _ i (hp : PCt t i) => beq_eq_false_iff_ne.1 hc3 hp.2.2.2.2.2⟩)) (fun hc2 => Yes.some ⟨fun h => (by cases h), fun _ i (hp : PCt t i) => beq_eq_false_iff_ne.1 hc2 (c0 hp.2.2.2.1)⟩)) (fun hc1 => Yes.some ⟨fun h => (by cases h), fun _ i (hp : PCt t i) => beq_eq_false_iff_ne.1 hc1 (r1 hp.1 hp.2.1 hp.2.2.1)⟩)
  obtain ⟨i, e1, i1, i2, i3⟩ := rI (beq_iff_eq.1 hc1)
  have e2 : u2 = 0 := beq_iff_eq.1 hc2
  rw [e1]
  refine qbind _ (ix1 i1) ?_
  show Yes (some (ro t i == w64 (0 - ac t))) _
  rw [wac]
  refine Yes.some ⟨fun hb => ⟨i, rfl, i1, i2, i3, z2.1 (by omega), by have := beq_iff_eq.1 hb; omega, beq_iff_eq.1 hc3⟩, fun hb i' hp => ?_⟩
  have a1 : i' = i := Classical.byContradiction fun hne => hp.2.1 (i3 i' hp.1 hne)
  subst a1
  exact beq_eq_false_iff_ne.1 hb (by have := hp.2.2.2.2.1; omega)
 refine Yes.cond (fun hc2 => ?_) (fun hc2 => ?_)
 ·obtain ⟨i, e1, p1, p3, p5, p6, p7, p8⟩ := hb2.1 hc2
  rw [e1]
  have hia : i < t.Across.length := by omega
  have hrb := hk.rowb p1
  have hab := ha _ (List.getElem_mem hia)
  have hro : ro t i = (t.Rows.getD i []).sum - t.Across[i] := by unfold ro; rw [getD_is hia]
  have hw : w64 (t.Across[i] + ro t i) = (t.Rows.getD i []).sum := by rw [hro, w64_id (by omega) (by omega)]; omega
  refine qbind _ (qidx hia) (qbind _ (ix1 p1) ?_)
  rw [hw]
  exact ans (x := entC t i) (b := true) (mem_ents.2 (.inr (.inl ⟨i, p1, rfl⟩))) (fun _ => (goodC hk p1).2 ⟨p5, p6, p7, p8⟩) (fun h => by cases h)
 have noC := hb2.2 hc2
 refine Yes.bind (Yes.mono (Q' := fun b => (b = true → ∃ k : Nat, u1 = (k : Int) ∧ PDt t k) ∧ (b = false → ∀ k, ¬ PDt t k)) ?_ fun b3 hb3 => ?_)
 ·refine Yes.cond (fun hc1 => Yes.cond (fun hc2 => Yes.cond (fun hc3 => ?_) (fun hc3 => Yes.some ⟨fun h => (by cases h), fun _ k (hp : PDt t k) => beq_eq_false_iff_ne.1 hc3 hp.2.2.2.2.1⟩)) (fun hc2 => Yes.some ⟨fun h => (by cases h), fun _ k (hp : PDt t k) => beq_eq_false_iff_ne.1 hc2 (c1 hp.1 hp.2.1 hp.2.2.2.1)⟩)) (fun hc1 => Yes.some ⟨fun h => (by cases h), fun _ k (hp : PDt t k) => beq_eq_false_iff_ne.1 hc1 (r0 hp.2.2.1)⟩)
  obtain ⟨k, e1, i1, i2, i3⟩ := cI (beq_iff_eq.1 hc2)
  have e2 : l2 = 0 := beq_iff_eq.1 hc1
  rw [e1]
  refine qbind _ (ix2 i1) ?_
  show Yes (some (co t k == w64 (0 - dn t))) _
  rw [wdn]
  refine Yes.some ⟨fun hb => ⟨k, rfl, i1, i2, z1.1 (by omega), i3, beq_iff_eq.1 hc3, by have := beq_iff_eq.1 hb; omega⟩, fun hb k' hp => ?_⟩
  have a1 : k' = k := Classical.byContradiction fun hne => hp.2.1 (i3 k' hp.1 hne)
  subst a1
  exact beq_eq_false_iff_ne.1 hb (by have := hp.2.2.2.2.2; omega)
 refine Yes.cond (fun hc3 => ?_) (fun hc3 => ?_)
 ·obtain ⟨k, e1, p1, p3, p5, p6, p7, p8⟩ := hb3.1 hc3
  rw [e1]
  have hcb := hk.colb p1
  have hdb := hd _ (List.getElem_mem p1)
  have hco : co t k = (col t.Rows k).sum - t.Down[k] := by unfold co; rw [getD_is p1]
  have hw : w64 (t.Down[k] + co t k) = (col t.Rows k).sum := by rw [hco, w64_id (by omega) (by omega)]; omega
  refine qbind _ (qidx p1) (qbind _ (ix2 p1) ?_)
  rw [hw]
  exact ans (x := entD t k) (b := true) (mem_ents.2 (.inr (.inr (.inl ⟨k, p1, rfl⟩)))) (fun _ => (goodD hk p1).2 ⟨p5, p6, p7, p8⟩) (fun h => by cases h)
 have noD := hb3.2 hc3
 refine Yes.bind (Yes.mono (Q' := fun b => b = decide (PTt t)) ?_ fun b4 hb4 => ?_)
 ·refine Yes.cond (fun hc1 => Yes.cond (fun hc2 => Yes.some ?_) (fun hc2 => Yes.some ?_)) (fun hc1 => Yes.some ?_)
  ·have e1 : l2 = 0 := beq_iff_eq.1 hc1
   have e2 : u2 = 0 := beq_iff_eq.1 hc2
   rw [Bool.eq_iff_iff, decide_eq_true_iff, beq_iff_eq]
   exact ⟨fun e => ⟨z1.1 (by omega), z2.1 (by omega), e⟩, fun hp => hp.2.2⟩
  ·exact (decide_eq_false fun hp => beq_eq_false_iff_ne.1 hc2 (c0 hp.2.1)).symm
  ·exact (decide_eq_false fun hp => beq_eq_false_iff_ne.1 hc1 (r0 hp.1)).symm
 subst hb4
 refine Yes.cond (fun hc4 => ?_) (fun hc4 => ?_)
 ·obtain ⟨p1, p2, p3⟩ := of_decide_eq_true hc4
  have hsum : t.Total + ac t = t.Across.sum := by unfold ac; omega
  have hw : w64 (t.Total + ac t) = t.Across.sum := by rw [hsum, w64_id (by omega) (by omega)]
  show Yes ((f72 [w64 (t.Total + ac t)]).bind _) _
  rw [hw]
  refine qbind _ (s72 _ (by simp)) ?_
  simp only [List.all_cons, List.all_nil, Bool.and_true]
  refine ans (x := entT t) (b := btw 0 1000000000 t.Across.sum) (mem_ents.2 (.inr (.inr (.inr rfl)))) (fun hb' => (goodT hk).2 ⟨p1, p2, p3, by rw [hsum]; exact btw_iff.1 hb'⟩) (fun hb' y hy hgy => ?_)
  rcases good_is hk hn hy hgy with ⟨i', k', q, rfl, q1, q2⟩ | ⟨i', q, rfl⟩ | ⟨k', q, rfl⟩ | ⟨q, rfl, q1, q2⟩
  ·exact noA i' k' q
  ·exact noC i' q
  ·exact noD k' q
  ·rw [hsum] at q1 q2
   rw [btw_iff.2 ⟨q1, q2⟩] at hb'; cases hb'
 ·have noT : ¬ PTt t := of_decide_eq_false hc4
  show Yes (some ((⟨0, 0, 0, 0⟩ : PayEntry), (9 : Int))) _
  refine Yes.some (mq_none fun y hy hgy => ?_)
  rcases good_is hk hn hy hgy with ⟨i', k', q, _⟩ | ⟨i', q, _⟩ | ⟨k', q, _⟩ | ⟨q, _⟩
  ·exact noA i' k' q
  ·exact noC i' q
  ·exact noD k' q
  ·exact noT q
end Go.Proofs.YtkmbkaoolacofaaGreat
