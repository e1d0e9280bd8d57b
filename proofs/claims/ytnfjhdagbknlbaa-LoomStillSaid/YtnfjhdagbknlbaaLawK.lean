/- The first run that begins too soon; what holds. -/
import Derived.Test.YtnfjhdagbknlbaaLawJ
set_option maxRecDepth 8000
namespace Go.Proofs.Ytnfjhdagbknlbaa
open Go.RowKit
open Classical

theorem s103 (xs : List Bool) (hl : xs.length < 9223372036854775807) : Yes (f103 xs true) fun s => (s = -1 ∧ (List.range xs.length).find? (fun i => xs.getD i false) = none) ∨ ∃ n : Nat, s = n ∧ n < xs.length ∧ (List.range xs.length).find? (fun i => xs.getD i false) = some n := by
 unfold f103
 refine Yes.jn (first_loop xs.length hl (fun i => xs.getD i false) (fun i => some (i : Int)) (fun k i hi => ?_) (fun hf k => ?_) (fun i hi hf hp => ?_))
 ·have h1 : decide ((i : Int) < (xs.length : Int)) = true := by simp; omega
  simp only [jn, h1, cond_true, idx_at hi, Option.bind_some]
  have : xs.getD i false = xs[i] := by simp [hi]
  rw [this]
  cases xs[i] <;> rfl
 ·have h1 : decide ((xs.length : Int) < (xs.length : Int)) = false := by simp
  simp only [h1, cond_false]
  exact Yes.some (.inl ⟨rfl, hf⟩)
 ·exact Yes.some (.inr ⟨i, rfl, hi, hf⟩)
theorem getDset {xs : List Bool} {a i : Nat} {v : Bool} (ha : a < xs.length) : (xs.set a v).getD i false = if i = a then v else xs.getD i false := by
 by_cases h : i = a
 ·subst h; simp [ha]
 ·have : ¬ a = i := fun e => h e.symm
  simp [List.getD, List.getElem?_set, h, this]
theorem nodup_lt : ∀ (n : Nat) (A : List Nat), A.Nodup → (∀ x ∈ A, x < n) → A.length ≤ n
 | 0, A, _, h => by
  cases A with
  | nil => simp
  | cons a A => exact absurd (h a (by simp)) (Nat.not_lt_zero _)
 | n + 1, A, hd, h => by
  by_cases hm : n ∈ A
  ·have h1 := nodup_lt n (A.erase n) (hd.erase n) fun x hx => by
    have := (hd.mem_erase_iff).1 hx
    have := h x this.2
    omega
   rw [List.length_erase_of_mem hm] at h1
   omega
  ·have h1 := nodup_lt n A hd fun x hx => by
    have h2 := h x hx
    have : x ≠ n := fun e => hm (e ▸ hx)
    omega
   omega
theorem prev_row {r : List LoomRun} {t : Int} {A : List Nat} (hA : ∀ n, n ∈ A ↔ n < r.length ∧ (rn r n).Loom = t) (hp : A.Pairwise fun a b => bef (rn r a) (rn r b)) {k : Nat} (h0 : 0 < k) (hk : k < A.length) : prev r (A[k - 1]'(by omega)) A[k] := by
 have hpw := List.pairwise_iff_getElem.1 hp
 have m0 := (hA _).1 (List.getElem_mem hk)
 have m1 := (hA _).1 (List.getElem_mem (show k - 1 < A.length by omega))
 refine ⟨⟨m1.2.trans m0.2.symm, hpw (k - 1) k (by omega) hk (by omega)⟩, fun j hj hpj hb => ?_⟩
 obtain ⟨q, hq, rfl⟩ := List.mem_iff_getElem.1 ((hA j).2 ⟨hj, hpj.1.trans m0.2⟩)
 rcases Nat.lt_or_ge q k with h | h
 ·rcases Nat.lt_or_ge q (k - 1) with h2 | h2
  ·exact bef_irr (bef_trans hb (hpw q (k - 1) hq (by omega) h2))
  ·have : q = k - 1 := by omega
   subst this
   exact bef_irr hb
 ·rcases Nat.lt_or_ge k q with h2 | h2
  ·exact bef_irr (bef_trans hpj.2 (hpw k q hk hq h2))
  ·have : q = k := by omega
   subst this
   exact bef_irr hpj.2
theorem soon_row {m : LoomMill} {l : List LoomOrder} {r : List LoomRun} (R : Runs m l r) {t : Int} {A : List Nat} (hA : ∀ n, n ∈ A ↔ n < r.length ∧ (rn r n).Loom = t) (hp : A.Pairwise fun a b => bef (rn r a) (rn r b)) {k : Nat} (h0 : 0 < k) (hk : k < A.length) :
  soonP m l r A[k] ↔ (rn r A[k]).From < freeR m l (rn r (A[k - 1]'(by omega))) (rn r A[k]).Order := by
 have h := prev_row hA hp h0 hk
 have m1 := (hA _).1 (List.getElem_mem (show k - 1 < A.length by omega))
 exact ⟨fun ⟨j, hj, hpj, h2⟩ => by rw [prev_one R hj m1.1 hpj h] at h2; exact h2, fun h2 => ⟨_, m1.1, h, h2⟩⟩
theorem soon_first {m : LoomMill} {l : List LoomOrder} {r : List LoomRun} {t : Int} {A : List Nat} (hA : ∀ n, n ∈ A ↔ n < r.length ∧ (rn r n).Loom = t) (hp : A.Pairwise fun a b => bef (rn r a) (rn r b)) (hk : 0 < A.length) : ¬ soonP m l r A[0] := by
 rintro ⟨j, hj, ⟨hpj, _⟩, _⟩
 have hpw := List.pairwise_iff_getElem.1 hp
 have m0 := (hA _).1 (List.getElem_mem hk)
 obtain ⟨q, hq, rfl⟩ := List.mem_iff_getElem.1 ((hA j).2 ⟨hj, hpj.1.trans m0.2⟩)
 rcases Nat.eq_zero_or_pos q with rfl | h
 ·exact bef_irr hpj.2
 ·exact bef_irr (bef_trans hpj.2 (hpw 0 q hk hq h))
theorem s94 {m : LoomMill} {l : List LoomOrder} {r : List LoomRun} (g : Good m l) (R : Runs m l r) : Yes (f94 ⟨m, l⟩ r) fun s => (s = -1 ∧ (List.range r.length).find? (fun i => decide (soonP m l r i)) = none) ∨ ∃ n : Nat, s = n ∧ n < r.length ∧ (List.range r.length).find? (fun i => decide (soonP m l r i)) = some n := by
 have hr := R.r7
 have hw3 := g.w3
 unfold f94
 have hmk : mks 1 (false : Bool) (r.length : Int) = some (List.replicate r.length false) := by
  unfold mks
  rw [if_pos (by omega)]; simp
 refine Yes.bind (Yes.of hmk (Yes.bind ?_))
 refine Yes.upto m.Widths.length (by omega) (fun t fl => fl.length = r.length ∧ ∀ i, i < r.length → fl.getD i false = decide ((rn r i).Loom < t ∧ soonP m l r i)) ⟨by simp, fun i hi => ?_⟩ (fun t fl k ht hI hk => ?_) (fun fl k hI => ?_)
 ·have := (R.inR i hi).2.1.1
  have : ¬ ((rn r i).Loom < ((0 : Nat) : Int) ∧ soonP m l r i) := fun h => by have := h.1; omega
  rw [decide_eq_false this]
  simp [hi]
 ·have h1 : decide ((t : Int) < (m.Widths.length : Int)) = true := by simp; omega
  refine Yes.cond (fun _ => Yes.bind ?_) (fun h => by rw [h1] at h; cases h)
  obtain ⟨A, hf, hA, hpw⟩ := s68 g R (t : Int)
  refine Yes.bind (Yes.of hf ?_)
  have hA7 : A.length ≤ r.length := by
   have hnd : A.Nodup := hpw.imp fun {a b} h e => by subst e; exact bef_irr h
   exact nodup_lt _ _ hnd fun x hx => ((hA x).1 hx).1
  refine Yes.lp (fun s => ∃ q : Nat, s.2 = q ∧ 0 < q ∧ q ≤ r.length + 1 ∧ s.1.length = r.length ∧ ∀ i, i < r.length → s.1.getD i false = decide (((rn r i).Loom < t ∨ ∃ j, 1 ≤ j ∧ j < q ∧ A[j]? = some i) ∧ soonP m l r i)) (fun s => r.length + 1 - s.2.toNat) ⟨1, rfl, by omega, by omega, hI.1, fun i hi => ?_⟩ (by simp; omega) ?_
  ·rw [hI.2 i hi, decide_eq_decide]
   constructor
   ·exact fun h => ⟨.inl h.1, h.2⟩
   ·rintro ⟨h | ⟨j, h3, h4, _⟩, h2⟩
    ·exact ⟨h, h2⟩
    ·omega
  ·rintro ⟨fl2, j⟩ K ⟨q, hq, hq0, hq7, hl2, hI2⟩ hK
   simp only at hq hl2 hI2 hK
   subst hq
   refine Yes.jn (Yes.cond (fun h => Yes.bind ?_) (fun h => Yes.some (hk _ ⟨hl2, fun i hi => ?_⟩)))
   ·have hqA : q < A.length := by simp at h; omega
    have hlen : (A.map fun (n : Nat) => (n : Int)).length = A.length := by simp
    have e1 : idx (A.map fun (n : Nat) => (n : Int)) (q : Int) = some (A[q] : Int) := by rw [idx_at (by omega)]; simp
    have e2 : idx (A.map fun (n : Nat) => (n : Int)) (w64 ((q : Int) - 1)) = some ((A[q - 1]'(by omega) : Nat) : Int) := by
     rw [w64_id (by omega) (by omega), show (q : Int) - 1 = ((q - 1 : Nat) : Int) by omega, idx_at (by omega)]; simp
    have m0 := (hA _).1 (List.getElem_mem hqA)
    have m1 := (hA _).1 (List.getElem_mem (show q - 1 < A.length by omega))
    have hin := R.inR _ m0.1
    simp only [e1, e2, Option.bind_some, idx_rn m0.1, idx_rn m1.1, s69 g (R.inR _ m1.1) hin.1.1 hin.1.2, idx_at (show A[q] < fl2.length by omega)]
    refine Yes.some (hK _ ⟨q + 1, by rw [w64_succ (by omega)], by omega, by omega, by simp [hl2], fun i hi => ?_⟩ ?_)
    ·simp only [Int.toNat_natCast]
     rw [getDset (by omega)]
     by_cases hia : i = A[q]
     ·subst hia
      rw [if_pos rfl, decide_eq_decide, ← soon_row R hA hpw hq0 hqA]
      exact ⟨fun h => ⟨.inr ⟨q, by omega, by omega, by simp [hqA]⟩, h⟩, fun h => h.2⟩
     ·rw [if_neg hia, hI2 i hi, decide_eq_decide]
      constructor
      ·rintro ⟨h | ⟨j, h1, h2, h3⟩, h4⟩
       ·exact ⟨.inl h, h4⟩
       ·exact ⟨.inr ⟨j, h1, by omega, h3⟩, h4⟩
      ·rintro ⟨h | ⟨j, h1, h2, h3⟩, h4⟩
       ·exact ⟨.inl h, h4⟩
       ·refine ⟨.inr ⟨j, h1, ?_, h3⟩, h4⟩
        rcases Nat.lt_succ_iff_lt_or_eq.1 h2 with h5 | rfl
        ·exact h5
        ·rw [List.getElem?_eq_getElem hqA] at h3
         exact absurd (Option.some.inj h3).symm hia
    ·simp only [w64_succ (show q < 4611686018427387904 by omega)]; simp; omega
   ·have hqA : A.length ≤ q := by simp at h; omega
    rw [hI2 i hi, decide_eq_decide]
    constructor
    ·rintro ⟨h | ⟨j, h1, h2, h3⟩, h4⟩
     ·exact ⟨by omega, h4⟩
     ·have hm := (hA i).1 (List.mem_of_getElem? h3)
      exact ⟨by omega, h4⟩
    ·rintro ⟨h1, h4⟩
     refine ⟨?_, h4⟩
     by_cases hlt : (rn r i).Loom < t
     ·exact .inl hlt
     ·have hm := (hA i).2 ⟨hi, by omega⟩
      obtain ⟨j, hj, rfl⟩ := List.mem_iff_getElem.1 hm
      refine .inr ⟨j, ?_, by omega, by simp [hj]⟩
      rcases Nat.eq_zero_or_pos j with rfl | h
      ·exact absurd h4 (soon_first hA hpw hj)
      ·exact h
 ·have h1 : decide ((m.Widths.length : Int) < (m.Widths.length : Int)) = false := by simp
  refine Yes.cond (fun h => by rw [h1] at h; cases h) (fun _ => Yes.some (Yes.bind ((s103 fl (by have := hI.1; omega)).mono fun s hs => Yes.some ?_)))
  have hfl := hI.1
  have hc : (List.range fl.length).find? (fun i => fl.getD i false) = (List.range r.length).find? (fun i => decide (soonP m l r i)) := by
   rw [hfl]
   have : ∀ x ∈ List.range r.length, fl.getD x false = decide (soonP m l r x) := fun x hx => by
    have hx := List.mem_range.1 hx
    rw [hI.2 x hx, decide_eq_decide]
    exact ⟨fun h => h.2, fun h => ⟨(R.inR x hx).2.1.2, h⟩⟩
   generalize List.range r.length = xs at this ⊢
   induction xs with
   | nil => rfl
   | cons a xs ih =>
    rw [List.find?_cons, List.find?_cons, this a (by simp), ih fun x hx => this x (by simp [hx])]
  rw [hc, hfl] at hs
  exact hs
end Go.Proofs.Ytnfjhdagbknlbaa
