/- Which orders can be woven together: the theory, with no program in sight. -/
import Derived.Test.YtnfjhdagbknlbaaLawH
set_option maxRecDepth 8000
namespace Go.Proofs.Ytnfjhdagbknlbaa
open Go.RowKit
open Classical

def gap (m : LoomMill) (l : List LoomOrder) (i j : Nat) : Int := if (od l i).Chain = (od l j).Chain then 0 else m.Change
theorem gap_nn {m : LoomMill} {l : List LoomOrder} (hc : 0 ≤ m.Change) (i j : Nat) : 0 ≤ gap m l i j := by unfold gap; split <;> omega
theorem gap_tri {m : LoomMill} {l : List LoomOrder} (hc : 0 ≤ m.Change) (i j k : Nat) : gap m l i k ≤ gap m l i j + gap m l j k := by
 unfold gap
 by_cases h1 : (od l i).Chain = (od l j).Chain <;> by_cases h2 : (od l j).Chain = (od l k).Chain <;> by_cases h3 : (od l i).Chain = (od l k).Chain <;> simp [h1, h2, h3] <;> first | omega | (exfalso; simp_all)
theorem exl_max (n : Nat) (S : Nat → Prop) (hS : ∀ i, S i → i < n) (F : Nat → Int) (h : ∃ i, S i) : ∃ i, S i ∧ ∀ j, S j → F j ≤ F i := by
 induction n generalizing S with
 | zero => obtain ⟨i, hi⟩ := h; exact absurd (hS i hi) (Nat.not_lt_zero _)
 | succ n ih =>
  by_cases hT : ∃ i, S i ∧ i < n
  ·obtain ⟨i, ⟨hi, hin⟩, hm⟩ := ih (fun i => S i ∧ i < n) (fun i hi => hi.2) hT
   by_cases hn : S n ∧ F i < F n
   ·refine ⟨n, hn.1, fun j hj => ?_⟩
    rcases Nat.lt_succ_iff_lt_or_eq.1 (hS j hj) with h | rfl
    ·have := hm j ⟨hj, h⟩; omega
    ·omega
   ·refine ⟨i, hi, fun j hj => ?_⟩
    rcases Nat.lt_succ_iff_lt_or_eq.1 (hS j hj) with h | rfl
    ·exact hm j ⟨hj, h⟩
    ·have : ¬ F i < F j := fun h => hn ⟨hj, h⟩
     omega
  ·obtain ⟨i, hi⟩ := h
   have hin : ∀ j, S j → j = n := fun j hj => by
    have := hS j hj
    by_cases hj2 : j < n
    ·exact absurd ⟨j, hj, hj2⟩ hT
    ·omega
   exact ⟨i, hi, fun j hj => by rw [hin j hj, hin i hi]; omega⟩
structure Fit1 (m : LoomMill) (l : List LoomOrder) (A : Nat → Nat → Int → Prop) (i k : Nat) (f : Int) : Prop where
 il : i < l.length
 kw : k < m.Widths.length
 a : A i k f
 w : (od l i).Width ≤ wd m k
 e : (od l i).Early ≤ f
 t : f + (od l i).Woven ≤ (od l i).Late
structure Fits (m : LoomMill) (l : List LoomOrder) (S : Nat → Prop) (A : Nat → Nat → Int → Prop) (K : Nat → Nat) (F : Nat → Int) : Prop where
 one : ∀ i, S i → Fit1 m l A i (K i) (F i)
 sep : ∀ i j, S i → S j → i ≠ j → K i = K j → F i ≤ F j → F i + (od l i).Woven + gap m l i j ≤ F j
structure Base (m : LoomMill) (l : List LoomOrder) : Prop where
 c : 0 ≤ m.Change
 w : ∀ i, i < l.length → 1 ≤ (od l i).Woven
 e : ∀ i, i < l.length → 0 ≤ (od l i).Early
 h : ∀ i, i < l.length → 0 ≤ (od l i).Chain
 t : ∀ i, i < l.length → (od l i).Late ≤ 300
theorem Fit1.mono {m : LoomMill} {l : List LoomOrder} {A B : Nat → Nat → Int → Prop} {i k : Nat} {f : Int} (h : Fit1 m l A i k f) (hb : A i k f → B i k f) : Fit1 m l B i k f := ⟨h.il, h.kw, hb h.a, h.w, h.e, h.t⟩
theorem Fits.mono {m : LoomMill} {l : List LoomOrder} {S T : Nat → Prop} {A B : Nat → Nat → Int → Prop} {K : Nat → Nat} {F : Nat → Int} (h : Fits m l S A K F) (hs : ∀ i, T i → S i) (hb : ∀ i, T i → A i (K i) (F i) → B i (K i) (F i)) : Fits m l T B K F :=
 ⟨fun i hi => (h.one i (hs i hi)).mono (hb i hi), fun i j hi hj => h.sep i j (hs i hi) (hs j hj)⟩
theorem Fits.congr {m : LoomMill} {l : List LoomOrder} {S : Nat → Prop} {A : Nat → Nat → Int → Prop} {K K' : Nat → Nat} {F F' : Nat → Int} (h : Fits m l S A K F) (hk : ∀ i, S i → K' i = K i) (hf : ∀ i, S i → F' i = F i) : Fits m l S A K' F' :=
 ⟨fun i hi => by rw [hk i hi, hf i hi]; exact h.one i hi, fun i j hi hj => by rw [hk i hi, hk j hj, hf i hi, hf j hj]; exact h.sep i j hi hj⟩

/-! ### One loom -/
structure Beg (m : LoomMill) (l : List LoomOrder) (A : Nat → Nat → Int → Prop) (i k : Nat) (from' b : Int) : Prop where
 le : ∀ f, Fit1 m l A i k f → from' ≤ f → b ≤ f
 ok : b < 1048576 → Fit1 m l A i k b ∧ from' ≤ b
structure Rdy (m : LoomMill) (l : List LoomOrder) (A : Nat → Nat → Int → Prop) (k : Nat) (S : Nat → Prop) (t : Nat) (v : Int) : Prop where
 le : ∀ F, Fits m l S A (fun _ => k) F → S t → (∀ j, S j → F j ≤ F t) → v ≤ F t + (od l t).Woven
 ok : v < 1048576 → ∃ F, Fits m l S A (fun _ => k) F ∧ S t ∧ (∀ j, S j → F j ≤ F t) ∧ F t + (od l t).Woven = v
 hi : v ≤ 1048576
theorem rdy_one {m : LoomMill} {l : List LoomOrder} {A : Nat → Nat → Int → Prop} {k t : Nat} {S : Nat → Prop} {b : Int} (B : Base m l) (hS : ∀ j, S j ↔ j = t) (hb : Beg m l A t k 0 b) :
  Rdy m l A k S t (if b < 1048576 then b + (od l t).Woven else 1048576) := by
 refine ⟨fun F hF ht _ => ?_, fun hv => ?_, ?_⟩
 ·have h1 := hF.one t ht
  have h2 := B.e t h1.il
  have h3 := B.t t h1.il
  have h5 := B.w t h1.il
  have h4 := hb.le _ h1 (by have := h1.e; omega)
  have h6 := h1.t
  split <;> omega
 ·have hb' : b < 1048576 := by
   by_cases h : b < 1048576
   ·exact h
   ·rw [if_neg h] at hv; omega
  rw [if_pos hb']
  obtain ⟨h1, h2⟩ := hb.ok hb'
  refine ⟨fun _ => b, ⟨fun i hi => ?_, fun i j hi hj hij => ?_⟩, (hS t).2 rfl, fun _ _ => Int.le_refl _, rfl⟩
  ·rw [(hS i).1 hi]; exact h1
  ·exact absurd (((hS i).1 hi).trans ((hS j).1 hj).symm) hij
 ·split
  ·rename_i h
   obtain ⟨h1, h2⟩ := hb.ok h
   have := h1.t
   have := B.t t h1.il
   omega
  ·omega
structure Least (P : Nat → Prop) (V : Nat → Int) (d : Int) : Prop where
 le : ∀ j, P j → d ≤ V j
 ok : d < 1048576 → ∃ j, P j ∧ d = V j
theorem rdy_step {m : LoomMill} {l : List LoomOrder} {A : Nat → Nat → Int → Prop} {k t : Nat} {S : Nat → Prop} {R bb : Nat → Int} {d : Int} (B : Base m l)
  (ht : S t) (hne : ∃ j, S j ∧ j ≠ t)
  (hR : ∀ j, S j → j ≠ t → Rdy m l A k (fun i => S i ∧ i ≠ t) j (R j))
  (hb : ∀ j, S j → j ≠ t → R j < 1048576 → Beg m l A t k (R j + gap m l j t) (bb j))
  (hd : Least (fun j => S j ∧ j ≠ t ∧ R j < 1048576) bb d) :
  Rdy m l A k S t (if d < 1048576 then d + (od l t).Woven else 1048576) := by
 refine ⟨fun F hF _ hm => ?_, fun hv => ?_, ?_⟩
 ·have h1 := hF.one t ht
  have h2 := B.e t h1.il
  have h3 := B.t t h1.il
  have h5 := B.w t h1.il
  have h6 := h1.t
  obtain ⟨j, ⟨hj, hjt⟩, hjm⟩ := exl_max l.length (fun i => S i ∧ i ≠ t) (fun i hi => (hF.one i hi.1).il) F (let ⟨j, a, b⟩ := hne; ⟨j, a, b⟩)
  have hj1 := hF.one j hj
  have hjt2 := hj1.t
  have hj3 := B.t j hj1.il
  have h7 := (hR j hj hjt).le F (hF.mono (fun i hi => hi.1) fun _ _ h => h) ⟨hj, hjt⟩ hjm
  have h8 := hb j hj hjt (by omega)
  have h9 := hF.sep j t hj ht hjt rfl (hm j hj)
  have h10 := h8.le (F t) h1 (by omega)
  have h11 := hd.le j ⟨hj, hjt, by omega⟩
  split <;> omega
 ·have hd' : d < 1048576 := by
   by_cases h : d < 1048576
   ·exact h
   ·rw [if_neg h] at hv; omega
  rw [if_pos hd']
  obtain ⟨j, ⟨hj, hjt, hjr⟩, hdj⟩ := hd.ok hd'
  obtain ⟨F, hF, _, hm, hv⟩ := (hR j hj hjt).ok hjr
  obtain ⟨h1, h2⟩ := (hb j hj hjt hjr).ok (by omega)
  rw [← hdj] at h1 h2
  have hwj := B.w j (hF.one j ⟨hj, hjt⟩).il
  have hg := gap_nn (l := l) B.c
  have hlast : ∀ i, S i → i ≠ t → F i + (od l i).Woven + gap m l i t ≤ d ∧ F i < d := fun i hi hit => by
   by_cases hij : i = j
   ·subst hij; have := hg i t; omega
   ·have h3 := hF.sep i j ⟨hi, hit⟩ ⟨hj, hjt⟩ hij rfl (hm i ⟨hi, hit⟩)
    have h4 := gap_tri (l := l) B.c i j t
    have h5 := hg i j
    have h6 := hg j t
    have := B.w i (hF.one i ⟨hi, hit⟩).il
    omega
  refine ⟨fun i => if i = t then d else F i, ⟨fun i hi => ?_, fun i i' hi hi' hne _ hle => ?_⟩, ht, fun i hi => ?_, ?_⟩
  ·by_cases h : i = t
   ·simp only [h, if_true]; exact h1
   ·simp only [h, if_false]; exact hF.one i ⟨hi, h⟩
  ·by_cases h : i = t
   ·have h' : i' ≠ t := fun h' => hne (h.trans h'.symm)
    simp only [h, h', if_true, if_false] at hle ⊢
    have := (hlast i' hi' h').2
    omega
   ·by_cases h' : i' = t
    ·simp only [h, h', if_true, if_false] at hle ⊢
     exact (hlast i hi h).1
    ·simp only [h, h', if_false] at hle ⊢
     exact hF.sep i i' ⟨hi, h⟩ ⟨hi', h'⟩ hne rfl hle
  ·by_cases h : i = t
   ·simp [h]
   ·simp only [h, if_true, if_false]; have := (hlast i hi h).2; omega
  ·simp
 ·split
  ·rename_i h
   obtain ⟨j, ⟨hj, hjt, hjr⟩, hdj⟩ := hd.ok h
   obtain ⟨h1, h2⟩ := (hb j hj hjt hjr).ok (by omega)
   have := h1.t
   have := B.t t h1.il
   omega
  ·omega
theorem can_iff {m : LoomMill} {l : List LoomOrder} {A : Nat → Nat → Int → Prop} {k : Nat} {S : Nat → Prop} {R : Nat → Int} (B : Base m l) (hS : ∀ i, S i → i < l.length) (hne : ∃ i, S i)
  (hR : ∀ t, S t → Rdy m l A k S t (R t)) : (∃ t, S t ∧ R t < 1048576) ↔ ∃ F, Fits m l S A (fun _ => k) F := by
 constructor
 ·rintro ⟨t, ht, hr⟩
  obtain ⟨F, hF, _⟩ := (hR t ht).ok hr
  exact ⟨F, hF⟩
 ·rintro ⟨F, hF⟩
  obtain ⟨t, ht, hm⟩ := exl_max l.length S hS F hne
  have h1 := (hR t ht).le F hF ht hm
  have h2 := (hF.one t ht).t
  have := B.t t (hF.one t ht).il
  exact ⟨t, ht, by omega⟩

/-! ### Some looms -/
theorem looms_step {m : LoomMill} {l : List LoomOrder} {A : Nat → Nat → Int → Prop} {Q : Nat → Prop} {k : Nat} {S : Nat → Prop} (hk : ¬ Q k) :
  (∃ K F, Fits m l S (fun i k' f => (Q k' ∨ k' = k) ∧ A i k' f) K F) ↔
   ∃ P : Nat → Prop, (∀ i, P i → S i) ∧ (∃ F, Fits m l P A (fun _ => k) F) ∧ ∃ K F, Fits m l (fun i => S i ∧ ¬ P i) (fun i k' f => Q k' ∧ A i k' f) K F := by
 constructor
 ·rintro ⟨K, F, h⟩
  refine ⟨fun i => S i ∧ K i = k, fun i hi => hi.1, ⟨F, ?_⟩, K, F, ?_⟩
  ·refine Fits.congr (K := K) (F := F) (h.mono (fun i hi => hi.1) fun i hi ha => ha.2) (fun i hi => hi.2.symm) (fun _ _ => rfl)
  ·refine h.mono (fun i hi => hi.1) fun i hi ha => ⟨?_, ha.2⟩
   rcases ha.1 with h | h
   ·exact h
   ·exact absurd ⟨hi.1, h⟩ hi.2
 ·rintro ⟨P, hP, ⟨F1, h1⟩, K, F2, h2⟩
  refine ⟨fun i => if P i then k else K i, fun i => if P i then F1 i else F2 i, fun i hi => ?_, fun i j hi hj hij hk' hle => ?_⟩
  ·by_cases hp : P i
   ·simp only [hp, if_true]; exact (h1.one i hp).mono fun a => ⟨.inr rfl, a⟩
   ·simp only [hp, if_false]; exact (h2.one i ⟨hi, hp⟩).mono fun a => ⟨.inl a.1, a.2⟩
  ·by_cases hp : P i <;> by_cases hq : P j
   ·simp only [hp, hq, if_true] at hk' hle ⊢; exact h1.sep i j hp hq hij rfl hle
   ·simp only [hp, hq, if_true, if_false] at hk'
    exact absurd ((h2.one j ⟨hj, hq⟩).a.1) (by rw [← hk']; exact hk)
   ·simp only [hp, hq, if_true, if_false] at hk'
    exact absurd ((h2.one i ⟨hi, hp⟩).a.1) (by rw [hk']; exact hk)
   ·simp only [hp, hq, if_false] at hk' hle ⊢; exact h2.sep i j ⟨hi, hp⟩ ⟨hj, hq⟩ hij hk' hle

/-! ### One order after another, in all ways -/
end Go.Proofs.Ytnfjhdagbknlbaa
