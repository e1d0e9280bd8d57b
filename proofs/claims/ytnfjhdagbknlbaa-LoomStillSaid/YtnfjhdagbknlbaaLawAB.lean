/- Plans: what holds, what can be completed, and the smallest plan. -/
import Derived.Test.YtnfjhdagbknlbaaLawAA
import Derived.Test.YtnfjhdagbknlbaaLawL
set_option maxRecDepth 8000
namespace Go.Proofs.Ytnfjhdagbknlbaa
open Go.RowKit
open Classical

def pg (p : List LoomRun) (i : Nat) : Option LoomRun := p[i]?
def SeqP (p : List LoomRun) : Prop := ∀ i, i < p.length → (rn p i).Order = (i : Int)
theorem pg_rn {p : List LoomRun} {i : Nat} (h : i < p.length) : pg p i = some (rn p i) := by unfold pg rn; rw [List.getElem?_eq_getElem h]; rfl
theorem freeR_gap {m : LoomMill} {l : List LoomOrder} {x : LoomRun} {i j : Nat} (hi : x.Order = (i : Int)) : freeR m l x (j : Int) = x.From + (od l i).Woven + gap m l i j := by
 unfold freeR endR gap
 rw [hi]
 split <;> omega
theorem find_none {n : Nat} {p : Nat → Bool} : (List.range n).find? p = none ↔ ∀ i, i < n → p i = false := by
 rw [List.find?_eq_none]
 exact ⟨fun h i hi => by simpa using h i (List.mem_range.2 hi), fun h x hx => by simp [h x (List.mem_range.1 hx)]⟩
theorem holds_zero {m : LoomMill} {l : List LoomOrder} {p : List LoomRun} (hl : p.length ≤ l.length) : (holdsV m l p).2 = 0 ↔ (∀ i, i < p.length → oneE m l p i = 0) ∧ ∀ i, i < p.length → ¬ soonP m l p i := by
 unfold holdsV
 rw [if_neg (by omega)]
 cases h1 : (List.range p.length).find? (fun i => decide (oneE m l p i ≠ 0)) with
 | some i =>
  have h2 := List.find?_some h1
  have h3 := List.mem_range.1 (List.mem_of_find?_eq_some h1)
  simp only [ne_eq, decide_not, Bool.not_eq_true', decide_eq_false_iff_not] at h2
  exact ⟨fun h => absurd h h2, fun h => absurd (h.1 i h3) h2⟩
 | none =>
  have h2 := find_none.1 h1
  have h2' : ∀ i, i < p.length → oneE m l p i = 0 := fun i hi => by have := h2 i hi; simpa using this
  simp only
  cases h3 : (List.range p.length).find? (fun i => decide (soonP m l p i)) with
  | some i =>
   have h4 := List.find?_some h3
   have h5 := List.mem_range.1 (List.mem_of_find?_eq_some h3)
   exact ⟨fun h => absurd h (by simp), fun h => absurd (of_decide_eq_true h4) (h.2 i h5)⟩
  | none =>
   have h4 := find_none.1 h3
   exact ⟨fun _ => ⟨h2', fun i hi => of_decide_eq_false (h4 i hi)⟩, fun _ => rfl⟩
def HoldF (m : LoomMill) (l : List LoomOrder) (p : List LoomRun) : Prop := ∃ K F, Fits m l (fun i => i < p.length) (FixG (pg p)) K F
theorem holdF_at {m : LoomMill} {l : List LoomOrder} {p : List LoomRun} {S : Nat → Prop} {K : Nat → Nat} {F : Nat → Int} (h : Fits m l S (FixG (pg p)) K F) {i : Nat} (hs : S i) (hi : i < p.length) : (rn p i).Loom = (K i : Int) ∧ (rn p i).From = F i :=
 (h.one i hs).a _ (pg_rn hi)
theorem holds_iff {m : LoomMill} {l : List LoomOrder} (g : Good m l) {p : List LoomRun} (hl : p.length ≤ l.length) (hp : SeqP p) : (holdsV m l p).2 = 0 ↔ HoldF m l p := by
 have hl7 := g.l7
 rw [holds_zero hl]
 constructor
 ·rintro ⟨h1, h2⟩
  have R : Runs m l p := runs_of (by omega) h1
  have hone : ∀ i, i < p.length → _ := fun i hi => one_ok (h1 i hi)
  -- all runs before one on its loom leave it room
  have key : ∀ (n : Nat) (j : Nat), j < p.length → (rn p j).From.toNat = n → ∀ i, i < p.length → pre p i j → freeR m l (rn p i) (j : Int) ≤ (rn p j).From := by
   intro n
   induction n using Nat.strongRecOn with
   | ind n ih =>
    intro j hj hn i hi hij
    obtain ⟨k, ⟨hk, hkj⟩, hkm⟩ := exl_max p.length (fun k => k < p.length ∧ pre p k j) (fun k hk => hk.1) (fun k => (rn p k).From * 8 + k) ⟨i, hi, hij⟩
    have hpk : prev p k j := ⟨hkj, fun j' hj' hpj' hb => by
     have h3 := hkm j' ⟨hj', hpj'⟩
     unfold bef at hb
     rw [hp k hk, hp j' hj'] at hb
     omega⟩
    have h3 : ¬ (rn p j).From < freeR m l (rn p k) (rn p j).Order := fun h => h2 j hj ⟨k, hk, hpk, h⟩
    rw [hp j hj] at h3
    by_cases hik : i = k
    ·subst hik; omega
    ·have hg1 := freeR_gap (m := m) (l := l) (j := j) (hp i hi)
     have hg2 := freeR_gap (m := m) (l := l) (j := j) (hp k hk)
     have hg3 := freeR_gap (m := m) (l := l) (j := k) (hp i hi)
     have hgn := gap_nn (l := l) g.c.1
     have ht := gap_tri (l := l) g.c.1 i k j
     have w1 := (g.od (show k < l.length by omega)).2.2.1
     have hbi : bef (rn p i) (rn p k) := by
      have h4 := hkm i ⟨hi, hij⟩
      unfold bef
      rw [hp i hi, hp k hk]
      omega
     have hki := (hone k hk).1.2.2
     have hji := (hone j hj).1.2.2
     have h5 := hgn k j
     have h6 := hgn i j
     have h7 := ih (rn p k).From.toNat (by omega) k hk rfl i hi ⟨hij.1.trans hkj.1.symm, hbi⟩
     omega
  refine ⟨fun i => (rn p i).Loom.toNat, fun i => (rn p i).From, fun i hi => ?_, fun i j hi hj hne hk hle => ?_⟩
  ·obtain ⟨h3, _, h5, h6, h7⟩ := hone i hi
   have ho := hp i hi
   unfold endR at h7
   rw [ho] at h5 h6 h7
   have hln : (((rn p i).Loom.toNat : Nat) : Int) = (rn p i).Loom := by have := h3.2.1; omega
   refine ⟨by omega, by have := h3.2.1; omega, fun r hr => ?_, by rw [hln]; exact h5, h6, h7⟩
   rw [pg_rn hi] at hr
   cases hr
   exact ⟨hln.symm, rfl⟩
  ·have hli := (hone i hi).1.2.1
   have hlj := (hone j hj).1.2.1
   have hlo : (rn p i).Loom = (rn p j).Loom := by omega
   have hgn := gap_nn (l := l) g.c.1
   by_cases hb : bef (rn p i) (rn p j)
   ·have := key _ j hj rfl i hi ⟨hlo, hb⟩
    rw [freeR_gap (hp i hi)] at this
    exact this
   ·have hb2 : bef (rn p j) (rn p i) := (bef_or (by rw [hp i hi, hp j hj]; omega)).resolve_left hb
    have := key _ i hi rfl j hj ⟨hlo.symm, hb2⟩
    rw [freeR_gap (hp j hj)] at this
    have w1 := (g.od (show j < l.length by omega)).2.2.1
    have := hgn j i
    omega
 ·rintro ⟨K, F, h⟩
  have hat : ∀ i, i < p.length → _ := fun i hi => holdF_at h hi hi
  constructor
  ·intro i hi
   have h1 := h.one i hi
   obtain ⟨h2, h3⟩ := hat i hi
   have ho := hp i hi
   have hw := h1.w
   have he := h1.e
   have ht := h1.t
   have hk := h1.kw
   have go := g.od h1.il
   unfold oneE
   have hin : inR m l (rn p i) := ⟨by rw [ho]; omega, by rw [h2]; omega, by omega⟩
   rw [if_neg (fun k => k hin), if_neg, if_neg, if_neg]
   ·unfold endR; rw [ho]; omega
   ·rw [ho, h2]; omega
   ·rintro ⟨h4, h5⟩
    rw [ho, hp (i - 1) (by omega)] at h5
    omega
  ·rintro i hi ⟨j, hj, ⟨⟨h1, h2⟩, _⟩, h3⟩
   rw [hp i hi, freeR_gap (hp j hj), (hat i hi).2, (hat j hj).2] at h3
   rw [(hat i hi).1, (hat j hj).1] at h1
   have hne : j ≠ i := by
    rintro rfl
    exact bef_irr h2
   have hle : F j ≤ F i := by
    unfold bef at h2
    rw [(hat i hi).2, (hat j hj).2] at h2
    omega
   have := h.sep j i hj hi hne (by omega) hle
   omega

/-! ### What can be completed -/
def Cpl (m : LoomMill) (l : List LoomOrder) (p : List LoomRun) : Prop := ∃ K F, Fits m l (fun i => i < l.length) (FixG (pg p)) K F
theorem Cpl.holds {m : LoomMill} {l : List LoomOrder} {p : List LoomRun} (hl : p.length ≤ l.length) (h : Cpl m l p) : HoldF m l p := let ⟨K, F, h⟩ := h; ⟨K, F, h.mono (fun i hi => by omega) fun _ _ h => h⟩
theorem cpl_full {m : LoomMill} {l : List LoomOrder} {p : List LoomRun} (hl : p.length = l.length) : Cpl m l p ↔ HoldF m l p := by unfold Cpl HoldF; rw [hl]
theorem pg_app {p : List LoomRun} {r : LoomRun} {i : Nat} : pg (p ++ [r]) i = if i = p.length then some r else pg p i := by
 unfold pg
 rcases Nat.lt_trichotomy i p.length with h | h | h
 ·rw [if_neg (by omega), List.getElem?_append_left h]
 ·rw [if_pos h, h]; simp
 ·rw [if_neg (by omega), List.getElem?_eq_none (by simp; omega), List.getElem?_eq_none (by omega)]
theorem cpl_init {m : LoomMill} {l : List LoomOrder} {p : List LoomRun} {r : LoomRun} (h : Cpl m l (p ++ [r])) : Cpl m l p := by
 obtain ⟨K, F, h⟩ := h
 refine ⟨K, F, h.mono (fun _ h => h) fun i _ ha r' hr' => ha r' ?_⟩
 rw [pg_app, if_neg]
 ·exact hr'
 ·rintro rfl
  unfold pg at hr'; simp at hr'
theorem cpl_child {m : LoomMill} {l : List LoomOrder} {p : List LoomRun} (hl : p.length < l.length) {r : LoomRun} (h : Cpl m l (p ++ [r])) :
  (∃ k : Nat, r.Loom = (k : Int) ∧ k < m.Widths.length) ∧ (od l p.length).Early ≤ r.From ∧ r.From + (od l p.length).Woven ≤ (od l p.length).Late := by
 obtain ⟨K, F, h⟩ := h
 have h1 := h.one _ hl
 have h2 := h1.a r (by rw [pg_app, if_pos rfl])
 exact ⟨⟨K p.length, h2.1, h1.kw⟩, by rw [h2.2]; exact h1.e, by rw [h2.2]; exact h1.t⟩
theorem cpl_next {m : LoomMill} {l : List LoomOrder} {p : List LoomRun} (hl : p.length < l.length) (h : Cpl m l p) : ∃ (k : Nat) (d : Int), Cpl m l (p ++ [⟨(p.length : Int), (k : Int), d⟩]) := by
 obtain ⟨K, F, h⟩ := h
 refine ⟨K p.length, F p.length, K, F, h.mono (fun _ h => h) fun i _ ha r hr => ?_⟩
 rw [pg_app] at hr
 by_cases hi : i = p.length
 ·subst hi
  rw [if_pos rfl] at hr
  cases hr; exact ⟨rfl, rfl⟩
 ·rw [if_neg hi] at hr; exact ha r hr
structure Least1 (m : LoomMill) (l : List LoomOrder) (p : List LoomRun) (r : LoomRun) : Prop where
 c : Cpl m l (p ++ [r])
 o : r.Order = (p.length : Int)
 m : ∀ r' : LoomRun, r'.Order = (p.length : Int) → Cpl m l (p ++ [r']) → r.From < r'.From ∨ r.From = r'.From ∧ r.Loom ≤ r'.Loom
inductive Grd (m : LoomMill) (l : List LoomOrder) : List LoomRun → List LoomRun → Prop
 | done {p : List LoomRun} : p.length = l.length → Grd m l p p
 | step {p q : List LoomRun} {r : LoomRun} : p.length < l.length → Least1 m l p r → Grd m l (p ++ [r]) q → Grd m l p q
theorem Least1.one {m : LoomMill} {l : List LoomOrder} {p : List LoomRun} {r r' : LoomRun} (h : Least1 m l p r) (h' : Least1 m l p r') : r = r' := by
 have h1 := h.m r' h'.o h'.c
 have h2 := h'.m r h.o h.c
 obtain ⟨a, b, c⟩ := r
 obtain ⟨a', b', c'⟩ := r'
 have h3 := h.o
 have h4 := h'.o
 simp only at h1 h2 h3 h4
 have e1 : a = a' := by omega
 have e2 : b = b' := by omega
 have e3 : c = c' := by omega
 rw [e1, e2, e3]
theorem Grd.one {m : LoomMill} {l : List LoomOrder} {p q q' : List LoomRun} (h : Grd m l p q) (h' : Grd m l p q') : q = q' := by
 induction h with
 | done hl =>
  cases h' with
  | done _ => rfl
  | step h1 _ _ => omega
 | step h1 h2 _ ih =>
  cases h' with
  | done hl => omega
  | step _ h3 h4 =>
   have := h2.one h3
   subst this
   exact ih h4
theorem SeqP.app {p : List LoomRun} (h : SeqP p) {r : LoomRun} (hr : r.Order = (p.length : Int)) : SeqP (p ++ [r]) := by
 intro i hi
 rw [List.length_append, List.length_singleton] at hi
 have : rn (p ++ [r]) i = if i = p.length then r else rn p i := by
  have h1 := pg_app (p := p) (r := r) (i := i)
  unfold pg at h1
  unfold rn
  rw [h1]
  split <;> rfl
 rw [this]
 split
 ·rename_i he; rw [hr, he]
 ·exact h i (by omega)

/-! ### The reference -/
theorem apnd24' {p ys : List LoomRun} (h : p.length ≤ 1000) (h' : ys.length ≤ 1000) : apnd 24 p ys = some (p ++ ys) := by
 unfold apnd; rw [if_pos ⟨by omega, by omega⟩]
theorem s21 {m : LoomMill} {l : List LoomOrder} (g : Good m l) : ∀ (n d : Nat) (p : List LoomRun), d < n → p.length + d = l.length → SeqP p → Yes (f21 n m l p) fun r => (Cpl m l p → r.2 = true ∧ Grd m l p r.1) ∧ (¬ Cpl m l p → r = ([], false)) := by
  have hl7 := g.l7
  have hw3 := g.w3
  intro n
  induction n with
  | zero => intro d p h; exact absurd h (Nat.not_lt_zero _)
  | succ n ih =>
    intro d p hdn hd hp
    have hhi := holds_iff g (show p.length ≤ l.length by omega) hp
    unfold f21
    refine Yes.jn ?_
    rw [s35 g p (by omega), Option.bind_some]
    by_cases hh : (holdsV m l p).2 = 0
    · have h0 : ((holdsV m l p).2 != 0) = false := by simp [hh]
      rw [h0, cond_false]
      have hhf := hhi.1 hh
      refine Yes.jn (Yes.cond (fun h => ?_) (fun h => ?_))
      · have hlen : p.length = l.length := by have : (p.length : Int) = l.length := by simpa using h
                                              omega
        exact Yes.some ⟨fun _ => ⟨rfl, .done hlen⟩, fun hc => absurd ((cpl_full hlen).2 hhf) hc⟩
      · have hlen : p.length < l.length := by
          have : ¬ (p.length : Int) = l.length := by simpa using h
          omega
        dsimp only
        rw [idx_od (l := l) (by omega) (by omega), Option.bind_some]
        have go := g.od hlen
        generalize hx : od l (p.length : Int) = x at go
        refine Yes.jn ?_
        obtain ⟨lo, hlo⟩ : ∃ lo : Nat, x.Early = (lo : Int) := ⟨x.Early.toNat, by omega⟩
        rw [hlo]
        obtain ⟨hi, hhi2⟩ : ∃ hi : Nat, lo ≤ hi ∧ hi ≤ 1000 ∧ ∀ t : Nat, lo ≤ t → (t < hi ↔ (t : Int) + x.Woven ≤ x.Late) := by
          by_cases hc : x.Late - x.Woven + 1 ≤ lo
          · exact ⟨lo, Nat.le_refl _, by omega, fun t ht => by omega⟩
          · exact ⟨(x.Late - x.Woven + 1).toNat, by omega, by omega, fun t ht => by omega⟩
        refine Yes.rng (σ := Unit) (fun _ t => (t : Int)) lo hi (fun t _ => ∀ (t' k : Nat), lo ≤ t' → t' < t → ¬ Cpl m l (p ++ [⟨(p.length : Int), (k : Int), (t' : Int)⟩])) () rfl hhi2.1 (by omega) (fun t' k h1 h2 => absurd h2 (by omega)) (fun t _ kk ht1 ht2 hI hk => ?_) (fun _ kk hI => ?_)
        · have h2 : decide (w64 ((t : Int) + x.Woven) ≤ x.Late) = true := by
            rw [w64_id (by omega) (by omega)]; exact decide_eq_true ((hhi2.2.2 t ht1).1 ht2)
          refine Yes.jn ?_
          rw [h2, cond_true]
          refine Yes.jn ?_
          refine Yes.upto0 m.Widths.length (by omega) (fun k => ∀ k' : Nat, k' < k → ¬ Cpl m l (p ++ [⟨(p.length : Int), (k' : Int), (t : Int)⟩])) (fun _ h => absurd h (Nat.not_lt_zero _)) (fun k kk' hkw hI' hk' => ?_) (fun kk' hI' => ?_)
          · have h3 : decide ((k : Int) < (m.Widths.length : Int)) = true := decide_eq_true (Int.ofNat_lt.2 hkw)
            refine Yes.jn ?_
            rw [h3, cond_true]
            refine Yes.jn ?_
            rw [apnd24' (by simp) (by omega), Option.bind_some, List.nil_append, apnd24' (by omega) (by simp), Option.bind_some]
            refine Yes.bind ((ih (d - 1) _ (by omega) (by simp; omega) (hp.app rfl)).mono fun r hr => ?_)
            by_cases hc : Cpl m l (p ++ [⟨(p.length : Int), (k : Int), (t : Int)⟩])
            · obtain ⟨h4, h5⟩ := hr.1 hc
              rw [h4, cond_true]
              refine Yes.some ⟨fun _ => ⟨rfl, .step hlen ⟨hc, rfl, fun r' ho' hc' => ?_⟩ h5⟩, fun h => absurd (cpl_init hc) h⟩
              obtain ⟨⟨k', hk1, hk2⟩, he, hla⟩ := cpl_child hlen hc'
              obtain ⟨a, b, c⟩ := r'
              simp only at ho' hk1 he ⊢
              subst ho' hk1
              rw [hx, hlo] at he
              obtain ⟨t', rfl⟩ : ∃ t' : Nat, c = (t' : Int) := ⟨c.toNat, by omega⟩
              by_cases hlt : t' < t
              · exact absurd hc' (hI t' k' (by omega) hlt)
              · by_cases heq : t = t'
                · subst heq
                  by_cases hkk : k' < k
                  · exact absurd hc' (hI' k' hkk)
                  · exact .inr ⟨rfl, by omega⟩
                · exact .inl (by omega)
            · rw [hr.2 hc, cond_false]
              refine hk' fun k' hk2 => ?_
              by_cases hkk : k' = k
              · subst hkk; exact hc
              · exact hI' k' (by omega)
          · have h3 : decide ((m.Widths.length : Int) < (m.Widths.length : Int)) = false := by simp
            refine Yes.jn ?_
            rw [h3, cond_false]
            dsimp only
            rw [w64_succ (by omega)]
            refine hk () fun t' k h1 h2 hc => ?_
            by_cases htt : t' = t
            · subst htt
              obtain ⟨⟨k', hk1, hk2⟩, _⟩ := cpl_child hlen hc
              have hkk : k = k' := by have : (k : Int) = k' := hk1
                                      omega
              subst hkk
              exact hI' k hk2 hc
            · exact hI t' k h1 (by omega) hc
        · have h2 : decide (w64 ((hi : Int) + x.Woven) ≤ x.Late) = false := by
            rw [w64_id (by omega) (by omega)]; exact decide_eq_false fun h => by have := (hhi2.2.2 hi hhi2.1).2 h; omega
          refine Yes.jn ?_
          rw [h2, cond_false]
          dsimp only
          have hno : ¬ Cpl m l p := fun hc => by
            obtain ⟨k, d', hc'⟩ := cpl_next hlen hc
            obtain ⟨⟨k', hk1, hk2⟩, he, hla⟩ := cpl_child hlen hc'
            rw [hx] at he hla
            simp only at he hla
            obtain ⟨t', rfl⟩ : ∃ t' : Nat, d' = (t' : Int) := ⟨d'.toNat, by omega⟩
            exact hI t' k (by omega) ((hhi2.2.2 t' (by omega)).2 hla) hc'
          exact Yes.some ⟨fun h => absurd h hno, fun _ => rfl⟩
    · have h0 : ((holdsV m l p).2 != 0) = true := by simp [hh]
      rw [h0, cond_true]
      exact Yes.some ⟨fun hc => absurd (hhi.2 (hc.holds (by omega))) hh, fun _ => rfl⟩
end Go.Proofs.Ytnfjhdagbknlbaa
