/- Loops as folds; Over. -/
import Derived.Test.YtnfjhdagbknlbaaLawA
set_option maxRecDepth 8000
namespace Go.Proofs.Ytnfjhdagbknlbaa
open Go.RowKit

theorem w64_succ {i : Nat} (h : i < 4611686018427387904) : w64 ((i : Int) + 1) = ((i + 1 : Nat) : Int) := by rw [w64_id (by omega) (by omega)]; omega
theorem lp_foldn {τ σ α : Type} {body : (τ → Option α) → τ → Option α} (pack : σ → Nat → τ) (F : Nat → σ → σ) (I : Nat → σ → Prop) : ∀ (d lo n : Nat) (s0 : σ), d < n → I lo s0 →
  (∀ k i s, lo ≤ i → i < lo + d → I i s → body k (pack s i) = k (pack (F i s) (i + 1)) ∧ I (i + 1) (F i s)) →
  ∃ k, lp body n (pack s0 lo) = body k (pack ((List.range' lo d).foldl (fun s i => F i s) s0) (lo + d)) ∧ I (lo + d) ((List.range' lo d).foldl (fun s i => F i s) s0)
 | 0, lo, n + 1, s0, _, h0, _ => ⟨lp body n, by rw [lp_succ]; rfl, h0⟩
 | d + 1, lo, n + 1, s0, hn, h0, hb => by
  obtain ⟨h1, h2⟩ := hb (lp body n) lo s0 (Nat.le_refl _) (by omega) h0
  obtain ⟨k, h3, h4⟩ := lp_foldn pack F I d (lo + 1) n (F lo s0) (by omega) h2 (fun k i s hi hi2 => hb k i s (by omega) (by omega))
  refine ⟨k, ?_, ?_⟩
  ·rw [lp_succ, h1, h3]
   rw [show lo + 1 + d = lo + (d + 1) by omega]
   rfl
  ·rw [show lo + 1 + d = lo + (d + 1) by omega] at h4; exact h4
theorem lp_fold {τ σ α : Type} {body : (τ → Option α) → τ → Option α} (pack : σ → Nat → τ) (F : Nat → σ → σ) (I : Nat → σ → Prop) (lo d : Nat) (s0 : σ) (hd : d < 18446744073709551616) (h0 : I lo s0)
  (hb : ∀ k i s, lo ≤ i → i < lo + d → I i s → body k (pack s i) = k (pack (F i s) (i + 1)) ∧ I (i + 1) (F i s)) :
  ∃ k, lp body big (pack s0 lo) = body k (pack ((List.range' lo d).foldl (fun s i => F i s) s0) (lo + d)) ∧ I (lo + d) ((List.range' lo d).foldl (fun s i => F i s) s0) :=
 lp_foldn pack F I d lo big s0 (big_pos d hd) h0 hb

theorem Yes.fold {τ σ α : Type} {Q : α → Prop} {body : (τ → Option α) → τ → Option α} {t0 : τ} (pack : σ → Nat → τ) (F : Nat → σ → σ) (I : Nat → σ → Prop) (lo d : Nat) (s0 : σ) (hd : d < 18446744073709551616) (ht : t0 = pack s0 lo) (h0 : I lo s0)
  (hb : ∀ k i s, lo ≤ i → i < lo + d → I i s → body k (pack s i) = k (pack (F i s) (i + 1)) ∧ I (i + 1) (F i s))
  (he : ∀ k s, s = (List.range' lo d).foldl (fun s i => F i s) s0 → I (lo + d) s → Yes (body k (pack s (lo + d))) Q) : Yes (Go.Proofs.Ytnfjhdagbknlbaa.lp body big t0) Q := by
 subst ht
 obtain ⟨k, h1, h2⟩ := lp_fold pack F I lo d s0 hd h0 hb
 rw [h1]
 exact he k _ rfl h2

/-! ### The work that falls into some days -/
def inDays (low high : Int) (x : LoomOrder) : Bool := decide (x.Early ≥ low) && decide (x.Late ≤ high)
def wrk (l : List LoomOrder) (low high : Int) : Int := l.foldl (fun s x => if inDays low high x then s + x.Woven else s) 0
theorem fold_range {α σ : Type} (l : List α) (F : α → σ → σ) (G : Nat → σ → σ) (h : ∀ i (hi : i < l.length) s, G i s = F l[i] s) (s0 : σ) : (List.range' 0 l.length).foldl (fun s i => G i s) s0 = l.foldl (fun s x => F x s) s0 := by
 have key : ∀ (a b : List α) (s : σ), a ++ b = l → (List.range' a.length b.length).foldl (fun s i => G i s) s = b.foldl (fun s x => F x s) s := by
  intro a b
  induction b generalizing a with
  | nil => intro s _; rfl
  | cons x b ih =>
   intro s he
   have hlen : a.length < l.length := by rw [← he]; simp
   have hx : l[a.length] = x := by simp [← he]
   simp only [List.length_cons, List.range'_succ, List.foldl_cons]
   rw [h _ hlen, hx]
   have := ih (a ++ [x]) (F x s) (by simp [he])
   simpa using this
 exact key [] l s0 rfl
theorem wrk_bound (l : List LoomOrder) (low high : Int) (ho : ∀ x ∈ l, 1 ≤ x.Woven ∧ x.Woven ≤ 100) : 0 ≤ wrk l low high ∧ wrk l low high ≤ 100 * l.length := by
 have key : ∀ (l : List LoomOrder) (s : Int), (∀ x ∈ l, 1 ≤ x.Woven ∧ x.Woven ≤ 100) → s ≤ l.foldl (fun s x => if inDays low high x then s + x.Woven else s) s ∧ l.foldl (fun s x => if inDays low high x then s + x.Woven else s) s ≤ s + 100 * l.length := by
  intro l
  induction l with
  | nil => intro s _; simp
  | cons x l ih =>
   intro s h
   have hx := h x (by simp)
   have := ih (if inDays low high x then s + x.Woven else s) (fun y hy => h y (by simp [hy]))
   simp only [List.foldl_cons, List.length_cons]
   split at this <;> rename_i hd <;> simp only [hd, if_true, if_false, Bool.false_eq_true] <;> omega
 have := key l 0 ho
 unfold wrk; omega
theorem s64 (m : LoomMill) (l : List LoomOrder) (low high : Int) (hl : l.length ≤ 7) (ho : ∀ x ∈ l, 1 ≤ x.Woven ∧ x.Woven ≤ 100) : f64 ⟨m, l⟩ low high = some (wrk l low high) := by
 refine Yes.eq ?_
 unfold f64
 refine Yes.bind ?_
 have hfold := fold_range l (fun x s => if inDays low high x then s + x.Woven else s) (fun i s => if h : i < l.length then (if inDays low high l[i] then s + l[i].Woven else s) else s) (fun i hi s => by simp [hi]) 0
 obtain ⟨k, hk, _⟩ := lp_fold (body := (fun (k48 : Int × Int → Option Int) (p : Int × Int) =>
   bif (decide (p.2 < (((⟨m, l⟩ : LoomLoomMill).orders).length : Int))) then
    Option.bind (α := Int) (
     (idx ((⟨m, l⟩ : LoomLoomMill).orders) p.2).bind fun y70 =>
     Option.bind (α := Bool) (
      bif (decide ((y70).Early ≥ low)) then
       some ((decide ((y70).Late ≤ high)))
      else
       some (false)
      ) fun s25_85 =>
     bif s25_85 then
      some ((w64 (p.1 + (y70).Woven)))
     else
      some (p.1)
     ) fun s6_89 =>
    k48 (s6_89, (w64 (p.2 + (1 : Int))))
   else
    some (p.1))) (fun s i => (s, (i : Int))) (fun i s => if h : i < l.length then (if inDays low high l[i] then s + l[i].Woven else s) else s) (fun i s => 0 ≤ s ∧ s ≤ 100 * i) 0 l.length 0 (by omega) (by omega) (fun k i s h0 hi hI => by
  have hi : i < l.length := by omega
  have hw := ho l[i] (List.getElem_mem hi)
  refine ⟨?_, ?_⟩
  ·have h1 : decide ((i : Int) < (l.length : Int)) = true := by simp; omega
   simp only [h1, cond_true, idx_at hi, Option.bind_some, w64_succ (show i < 4611686018427387904 by omega), hi, dif_pos]
   by_cases a : l[i].Early ≥ low <;> by_cases b : l[i].Late ≤ high <;> simp [inDays, a, b, w64_id (show -9223372036854775808 ≤ s + l[i].Woven by omega) (by omega)]
  ·simp only [hi, dif_pos]
   split <;> omega)
 rw [Nat.zero_add, hfold] at hk
 refine Yes.of ?_ (Yes.some rfl)
 refine Eq.trans hk ?_
 have h1 : decide (((l.length : Nat) : Int) < (l.length : Int)) = false := by simp
 simp only [h1, cond_false]
 rfl
/-! ### Over -/
def ovStep (l : List LoomOrder) (n low high : Int) (s : Span × Int × Int) : Span × Int × Int :=
 if wrk l low high - (high - low) * n > s.2.2 then (⟨low, high⟩, wrk l low high, wrk l low high - (high - low) * n) else s
def ovLow (l : List LoomOrder) (n : Int) (low : Nat) (s : Span × Int × Int) : Span × Int × Int := (List.range' (low + 1) (300 - low)).foldl (fun s (high : Nat) => ovStep l n low high s) s
def ov (l : List LoomOrder) (n : Int) : Span × Int × Int := (List.range' 0 300).foldl (fun s low => ovLow l n low s) (⟨0, 0⟩, 0, 0)
def OvI (s : Span × Int × Int) : Prop := 0 ≤ s.2.2 ∧ s.2.2 ≤ 1000 ∧ (s.2.2 = 0 → s = (⟨0, 0⟩, 0, 0))
theorem ovStep_I {l : List LoomOrder} {n low high : Int} {s : Span × Int × Int} (hl : l.length ≤ 7) (ho : ∀ x ∈ l, 1 ≤ x.Woven ∧ x.Woven ≤ 100) (hn : 0 ≤ n) (hlh : low ≤ high) (h : OvI s) : OvI (ovStep l n low high s) := by
 have hw := wrk_bound l low high ho
 have hp : 0 ≤ (high - low) * n := Int.mul_nonneg (by omega) hn
 unfold ovStep
 split
 ·rename_i hc
  refine ⟨?_, ?_, ?_⟩
  ·simp only; have := h.1; omega
  ·simp only; omega
  ·simp only; have := h.1; omega
 ·exact h
theorem foldl_I {σ : Type} {I : σ → Prop} {F : σ → Nat → σ} : ∀ (xs : List Nat) (s : σ), I s → (∀ i ∈ xs, ∀ s, I s → I (F s i)) → I (xs.foldl F s)
 | [], _, h, _ => h
 | x :: xs, s, h, hF => foldl_I xs _ (hF x (by simp) s h) fun i hi => hF i (by simp [hi])
theorem ovLow_I {l : List LoomOrder} {n : Int} {low : Nat} {s : Span × Int × Int} (hl : l.length ≤ 7) (ho : ∀ x ∈ l, 1 ≤ x.Woven ∧ x.Woven ≤ 100) (hn : 0 ≤ n) (h : OvI s) : OvI (ovLow l n low s) :=
 foldl_I _ s h fun i hi s hs => ovStep_I hl ho hn (by have := (List.mem_range'_1.1 hi).1; omega) hs
theorem mul_bound {a n : Int} (ha : 0 ≤ a) (ha2 : a ≤ 300) (hn : 0 ≤ n) (hn2 : n ≤ 3) : 0 ≤ a * n ∧ a * n ≤ 900 :=
  ⟨Int.mul_nonneg ha hn, by calc a * n ≤ 300 * 3 := Int.mul_le_mul ha2 hn2 hn (by omega)
    _ = 900 := rfl⟩
theorem s30 (m : LoomMill) (l : List LoomOrder) : f30 m l = some (if chkE m l ≠ 0 then (⟨0, 0⟩, 0, chkE m l) else if (ov l m.Widths.length).2.2 = 0 then (⟨0, 0⟩, 0, 7) else ((ov l m.Widths.length).1, (ov l m.Widths.length).2.1, 0)) := by
  refine Yes.eq ?_
  unfold f30
  rw [s50]
  refine Yes.bind (Yes.some (Yes.jn ?_))
  by_cases hc : chkE m l = 0
  · have g := good_of hc
    have ho : ∀ x ∈ l, 1 ≤ x.Woven ∧ x.Woven ≤ 100 := fun x hx => (g.o x hx).2.2.1
    have hor : openR m l = (⟨m, l⟩, 0) := by simp [openR, hc]
    rw [hor, if_neg (by simp [hc])]
    refine Yes.cond (fun h => nomatch h) (fun _ => Yes.bind ?_)
    refine Yes.fold (fun (s : Span × Int × Int) i => (s.1, s.2.1, s.2.2, (i : Int))) (fun low s => ovLow l m.Widths.length low s) (fun _ s => OvI s) 0 300 (⟨0, 0⟩, 0, 0) (by omega) rfl ⟨by simp, by simp, by simp⟩ (fun k low s _ hlow hI => ⟨?_, ovLow_I g.l7 ho (by omega) hI⟩) (fun k s hs hI => ?_)
    · have h1 : decide ((low : Int) < 300) = true := by simp; omega
      simp only [h1, cond_true]
      have inner : ∀ {β : Type} (c : Span × Int × Int → Option β), Option.bind (lp (σ := Span × Int × Int × Int) (fun k94 (m4_95, s5_95, s8_95, s10_95) =>
              jn (σ := Unit) (fun _ =>
                Option.bind (α := Span × Int × Int) (
                  (f64 (⟨m, l⟩) (low : Int) s10_95).bind fun y110 =>
                  bif (decide ((w64 (y110 - (w64 ((w64 (s10_95 - (low : Int))) * (((m).Widths).length : Int))))) > s8_95)) then
                    some ((⟨(low : Int), s10_95⟩ : Span), y110, (w64 (y110 - (w64 ((w64 (s10_95 - (low : Int))) * (((m).Widths).length : Int))))))
                  else
                    some (m4_95, s5_95, s8_95)
                  ) fun (m4_116, s5_116, s8_116) =>
                k94 (m4_116, s5_116, s8_116, (w64 (s10_95 + (1 : Int))))
                ) fun k97 =>
              bif (decide (s10_95 ≤ (300 : Int))) then
                k97 ()
              else
                some (m4_95, s5_95, s8_95)
              ) big (s.1, s.2.1, s.2.2, (w64 ((low : Int) + (1 : Int))))) c = c (ovLow l m.Widths.length low s) := by
        intro β c
        have : Yes (lp (σ := Span × Int × Int × Int) (fun k94 (m4_95, s5_95, s8_95, s10_95) =>
              jn (σ := Unit) (fun _ =>
                Option.bind (α := Span × Int × Int) (
                  (f64 (⟨m, l⟩) (low : Int) s10_95).bind fun y110 =>
                  bif (decide ((w64 (y110 - (w64 ((w64 (s10_95 - (low : Int))) * (((m).Widths).length : Int))))) > s8_95)) then
                    some ((⟨(low : Int), s10_95⟩ : Span), y110, (w64 (y110 - (w64 ((w64 (s10_95 - (low : Int))) * (((m).Widths).length : Int))))))
                  else
                    some (m4_95, s5_95, s8_95)
                  ) fun (m4_116, s5_116, s8_116) =>
                k94 (m4_116, s5_116, s8_116, (w64 (s10_95 + (1 : Int))))
                ) fun k97 =>
              bif (decide (s10_95 ≤ (300 : Int))) then
                k97 ()
              else
                some (m4_95, s5_95, s8_95)
              ) big (s.1, s.2.1, s.2.2, (w64 ((low : Int) + (1 : Int))))) (fun r => r = ovLow l m.Widths.length low s) := by
          refine Yes.fold (fun (s : Span × Int × Int) i => (s.1, s.2.1, s.2.2, (i : Int))) (fun high s => ovStep l m.Widths.length low high s) (fun _ s => OvI s) (low + 1) (300 - low) s (by omega) (by rw [w64_succ (by omega)]) hI (fun k high s h0 hhigh hI => ⟨?_, ovStep_I g.l7 ho (by omega) (by omega) hI⟩) (fun k s hs hI => ?_)
          · have h2 : decide ((high : Int) ≤ 300) = true := by simp; omega
            have hw := wrk_bound l low high ho
            have hl7 := g.l7
            have hw3 := g.w3
            have hp := mul_bound (a := (high : Int) - low) (n := m.Widths.length) (by omega) (by omega) (by omega) (by omega)
            simp only [jn, h2, cond_true, s64 m l low high g.l7 ho, Option.bind_some]
            have e1 : w64 ((high : Int) - low) = (high : Int) - low := w64_id (by omega) (by omega)
            have e2 : w64 (((high : Int) - low) * m.Widths.length) = ((high : Int) - low) * m.Widths.length := w64_id (by omega) (by omega)
            have e3 : w64 (wrk l low high - ((high : Int) - low) * m.Widths.length) = wrk l low high - ((high : Int) - low) * m.Widths.length := w64_id (by omega) (by omega)
            rw [e1, e2, e3, w64_succ (by omega)]
            unfold ovStep
            by_cases hgt : wrk l low high - ((high : Int) - low) * m.Widths.length > s.2.2
            · simp [hgt]
            · simp [hgt]
          · have h2 : decide (((low + 1 + (300 - low) : Nat) : Int) ≤ 300) = false := by simp; omega
            simp only [jn, h2, cond_false]
            exact Yes.some (by rw [hs]; rfl)
        rw [Yes.eq this]; rfl
      rw [inner]
      simp only [w64_succ (show low < 4611686018427387904 by omega)]
    · have h1 : decide (((0 + 300 : Nat) : Int) < 300) = false := by simp
      simp only [h1, cond_false]
      have hov : s = ov l m.Widths.length := hs
      subst hov
      refine Yes.some (Yes.jn ?_)
      by_cases h0 : (ov l m.Widths.length).2.2 = 0
      · have : ((ov l m.Widths.length).2.2 == 0) = true := by simp [h0]
        rw [this, if_pos h0, hI.2.2 h0]
        exact Yes.some rfl
      · have : ((ov l m.Widths.length).2.2 == 0) = false := by simpa using h0
        rw [this, if_neg h0]
        exact Yes.some rfl
  · have hor : openR m l = (⟨⟨[], 0⟩, []⟩, chkE m l) := by simp [openR, hc]
    rw [hor, if_pos hc]
    exact Yes.cond (fun _ => Yes.some rfl) (fun h => absurd (by simpa using h) hc)
end Go.Proofs.Ytnfjhdagbknlbaa
