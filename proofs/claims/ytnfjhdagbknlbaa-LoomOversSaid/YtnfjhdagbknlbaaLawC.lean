import Derived.Test.YtnfjhdagbknlbaaLawB
set_option maxRecDepth 8000
namespace Go.Proofs.Ytnfjhdagbknlbaa
open Go.RowKit

theorem bindE {α β : Type} {x : Option α} {f : α → Option β} {r : Option β} (a : α) (h : x = some a) (h2 : f a = r) : Option.bind x f = r := by rw [h]; exact h2
theorem s31 (m : LoomMill) (l : List LoomOrder) (g : Good m l) : f31 m l = some ((ov l m.Widths.length).1, (ov l m.Widths.length).2.1, !decide ((ov l m.Widths.length).2.2 = 0)) := by
  have ho : ∀ x ∈ l, 1 ≤ x.Woven ∧ x.Woven ≤ 100 := fun x hx => (g.o x hx).2.2.1
  have hl7 := g.l7
  refine Yes.eq ?_
  unfold f31
  refine Yes.bind ?_
  refine Yes.fold (fun (s : Span × Int × Int) i => (s.1, s.2.1, s.2.2, !decide (s.2.2 = 0), (i : Int))) (fun low s => ovLow l m.Widths.length low s) (fun _ s => OvI s) 0 301 (⟨0, 0⟩, 0, 0) (by omega) ?_ ⟨by simp, by simp, by simp⟩ ?_ ?_
  · rfl
  · intro k low s _ hlow hI
    refine ⟨?_, ovLow_I g.l7 ho (by omega) hI⟩
    have h1 : decide ((low : Int) ≤ 300) = true := by simp; omega
    simp only [jn, h1, cond_true]
    refine bindE ((ovLow l m.Widths.length low s).1, (ovLow l m.Widths.length low s).2.1, (ovLow l m.Widths.length low s).2.2, !decide ((ovLow l m.Widths.length low s).2.2 = 0)) (Yes.eq ?_) ?_
    · refine Yes.fold (fun (s : Span × Int × Int) i => (s.1, s.2.1, s.2.2, !decide (s.2.2 = 0), (i : Int))) (fun high s => ovStep l m.Widths.length low high s) (fun _ s => OvI s) (low + 1) (300 - low) s (by omega) (by rw [w64_succ (by omega)]) hI (fun k high s h0 hhigh hI => ⟨?_, ovStep_I g.l7 ho (by omega) (by omega) hI⟩) (fun k s hs hI => ?_)
      · have h2 : decide ((high : Int) ≤ 300) = true := by simp; omega
        have hw := wrk_bound l low high ho
        have hw3 := g.w3
        have hp := mul_bound (a := (high : Int) - low) (n := m.Widths.length) (by omega) (by omega) (by omega) (by omega)
        simp only [jn, h2, cond_true]
        rw [Option.bind_assoc]
        refine bindE (wrk l low high) (Yes.eq ?_) ?_
        · have hfold := fold_range l (fun x s => if inDays low high x then s + x.Woven else s) (fun i s => if h : i < l.length then (if inDays low high l[i] then s + l[i].Woven else s) else s) (fun i hi s => by simp [hi]) 0
          refine Yes.fold (fun (s : Int) i => (s, (i : Int))) (fun i s => if h : i < l.length then (if inDays low high l[i] then s + l[i].Woven else s) else s) (fun i s => 0 ≤ s ∧ s ≤ 100 * i) 0 l.length 0 (by omega) rfl (by omega) (fun k i s h0 hi hI => ?_) (fun k s hs hI => ?_)
          · have hi : i < l.length := by omega
            have hw := ho l[i] (List.getElem_mem hi)
            refine ⟨?_, ?_⟩
            · have h1 : decide ((i : Int) < (l.length : Int)) = true := by simp; omega
              simp only [jn, h1, cond_true, idx_at hi, Option.bind_some, w64_succ (show i < 4611686018427387904 by omega), hi, dif_pos]
              by_cases a : l[i].Early ≥ low <;> by_cases b : l[i].Late ≤ high <;> simp [inDays, a, b, w64_id (show -9223372036854775808 ≤ s + l[i].Woven by omega) (by omega)]
            · simp only [hi, dif_pos]
              split <;> omega
          · have h1 : decide (((0 + l.length : Nat) : Int) < (l.length : Int)) = false := by simp
            simp only [jn, h1, cond_false]
            exact Yes.some (by rw [hs]; exact hfold)
        · have e1 : w64 ((high : Int) - low) = (high : Int) - low := w64_id (by omega) (by omega)
          have e2 : w64 (((high : Int) - low) * m.Widths.length) = ((high : Int) - low) * m.Widths.length := w64_id (by omega) (by omega)
          have e3 : w64 (wrk l low high - ((high : Int) - low) * m.Widths.length) = wrk l low high - ((high : Int) - low) * m.Widths.length := w64_id (by omega) (by omega)
          rw [e1, e2, e3, w64_succ (by omega)]
          unfold ovStep
          have hs0 := hI.1
          by_cases hgt : wrk l low high - ((high : Int) - low) * m.Widths.length > s.2.2
          · have : ¬ (wrk l low high - ((high : Int) - low) * m.Widths.length = 0) := by omega
            simp [hgt, this]
          · simp [hgt]
      · have h2 : decide (((low + 1 + (300 - low) : Nat) : Int) ≤ 300) = false := by simp; omega
        simp only [jn, h2, cond_false]
        exact Yes.some (by rw [hs]; rfl)
    · simp only [Option.bind_some, w64_succ (show low < 4611686018427387904 by omega)]
  · intro k s hs hI
    have h1 : decide (((0 + 301 : Nat) : Int) ≤ 300) = false := by simp
    simp only [jn, h1, cond_false]
    have hov : s = ov l m.Widths.length := hs.trans (ov_301 l _)
    subst hov
    exact Yes.some (Yes.some rfl)
end Go.Proofs.Ytnfjhdagbknlbaa
