/- Plain laws: price lists and pieces out of numbers; fines. -/
import Derived.Test.YtkmbkaoolacofaaGreatLawB
set_option maxRecDepth 8000
namespace Go.Proofs.YtkmbkaoolacofaaGreat
open Go.RowKit
open Classical

structure Part1 (n : Nat) (fine cap from_ : Int) (l : PayList) : Prop where
 ok : okRates l.Rates
 len : l.Rates.length = n
 ex : l.Extras = []
 fine : l.Fine = fine
 cap : l.Cap = cap
 z : n = 0 → from_ = 0
 p : ∀ h : 0 < l.Rates.length, from_ = (l.Rates[l.Rates.length - 1]'(by omega)).From
 b : 0 ≤ from_ ∧ from_ ≤ 150 * n
theorem known_ok : f12 = some true := by unfold f12; rfl
end Go.Proofs.YtkmbkaoolacofaaGreat
/- Plain laws: PayWages. -/
set_option maxRecDepth 8000
namespace Go.Proofs.YtkmbkaoolacofaaGreat
open Go.RowKit
open Classical

def pNum (p : PayPiece) : Prop := btw 0 50 p.Weaver = true ∧ btw 0 1000 p.Dense = true ∧ btw 0 1000000 p.Picks = true ∧ btw 0 100 p.Faults = true
def pEx (l : PayList) (p : PayPiece) : Prop := ∀ x ∈ p.Extras, 0 ≤ x ∧ x < (l.Extras.length : Int)
noncomputable def chkP (l : PayList) (p : PayPiece) : Int := if ¬ pNum p then 2 else if ¬ pEx l p then 7 else if ¬ asc p.Extras then 4 else 0
theorem chkP_ok {l : PayList} {p : PayPiece} (h : chkP l p = 0) : okPiece l p := by
 unfold chkP at h
 split at h
 ·cases h
 split at h
 ·cases h
 split at h
 ·cases h
 rename_i h1 h2 h3
 have h1 := Classical.not_not.1 h1
 exact ⟨h1.1, h1.2.1, h1.2.2.1, h1.2.2.2, Classical.not_not.1 h2, Classical.not_not.1 h3⟩
theorem s79g {l : PayList} {p : PayPiece} (h1 : p.Extras.length ≤ 1000) (h2 : l.Extras.length ≤ 1000) : f79 ⟨l⟩ p = some (chkP l p) := by
 refine Yes.eq ?_
 unfold f79
 refine Yes.jn (Yes.bind (Yes.mono (Q' := fun r => r = !decide (pNum p)) ?_ fun r hr => ?_))
 ·simp only [s54_one, Option.bind_some]
  unfold pNum
  cases h3 : btw 0 50 p.Weaver <;> cases h4 : btw 0 1000 p.Dense <;> cases h5 : btw 0 1000000 p.Picks <;> cases h6 : btw 0 100 p.Faults <;> simp <;> exact Yes.some rfl
 ·subst hr
  unfold chkP
  refine Yes.cond (fun h => Yes.some ?_) (fun h => ?_)
  ·have : ¬ pNum p := by simpa using h
   rw [if_pos this]
  have hn : pNum p := by simpa using h
  rw [if_neg (by simpa using hn)]
  dsimp only
  rw [qw64 (n := (l.Extras.length : Int) - 1) (by omega) (by omega), s54 _ _ _ (by omega)]
  refine Yes.bind (Yes.some (Yes.cond (fun h => Yes.some ?_) (fun h => ?_)))
  ·have : ¬ pEx l p := fun he => by
    have hall : p.Extras.all (btw 0 ((l.Extras.length : Int) - 1)) = true := List.all_eq_true.2 fun x hx => btw_iff.2 (by have := he x hx; omega)
    rw [hall] at h; cases h
   rw [if_pos this]
  have he : pEx l p := fun x hx => by
   have hall : p.Extras.all (btw 0 ((l.Extras.length : Int) - 1)) = true := by simpa using h
   have := btw_iff.1 (List.all_eq_true.1 hall x hx); omega
  rw [if_neg (by simpa using he)]
  refine qbind _ (s102g (by omega)) (Yes.cond (fun h => Yes.some ?_) (fun h => Yes.some ?_))
  ·have : ¬ asc p.Extras := by simpa using h
   rw [if_pos this]
  ·have : asc p.Extras := by simpa using h
   rw [if_neg (by simpa using this)]
theorem s21 {l : PayList} {p : PayPiece} (h1 : p.Extras.length ≤ 1000) (h2 : l.Extras.length ≤ 1000) : f21 l p = some (chkP l p) := by
 refine Yes.eq ?_
 unfold f21
 refine Yes.jn (Yes.bind (Yes.mono (Q' := fun r => r = !decide (pNum p)) ?_ fun r hr => ?_))
 ·simp only [s25, Option.bind_some]
  unfold pNum
  cases h3 : btw 0 50 p.Weaver <;> cases h4 : btw 0 1000 p.Dense <;> cases h5 : btw 0 1000000 p.Picks <;> cases h6 : btw 0 100 p.Faults <;> simp <;> exact Yes.some rfl
 ·subst hr
  unfold chkP
  refine Yes.cond (fun h => Yes.some ?_) (fun h => Yes.jn ?_)
  ·have : ¬ pNum p := by simpa using h
   rw [if_pos this]
  have hn : pNum p := by simpa using h
  rw [if_neg (by simpa using hn)]
  refine Yes.upto0 p.Extras.length (by omega) (fun i => ∀ j (h : j < p.Extras.length), j < i → 0 ≤ p.Extras[j] ∧ p.Extras[j] < (l.Extras.length : Int)) (fun _ _ h => absurd h (Nat.not_lt_zero _)) (fun i k hi hI hk => ?_) (fun k hI => ?_)
  ·refine Yes.jn (qtake (by simp; omega) (Yes.jn (Yes.bind (Yes.idx rfl hi ?_))))
   rw [qw64 (n := (l.Extras.length : Int) - 1) (by omega) (by omega)]
   refine qbind _ (s25 _ _ _) (Yes.cond (fun h => Yes.some ?_) (fun h => hk fun j hj hji => ?_))
   ·have : ¬ pEx l p := fun he => by
     have := he _ (List.getElem_mem hi)
     have hb : btw 0 ((l.Extras.length : Int) - 1) p.Extras[i] = true := btw_iff.2 (by omega)
     rw [hb] at h; cases h
    rw [if_pos this]
   ·rcases Nat.lt_succ_iff_lt_or_eq.1 hji with h2 | rfl
    ·exact hI j hj h2
    ·have hb : btw 0 ((l.Extras.length : Int) - 1) p.Extras[j] = true := by simpa using h
     have := btw_iff.1 hb; omega
  ·have he : pEx l p := fun x hx => by
    obtain ⟨j, hj, rfl⟩ := List.getElem_of_mem hx
    exact hI j hj hj
   rw [if_neg (by simpa using he)]
   refine Yes.jn (qskip (by simp) (Yes.jn ?_))
   refine Yes.lp (fun s => 1 ≤ s ∧ ∀ i (h : i + 1 < p.Extras.length), (i : Int) + 1 < s → p.Extras[i] < p.Extras[i + 1]) (fun s => ((p.Extras.length : Int) - s).toNat) ⟨by omega, fun i h h2 => absurd h2 (by omega)⟩ (by omega) ?_
   rintro s k ⟨h3, h5⟩ hk
   refine Yes.jn (Yes.cond (fun h4 => ?_) (fun h4 => Yes.some ?_))
   ·have h0 : s < (p.Extras.length : Int) := by simpa using h4
    refine Yes.jn (Yes.bind (Yes.idx (n := s.toNat) (by omega) (by omega) ?_))
    rw [qw64 (n := s - 1) (by omega) (by omega)]
    refine Yes.bind (Yes.idx (n := s.toNat - 1) (by omega) (by omega) ?_)
    have e : s.toNat - 1 + 1 = s.toNat := by omega
    refine Yes.cond (fun h6 => Yes.some ?_) (fun h6 => ?_)
    ·have : ¬ asc p.Extras := fun ha => by
      have := ha (s.toNat - 1) (by omega)
      simp only [e] at this
      simp at h6; omega
     rw [if_pos this]
    ·show Yes (k (w64 (s + 1))) _
     rw [qw64 (n := s + 1) (by omega) (by omega)]
     refine hk _ ⟨by omega, fun i hi hs => ?_⟩ (by omega)
     by_cases hq : i + 1 = s.toNat
     ·have hi' : i = s.toNat - 1 := by omega
      subst hi'
      simp only [e]
      simp at h6; omega
     ·exact h5 i hi (by omega)
   ·have h0 : (p.Extras.length : Int) ≤ s := by simpa using h4
    have : asc p.Extras := fun i hi => h5 i hi (by omega)
    rw [if_neg (by simpa using this)]
noncomputable def errW (l : PayList) (p : PayPiece) : Int := if chkL l ≠ 0 then chkL l else chkP l p
theorem s55g {l : PayList} {p : PayPiece} (h1 : p.Extras.length ≤ 1000) (h2 : l.Extras.length ≤ 1000) (h3 : l.Rates.length ≤ 1000) : f55 l p = some (⟨l⟩, errW l p) := by
 refine Yes.eq ?_
 unfold f55 errW
 refine Yes.jn (qbind _ (s15 l h3 h2) (Yes.cond (fun h => Yes.some ?_) (fun h => qbind _ (s79g h1 h2) (Yes.some ?_))))
 ·rw [if_pos (by simpa using h)]
 ·rw [if_neg (by simpa using h)]
end Go.Proofs.YtkmbkaoolacofaaGreat
