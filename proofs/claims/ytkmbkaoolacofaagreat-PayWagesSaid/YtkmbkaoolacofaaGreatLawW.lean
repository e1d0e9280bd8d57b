/- Plain laws: PayWages. -/
import Derived.Test.YtkmbkaoolacofaaGreatLawC
set_option maxRecDepth 8000
namespace Go.Proofs.YtkmbkaoolacofaaGreat
open Go.RowKit
open Classical

def pNum (p : PayPiece) : Prop := btw 0 50 p.Weaver = true ∧ btw 0 1000 p.Dense = true ∧ btw 0 1000000 p.Picks = true ∧ btw 0 100 p.Faults = true
def pEx (l : PayList) (p : PayPiece) : Prop := ∀ x ∈ p.Extras, 0 ≤ x ∧ x < (l.Extras.length : Int)
noncomputable def chkP (l : PayList) (p : PayPiece) : Int := if ¬ pNum p then 2 else if ¬ pEx l p then 7 else if ¬ asc p.Extras then 4 else 0
theorem chkP_ok {l : PayList} {p : PayPiece} (h : chkP l p = 0) : okPiece l p := by
 unfold chkP at h
 split at h
 ·cases h
 split at h
 ·cases h
 split at h
 ·cases h
 rename_i h1 h2 h3
 have h1 := Classical.not_not.1 h1
 exact ⟨h1.1, h1.2.1, h1.2.2.1, h1.2.2.2, Classical.not_not.1 h2, Classical.not_not.1 h3⟩
theorem s79g {l : PayList} {p : PayPiece} (h1 : p.Extras.length ≤ 1000) (h2 : l.Extras.length ≤ 1000) : f79 ⟨l⟩ p = some (chkP l p) := by
 refine Yes.eq ?_
 unfold f79
 refine Yes.jn (Yes.bind (Yes.mono (Q' := fun r => r = !decide (pNum p)) ?_ fun r hr => ?_))
 ·simp only [s54_one, Option.bind_some]
  unfold pNum
  cases h3 : btw 0 50 p.Weaver <;> cases h4 : btw 0 1000 p.Dense <;> cases h5 : btw 0 1000000 p.Picks <;> cases h6 : btw 0 100 p.Faults <;> simp <;> exact Yes.some rfl
 ·subst hr
  unfold chkP
  refine Yes.cond (fun h => Yes.some ?_) (fun h => ?_)
  ·have : ¬ pNum p := by simpa using h
   rw [if_pos this]
  have hn : pNum p := by simpa using h
  rw [if_neg (by simpa using hn)]
  dsimp only
  rw [qw64 (n := (l.Extras.length : Int) - 1) (by omega) (by omega), s54 _ _ _ (by omega)]
  refine Yes.bind (Yes.some (Yes.cond (fun h => Yes.some ?_) (fun h => ?_)))
  ·have : ¬ pEx l p := fun he => by
    have hall : p.Extras.all (btw 0 ((l.Extras.length : Int) - 1)) = true := List.all_eq_true.2 fun x hx => btw_iff.2 (by have := he x hx; omega)
    rw [hall] at h; cases h
   rw [if_pos this]
  have he : pEx l p := fun x hx => by
   have hall : p.Extras.all (btw 0 ((l.Extras.length : Int) - 1)) = true := by simpa using h
   have := btw_iff.1 (List.all_eq_true.1 hall x hx); omega
  rw [if_neg (by simpa using he)]
  refine qbind _ (s102g (by omega)) (Yes.cond (fun h => Yes.some ?_) (fun h => Yes.some ?_))
  ·have : ¬ asc p.Extras := by simpa using h
   rw [if_pos this]
  ·have : asc p.Extras := by simpa using h
   rw [if_neg (by simpa using this)]
theorem s21 {l : PayList} {p : PayPiece} (h1 : p.Extras.length ≤ 1000) (h2 : l.Extras.length ≤ 1000) : f21 l p = some (chkP l p) := by
 refine Yes.eq ?_
 unfold f21
 refine Yes.jn (Yes.bind (Yes.mono (Q' := fun r => r = !decide (pNum p)) ?_ fun r hr => ?_))
 ·simp only [s25, Option.bind_some]
  unfold pNum
  cases h3 : btw 0 50 p.Weaver <;> cases h4 : btw 0 1000 p.Dense <;> cases h5 : btw 0 1000000 p.Picks <;> cases h6 : btw 0 100 p.Faults <;> simp <;> exact Yes.some rfl
 ·subst hr
  unfold chkP
  refine Yes.cond (fun h => Yes.some ?_) (fun h => Yes.jn ?_)
  ·have : ¬ pNum p := by simpa using h
   rw [if_pos this]
  have hn : pNum p := by simpa using h
  rw [if_neg (by simpa using hn)]
  refine Yes.upto0 p.Extras.length (by omega) (fun i => ∀ j (h : j < p.Extras.length), j < i → 0 ≤ p.Extras[j] ∧ p.Extras[j] < (l.Extras.length : Int)) (fun _ _ h => absurd h (Nat.not_lt_zero _)) (fun i k hi hI hk => ?_) (fun k hI => ?_)
  ·refine Yes.jn (qtake (by simp; omega) (Yes.jn (Yes.bind (Yes.idx rfl hi ?_))))
   rw [qw64 (n := (l.Extras.length : Int) - 1) (by omega) (by omega)]
   refine qbind _ (s25 _ _ _) (Yes.cond (fun h => Yes.some ?_) (fun h => hk fun j hj hji => ?_))
   ·have : ¬ pEx l p := fun he => by
     have := he _ (List.getElem_mem hi)
     have hb : btw 0 ((l.Extras.length : Int) - 1) p.Extras[i] = true := btw_iff.2 (by omega)
     rw [hb] at h; cases h
    rw [if_pos this]
   ·rcases Nat.lt_succ_iff_lt_or_eq.1 hji with h2 | rfl
    ·exact hI j hj h2
    ·have hb : btw 0 ((l.Extras.length : Int) - 1) p.Extras[j] = true := by simpa using h
     have := btw_iff.1 hb; omega
  ·have he : pEx l p := fun x hx => by
    obtain ⟨j, hj, rfl⟩ := List.getElem_of_mem hx
    exact hI j hj hj
   rw [if_neg (by simpa using he)]
   refine Yes.jn (qskip (by simp) (Yes.jn ?_))
   refine Yes.lp (fun s => 1 ≤ s ∧ ∀ i (h : i + 1 < p.Extras.length), (i : Int) + 1 < s → p.Extras[i] < p.Extras[i + 1]) (fun s => ((p.Extras.length : Int) - s).toNat) ⟨by omega, fun i h h2 => absurd h2 (by omega)⟩ (by omega) ?_
   rintro s k ⟨h3, h5⟩ hk
   refine Yes.jn (Yes.cond (fun h4 => ?_) (fun h4 => Yes.some ?_))
   ·have h0 : s < (p.Extras.length : Int) := by simpa using h4
    refine Yes.jn (Yes.bind (Yes.idx (n := s.toNat) (by omega) (by omega) ?_))
    rw [qw64 (n := s - 1) (by omega) (by omega)]
    refine Yes.bind (Yes.idx (n := s.toNat - 1) (by omega) (by omega) ?_)
    have e : s.toNat - 1 + 1 = s.toNat := by omega
    refine Yes.cond (fun h6 => Yes.some ?_) (fun h6 => ?_)
    ·have : ¬ asc p.Extras := fun ha => by
      have := ha (s.toNat - 1) (by omega)
      simp only [e] at this
      simp at h6; omega
     rw [if_pos this]
    ·show Yes (k (w64 (s + 1))) _
     rw [qw64 (n := s + 1) (by omega) (by omega)]
     refine hk _ ⟨by omega, fun i hi hs => ?_⟩ (by omega)
     by_cases hq : i + 1 = s.toNat
     ·have hi' : i = s.toNat - 1 := by omega
      subst hi'
      simp only [e]
      simp at h6; omega
     ·exact h5 i hi (by omega)
   ·have h0 : (p.Extras.length : Int) ≤ s := by simpa using h4
    have : asc p.Extras := fun i hi => h5 i hi (by omega)
    rw [if_neg (by simpa using this)]
noncomputable def errW (l : PayList) (p : PayPiece) : Int := if chkL l ≠ 0 then chkL l else chkP l p
theorem s55g {l : PayList} {p : PayPiece} (h1 : p.Extras.length ≤ 1000) (h2 : l.Extras.length ≤ 1000) (h3 : l.Rates.length ≤ 1000) : f55 l p = some (⟨l⟩, errW l p) := by
 refine Yes.eq ?_
 unfold f55 errW
 refine Yes.jn (qbind _ (s15 l h3 h2) (Yes.cond (fun h => Yes.some ?_) (fun h => qbind _ (s79g h1 h2) (Yes.some ?_))))
 ·rw [if_pos (by simpa using h)]
 ·rw [if_neg (by simpa using h)]
theorem err_ok {l : PayList} {p : PayPiece} (h : errW l p = 0) : LOk l ∧ okPiece l p := by
 unfold errW at h
 split at h
 ·rename_i h1; exact absurd h h1
 ·rename_i h1
  have h1 := Classical.not_not.1 h1
  refine ⟨?_, chkP_ok h⟩
  unfold chkL at h1
  split at h1
  ·cases h1
  split at h1
  ·rename_i h3 h4
   unfold long6 at h3
   exact ⟨h4, by omega, by omega⟩
  ·cases h1
theorem s16e {l : PayList} {p : PayPiece} (h1 : p.Extras.length ≤ 1000) (h2 : l.Extras.length ≤ 1000) (h3 : l.Rates.length ≤ 1000) (he : errW l p ≠ 0) : f16 l p = some (0, 0, 0, errW l p) := by
 refine Yes.eq ?_
 unfold f16
 exact qbind _ (s55g h1 h2 h3) (Yes.jn (qtake (by simpa using he) (Yes.some rfl)))
theorem s17e {l : PayList} {p : PayPiece} {x : Span} (h1 : p.Extras.length ≤ 1000) (h2 : l.Extras.length ≤ 1000) (h3 : l.Rates.length ≤ 1000) (he : errW l p ≠ 0) : f17 l p x = some (⟨0, 0⟩, errW l p) := by
 refine Yes.eq ?_
 unfold f17
 exact qbind _ (s55g h1 h2 h3) (Yes.jn (qtake (by simpa using he) (Yes.some rfl)))
def okSpan (x : Span) : Prop := 0 ≤ x.Low ∧ x.Low ≤ x.High ∧ x.High ≤ 100
theorem s17s {l : PayList} {p : PayPiece} {x : Span} (h : LOk l) (hp : okPiece l p) (h1 : p.Extras.length ≤ 1000) (hx : ¬ okSpan x) : f17 l p x = some (⟨0, 0⟩, 3) := by
 refine Yes.eq ?_
 unfold f17
 refine qbind _ (s55 h hp h1) (Yes.jn (qskip rfl ?_))
 rw [s54 _ _ _ (by simp)]
 refine Yes.bind (Yes.bind (Yes.some (Yes.cond (fun h3 => Yes.some (qtake h3 (Yes.some rfl))) (fun h3 => Yes.some (qtake ?_ (Yes.some rfl))))))
 have hall : ([x.Low, x.High] : List Int).all (btw 0 100) = true := by simpa using h3
 simp [btw] at hall
 rw [decide_eq_true_eq]
 unfold okSpan at hx
 omega
theorem s3 (l : PayList) (p : PayPiece) (x : Span) (hx : -9223372036854775808 ≤ x.High ∧ x.High ≤ 9223372036854775807) : f3 l p x = some true := by
 refine Yes.eq ?_
 unfold f3
 refine Yes.jn (Yes.bind (Yes.mono (Q' := fun r => r = decide ((l.Rates.length > 12 ∨ l.Extras.length > 12) ∨ p.Extras.length > 12)) ?_ fun r hr => ?_))
 ·refine qbind _ (s11 l) (Yes.cond (fun h => Yes.some ?_) (fun h => Yes.some ?_))
  ·rw [decide_eq_true_eq] at h; simp [h]
  ·rw [decide_eq_false_iff_not] at h
   rw [decide_eq_decide]
   omega
 subst hr
 refine Yes.cond (fun _ => qbind _ known_ok (Yes.some rfl)) (fun h => ?_)
 rw [decide_eq_false_iff_not] at h
 have b1 : l.Rates.length ≤ 12 := by omega
 have b2 : l.Extras.length ≤ 12 := by omega
 have b3 : p.Extras.length ≤ 12 := by omega
 refine qbind _ (s13 l (by omega) (by omega)) (qbind _ (s14 [p] (by simp) (by simp; omega)) (qbind _ (s15 l (by omega) (by omega)) (qbind p rfl ?_)))
 -- the two calls
 have same : ∀ {e : Int} {X : Option Bool}, e = chkL l → Yes X (fun r => r = true) → Yes (Option.bind (α := Bool) (
   (f19 l l).bind fun y181 =>
   bif (!y181) then
    some (true)
   else
    (f20 [p] (([p] : List PayPiece))).bind fun y186 =>
    bif (!y186) then
     some (true)
    else
     some ((chkL l != e))) fun s => bif s then some false else X) (fun r => r = true) := fun he hX => by
  subst he
  exact Yes.bind (qbind _ (s19r l (by omega) (by omega)) (qskip rfl (qbind _ (s20r [p] (by simp) (by simp; omega)) (qskip rfl (Yes.some (qskip (by simp) hX))))))
 have want : Yes (Option.bind (α := Int) (bif (chkL l == (0 : Int)) then (f21 l p).bind fun y => some y else some (chkL l)) fun s => some s) (fun r => r = errW l p) := by
  unfold errW
  refine Yes.bind (Yes.cond (fun h => qbind _ (s21 (by omega) (by omega)) (Yes.some (Yes.some ?_))) (fun h => Yes.some (Yes.some ?_)))
  ·rw [if_neg (by simpa using h)]
  ·rw [if_pos (by simpa using h)]
 have wantb : ∀ {K : Int → Option Bool}, Yes (K (errW l p)) (fun r => r = true) → Yes (Option.bind (α := Int) (bif (chkL l == (0 : Int)) then (f21 l p).bind fun y => some y else some (chkL l)) K) (fun r => r = true) := fun hK => by
  obtain ⟨r, hr, rfl⟩ := want
  have : (bif (chkL l == (0 : Int)) then (f21 l p).bind fun y => some y else some (chkL l)) = some (errW l p) := by simpa using hr
  rw [this]; exact hK
 by_cases he : errW l p = 0
 ·obtain ⟨hl, hp⟩ := err_ok he
  have hpf := btw_iff.1 hp.2.2.2.1
  refine qbind _ (s16 hl hp (by omega)) (qbind p rfl ?_)
  by_cases hs : okSpan x
  ·refine qbind _ (s17 hl hp (by omega) hs) (qbind _ (s18 l (by omega) (by omega)) (Yes.jn (same rfl (wantb ?_))))
   rw [he]
   refine Yes.jn (qskip rfl (Yes.jn (qskip rfl (Yes.jn (qbind _ (s22 hl hp (by omega)) (Yes.bind (qskip (by simp) (qbind _ (s23 hl (earn_all hl hp (by omega)).2.2 hpf) (qskip (by simp) (qbind _ (s24 hl hp (by omega) hpf) (Yes.some (qskip (by simp) (Yes.jn ?_)))))))))))))
   have hin : btw 0 x.High x.Low = true := btw_iff.2 ⟨hs.1, hs.2.1⟩
   refine Yes.bind (qbind _ (s25 _ _ _) (qskip (by rw [hin]; rfl) (Yes.some (qskip (by rw [decide_eq_false_iff_not]; have := hs.2.2; omega) ?_))))
   refine Yes.bind (Yes.mono (Q' := fun r => r = (wageL l p x.High, wageL l p x.Low)) ?_ fun r hr => ?_)
   ·refine Yes.lp (fun s => x.Low ≤ s.2.2 ∧ s.2.2 ≤ x.High + 1 ∧ (s.2.2 = x.Low → s.1 = 1099511627776 ∧ s.2.1 = -1) ∧ (x.Low < s.2.2 → s.1 = wageL l p (s.2.2 - 1) ∧ s.2.1 = wageL l p x.Low)) (fun s => (x.High + 1 - s.2.2).toNat) ⟨Int.le_refl _, by have := hs.2.1; simp only; omega, fun _ => ⟨rfl, rfl⟩, fun h => absurd h (by simp)⟩ (by have := hs.1; have := hs.2.2; simp only; omega) ?_
    rintro ⟨a, b, n⟩ k ⟨n0, n1, e1, e2⟩ hk
    simp only at n0 n1 e1 e2
    have hs0 := hs.1; have hs2 := hs.2.2
    refine Yes.jn (Yes.cond (fun h => ?_) (fun h => Yes.some ?_))
    ·have hn : n ≤ x.High := by simpa using h
     refine Yes.bind (qbind _ (s24 hl hp (by omega) ⟨by omega, by omega⟩) (qbind _ (s24 hl hp (by omega) ⟨by omega, by omega⟩) (Yes.some ?_)))
     rw [min64_eq, max64_eq, qw64 (n := n + 1) (by omega) (by omega)]
     have hb := wage_bound hl hp (by omega) (n := n) ⟨by omega, by omega⟩
     have m1 := wage_mono (p := p) hl (n := x.Low) (m := n) n0
     refine hk _ ⟨by simp only; omega, by simp only; omega, fun h => absurd h (by simp only; omega), fun _ => ?_⟩ (by simp only; omega)
     simp only
     rw [show n + 1 - 1 = n by omega]
     rcases Int.lt_or_eq_of_le n0 with h3 | h3
     ·obtain ⟨q1, q2⟩ := e2 h3
      have m2 := wage_mono (p := p) hl (n := n - 1) (m := n) (by omega)
      rw [q1, q2]; omega
     ·obtain ⟨q1, q2⟩ := e1 h3.symm
      rw [q1, q2, h3]; constructor <;> omega
    ·have hn : n = x.High + 1 := by simp at h; omega
     obtain ⟨q1, q2⟩ := e2 (by have := hs.2.1; omega)
     rw [q1, q2, hn, show x.High + 1 - 1 = x.High by omega]
   ·subst hr
    refine Yes.bind (qtake rfl (qbind ⟨wageL l p x.High, wageL l p x.Low⟩ (by unfold f26; rfl) (qtake (by simp) (qbind _ known_ok (Yes.some (Yes.some rfl))))))
  ·refine qbind _ (s17s hl hp (by omega) hs) (qbind _ (s18 l (by omega) (by omega)) (Yes.jn (same rfl (wantb ?_))))
   rw [he]
   refine Yes.jn (qskip rfl (Yes.jn (qskip rfl (Yes.jn (qbind _ (s22 hl hp (by omega)) (Yes.bind (qskip (by simp) (qbind _ (s23 hl (earn_all hl hp (by omega)).2.2 hpf) (qskip (by simp) (qbind _ (s24 hl hp (by omega) hpf) (Yes.some (qskip (by simp) (Yes.jn ?_)))))))))))))
   have fin : Yes (Option.bind (α := Bool) (bif ((3 : Int) == (3 : Int)) then bif (decide ((⟨0, 0⟩ : Span) = (⟨0, 0⟩ : Span))) then (f12).bind fun y379 => some (y379) else some (false) else some (false)) fun s6 => some s6) (fun r => r = true) :=
    Yes.bind (qtake rfl (qtake (by simp) (qbind _ known_ok (Yes.some (Yes.some rfl)))))
   refine Yes.bind (qbind _ (s25 _ _ _) (Yes.cond (fun _ => Yes.some (qtake rfl fin)) (fun h => Yes.some (qtake ?_ fin))))
   have hb : btw 0 x.High x.Low = true := by simpa using h
   have := btw_iff.1 hb
   rw [decide_eq_true_eq]
   unfold okSpan at hs; omega
 ·refine qbind _ (s16e (by omega) (by omega) (by omega) he) (qbind p rfl (qbind _ (s17e (by omega) (by omega) (by omega) he) (qbind _ (s18 l (by omega) (by omega)) (Yes.jn (same rfl (wantb ?_))))))
  refine Yes.jn (qskip (by simp) (Yes.jn (qtake (by simpa using he) ?_)))
  exact Yes.bind (qtake (by simp) (qtake rfl (qtake rfl (qtake rfl (qtake (by simp) (qbind _ known_ok (Yes.some (Yes.some rfl))))))))
theorem s3f (l : PayList) (p : PayPiece) (x : Span) {A B : Prop} (_h1 : A) (_h2 : B) (hx : (-9223372036854775808 ≤ x.Low ∧ x.Low ≤ 9223372036854775807) ∧ (-9223372036854775808 ≤ x.High ∧ x.High ≤ 9223372036854775807)) : f3 l p x = some true := s3 l p x hx.2
end Go.Proofs.YtkmbkaoolacofaaGreat
