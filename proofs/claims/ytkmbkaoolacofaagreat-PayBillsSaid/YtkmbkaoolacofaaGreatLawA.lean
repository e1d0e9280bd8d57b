/- Plain laws: the error of a price list and of a piece; what a piece earns. -/
import Derived.Test.YtkmbkaoolacofaaGreatYes
set_option maxRecDepth 8000
namespace Go.Proofs.YtkmbkaoolacofaaGreat
open Go.RowKit
open Classical

theorem qskip {α : Type} {Q : α → Prop} {c : Bool} {X Y : Option α} (hc : c = false) (h : Yes Y Q) : Yes (bif c then X else Y) Q := by rw [hc]; exact h
theorem qtake {α : Type} {Q : α → Prop} {c : Bool} {X Y : Option α} (hc : c = true) (h : Yes X Q) : Yes (bif c then X else Y) Q := by rw [hc]; exact h
theorem qbind {α β : Type} {Q : β → Prop} {x : Option α} {f : α → Option β} (a : α) (h : x = some a) (k : Yes (f a) Q) : Yes (x.bind f) Q := by rw [h]; exact k
theorem qw64 {n : Int} (h1 : -1000000000 ≤ n) (h2 : n ≤ 1000000000) : w64 n = n := w64_id (by omega) (by omega)
theorem wu64_id {n : Int} (h1 : 0 ≤ n) (h2 : n ≤ 9223372036854775807) : wu64 n = n := by
 unfold wu64; rw [show IntKind.u64.wrap n = n % 18446744073709551616 from rfl]; omega
theorem quo_nn {a b : Int} (ha : 0 ≤ a) (ha2 : a ≤ 9223372036854775807) (hb : 0 < b) : quo64 a b = some (a / b) := by
 unfold quo64
 rw [if_neg (by omega), Int.tdiv_eq_ediv_of_nonneg ha, w64_id]
 ·have := Int.ediv_nonneg ha (Int.le_of_lt hb); omega
 ·exact Int.le_trans (Int.ediv_le_self b ha) ha2
theorem min64_eq (a b : Int) : min64 a b = min a b := by unfold min64; omega
/-! ### Comparisons and copies -/
theorem cmp_loop {α : Type} [DecidableEq α] (x0 x1 : List α) (ne : α → α → Bool) (hne : ∀ a b, ne a b = !decide (a = b)) (hl : x0.length < 9223372036854775807) :
  Yes (jn (σ := Unit) (fun _ =>
   jn (σ := Unit) (fun _ => some true) fun k53 =>
   lp (σ := Int) (fun k54 s5 =>
    jn (σ := Unit) (fun _ =>
     jn (σ := Unit) (fun _ => k54 ((w64 (s5 + (1 : Int))))) fun k80 =>
     (idx x0 s5).bind fun y81 => (idx x1 s5).bind fun y84 =>
     bif ne y81 y84 then some false else k80 ()) fun k57 =>
    bif (decide (s5 < ((x0).length : Int))) then k57 () else k53 ()) big ((0 : Int))) fun k2 =>
  bif (((x0).length : Int) != ((x1).length : Int)) then some false else k2 ()) (fun r => r = decide (x0 = x1)) := by
 refine Yes.jn (Yes.cond (fun h => Yes.some ?_) (fun h => Yes.jn ?_))
 ·have h1 : x0.length ≠ x1.length := by simp at h; omega
  have : x0 ≠ x1 := fun e => h1 (by rw [e])
  simp [this]
 ·have h1 : x0.length = x1.length := by simp at h; omega
  refine Yes.upto0 x0.length hl (fun i => ∀ n (h1 : n < x0.length) (h2 : n < x1.length), n < i → x0[n] = x1[n]) (fun _ _ _ h => absurd h (Nat.not_lt_zero _)) (fun i k hi hI hk => ?_) (fun k hI => ?_)
  ·refine Yes.jn (Yes.cond (fun _ => Yes.jn (Yes.bind (Yes.idx rfl hi (Yes.bind (Yes.idx rfl (by omega) (Yes.cond (fun h => Yes.some ?_) (fun h => hk ?_))))))) (fun h => absurd h (by simp; omega)))
   ·rw [hne] at h
    have hn : x0[i] ≠ x1[i] := by simpa using h
    have : x0 ≠ x1 := fun e => hn (by simp only [e])
    simp [this]
   ·rw [hne] at h
    have he : x0[i] = x1[i] := by simpa using h
    intro n hn1 hn2 hni
    rcases Nat.lt_succ_iff_lt_or_eq.1 hni with h | rfl
    ·exact hI n hn1 hn2 h
    ·exact he
  ·refine Yes.jn (Yes.cond (fun h => absurd h (by simp)) (fun _ => Yes.some ?_))
   have : x0 = x1 := List.ext_getElem h1 fun n hn1 hn2 => hI n hn1 hn2 hn1
   simp [this]
theorem s29 (a b : List Int) (ha : a.length < 9223372036854775807) : f29 a b = some (decide (a = b)) := by
 unfold f29; exact Yes.eq (cmp_loop a b (fun x y => x != y) (fun x y => by by_cases h : x = y <;> simp [h]) ha)
theorem s19r (l : PayList) (h1 : l.Rates.length < 9223372036854775807) (h2 : l.Extras.length < 9223372036854775807) : f19 l l = some true := by
 refine Yes.eq ?_
 unfold f19
 refine Yes.jn (Yes.bind (qskip (by simp) (qskip (by simp) (qbind _ (s29 _ _ h2) (qskip (by simp) (Yes.some (qskip (by simp) (Yes.jn ?_))))))))
 refine Yes.upto0 l.Rates.length h1 (fun _ => True) trivial (fun i k hi _ hk => ?_) (fun k _ => ?_)
 ·refine Yes.jn (qtake (by simp; omega) (Yes.jn (Yes.bind (Yes.idx rfl hi (Yes.bind (Yes.idx rfl hi (qskip (by simp) (hk trivial))))))))
 ·exact Yes.jn (qskip (by simp) (Yes.some rfl))
theorem s20r (l : List PayPiece) (h1 : l.length < 9223372036854775807) (h2 : ∀ p ∈ l, p.Extras.length < 9223372036854775807) : f20 l l = some true := by
 refine Yes.eq ?_
 unfold f20
 refine Yes.jn (qskip (by simp) (Yes.jn ?_))
 refine Yes.upto0 l.length h1 (fun _ => True) trivial (fun i k hi _ hk => ?_) (fun k _ => ?_)
 ·refine Yes.jn (qtake (by simp; omega) (Yes.jn (Yes.bind (Yes.idx rfl hi (Yes.bind (Yes.idx rfl hi ?_))))))
  refine Yes.bind (qskip (by simp) (qskip (by simp) (qskip (by simp) (qskip (by simp) (qbind _ (s29 _ _ (h2 _ (List.getElem_mem hi))) (Yes.some (qskip (by simp) (hk trivial))))))))
 ·exact Yes.jn (qskip (by simp) (Yes.some rfl))
theorem s13 (l : PayList) (h1 : l.Rates.length ≤ 1000000) (h2 : l.Extras.length ≤ 1000000) : f13 l = some l := by
 refine Yes.eq ?_
 unfold f13
 exact Yes.bind (Yes.apnd (by simp; omega) (by simp; omega) (Yes.bind (Yes.apnd (by simp; omega) (by simp; omega) (Yes.some (by simp)))))
theorem s14 (l : List PayPiece) (h1 : l.length ≤ 1000000) (h2 : ∀ p ∈ l, p.Extras.length ≤ 1000000) : f14 l = some l := by
 refine Yes.eq ?_
 unfold f14
 refine Yes.bind (Yes.mono (Q' := fun r => r = l) ?_ fun r hr => by rw [hr]; exact Yes.some rfl)
 refine Yes.upto l.length (by omega) (fun i s => s = l.take i) rfl (fun i s k hi hI hk => ?_) (fun s k hI => ?_)
 ·subst hI
  have hx := h2 _ (List.getElem_mem hi)
  refine Yes.jn (qtake (by simp; omega) (Yes.bind (Yes.bind (Yes.idx rfl hi (Yes.bind (Yes.apnd (by simp; omega) (by simp; omega) (Yes.bind (Yes.apnd (by simp; omega) (by simp; omega) (Yes.some (hk _ ?_))))))))))
  rw [List.take_succ_eq_append_getElem hi]
  simp only [List.nil_append]
 ·subst hI
  exact Yes.jn (qskip (by simp) (Yes.some (by simp)))
theorem s11 (l : PayList) : f11 l = some (decide (l.Rates.length > 12 ∨ l.Extras.length > 12)) := by
 unfold f11
 by_cases h1 : l.Rates.length > 12
 ·have e : decide ((l.Rates.length : Int) > 12) = true := by simp; omega
  simp [e, h1]
 ·have e : decide ((l.Rates.length : Int) > 12) = false := by simp; omega
  have e2 : decide ((l.Extras.length : Int) > 12) = decide (l.Extras.length > 12) := by rw [decide_eq_decide]; omega
  simp [e, e2, h1]

/-! ### Between two others -/
def btw (a b x : Int) : Bool := decide (a ≤ x ∧ x ≤ b)
theorem s25 (x a b : Int) : f25 x a b = some (btw a b x) := by unfold f25 btw; by_cases h1 : x ≥ a <;> by_cases h2 : x ≤ b <;> simp [h1, h2] <;> omega
theorem s78 (x a b : Int) : f78 x a b = some (!btw a b x) := by unfold f78 btw; by_cases h1 : x < a <;> by_cases h2 : x > b <;> simp [h1, h2] <;> omega
theorem s68 (xs : List Int) (φ : Int → Option Bool) (p : Int → Bool) (hl : xs.length < 9223372036854775807) (h : ∀ a ∈ xs, φ a = some (p a)) : f68 xs φ = some (xs.any p) :=
 Yes.eq (Yes.bind (Yes.mono (index_is xs φ p hl h) fun _ hr => Yes.some (index_any hr)))
theorem s54 (a b : Int) (xs : List Int) (hl : xs.length < 9223372036854775807) : f54 a b xs = some (xs.all (btw a b)) := by
 unfold f54
 rw [s68 xs _ (fun x => !btw a b x) hl fun x _ => s78 x a b]
 simp [List.all_eq_not_any_not]
theorem s54_one (a b x : Int) : f54 a b [x] = some (btw a b x) := by rw [s54 _ _ _ (by simp)]; simp
theorem s53 (xs : List Int) (hl : xs.length < 9223372036854775807) : f53 xs = some (xs.all (btw 0 1000)) := by
 unfold f53; rw [s54 _ _ _ hl]; rfl

/-! ### The error of a list -/
def okAt (rs : List PayRate) (i : Nat) (h : i < rs.length) : Prop := btw 0 1000 rs[i].From = true ∧ btw 0 10000 rs[i].Rate = true ∧ (i = 0 → rs[i].From = 0) ∧ ∀ _ : 0 < i, (rs[i - 1]'(by omega)).From < rs[i].From
def okRates (rs : List PayRate) : Prop := ∀ i (h : i < rs.length), okAt rs i h
def okList (l : PayList) : Prop := okRates l.Rates ∧ (∀ x ∈ l.Extras, btw 0 1000 x = true) ∧ 0 < l.Rates.length ∧ btw 0 1000 l.Fine = true ∧ btw 0 1000 l.Cap = true
def long6 (l : PayList) : Prop := l.Rates.length > 6 ∨ l.Extras.length > 8
noncomputable def chkL (l : PayList) : Int := if long6 l then 5 else if okList l then 0 else 2
theorem btw_iff {a b x : Int} : btw a b x = true ↔ a ≤ x ∧ x ≤ b := by simp [btw]
theorem s52 (l : PayList) (hl : l.Rates.length ≤ 1000) : f52 ⟨l⟩ = some (decide (okRates l.Rates ∧ 0 < l.Rates.length)) := by
 refine Yes.eq ?_
 unfold f52
 refine Yes.jn ?_
 show Yes (lp _ big ((0 : Int), (0 : Int), (0 : Int))) _
 refine Yes.upto2 l.Rates.length (by omega) (fun i s t => (∀ j (h : j < l.Rates.length), j < i → okAt l.Rates j h) ∧ (i = 0 → s = 0 ∧ t = 0) ∧ ∀ (h : 0 < i) (h2 : i ≤ l.Rates.length), s = (l.Rates[i - 1]'(by omega)).From + 1 ∧ t = 1000)
  ⟨fun _ _ h => absurd h (Nat.not_lt_zero _), fun _ => ⟨rfl, rfl⟩, fun h => absurd h (Nat.lt_irrefl _)⟩ (fun i s t k hi hI hk => ?_) (fun s t k hI => ?_)
 ·obtain ⟨hok, hz, hp⟩ := hI
  refine qtake (by simp; omega) (Yes.jn (Yes.bind (Yes.idx rfl hi (Yes.jn (Yes.bind ?_)))))
  have fin : okAt l.Rates i hi → Yes (k (w64 (l.Rates[i].From + 1), (1000 : Int), w64 ((i : Int) + 1))) (fun r => r = decide (okRates l.Rates ∧ 0 < l.Rates.length)) := fun ho => by
   have hb := btw_iff.1 ho.1
   rw [qw64 (n := l.Rates[i].From + 1) (by omega) (by omega)]
   refine hk _ _ ⟨fun j hj hji => ?_, fun h => absurd h (by omega), fun _ _ => ⟨by simp, rfl⟩⟩
   rcases Nat.lt_succ_iff_lt_or_eq.1 hji with h | rfl
   ·exact hok j hj h
   ·exact ho
  have bad : ¬ okAt l.Rates i hi → (false : Bool) = decide (okRates l.Rates ∧ 0 < l.Rates.length) := fun hn => by
   rw [eq_comm, decide_eq_false_iff_not]; exact fun h => hn (h.1 i hi)
  rw [s54_one]
  have hs : btw s t l.Rates[i].From = true ↔ btw 0 1000 l.Rates[i].From = true ∧ (i = 0 → l.Rates[i].From = 0) ∧ ∀ _ : 0 < i, (l.Rates[i - 1]'(by omega)).From < l.Rates[i].From := by
   rw [btw_iff, btw_iff]
   rcases Nat.eq_zero_or_pos i with h0 | h0
   ·obtain ⟨rfl, rfl⟩ := hz h0
    constructor
    ·intro h; exact ⟨by omega, fun _ => by omega, fun h2 => absurd h2 (by omega)⟩
    ·intro h; have := h.2.1 h0; omega
   ·obtain ⟨rfl, rfl⟩ := hp h0 (by omega)
    have hb := btw_iff.1 (hok (i - 1) (by omega) (by omega)).1
    constructor
    ·intro h; exact ⟨by omega, fun h2 => absurd h2 (by omega), fun _ => by omega⟩
    ·intro h; have := h.2.2 h0; omega
  refine Yes.bind (Yes.some (Yes.cond (fun h => Yes.some (qtake rfl (Yes.some ?_))) fun h => ?_))
  ·refine bad fun ho => ?_
   have : btw s t l.Rates[i].From = true := hs.2 ⟨ho.1, ho.2.2⟩
   rw [this] at h; cases h
  ·have h1 : btw s t l.Rates[i].From = true := by simpa using h
   obtain ⟨h2, h3⟩ := hs.1 h1
   rw [s54_one]
   refine Yes.bind (Yes.some (Yes.some (Yes.cond (fun h4 => Yes.some ?_) fun h4 => fin ⟨h2, by simpa using h4, h3⟩)))
   refine bad fun ho => ?_
   rw [ho.2.1] at h4; cases h4
 ·refine qskip (by simp) (Yes.some ?_)
  rw [decide_eq_decide]
  exact ⟨fun h => ⟨fun i hi => hI.1 i hi hi, by simpa using h⟩, fun h => by have := h.2; simp; omega⟩
theorem s15 (l : PayList) (h1 : l.Rates.length ≤ 1000) (h2 : l.Extras.length ≤ 1000) : f15 l = some (chkL l) := by
 refine Yes.eq ?_
 unfold f15
 refine Yes.jn (Yes.bind (Yes.mono (Q' := fun r => r = decide (long6 l)) ?_ fun r hr => ?_))
 ·refine Yes.cond (fun h => Yes.some ?_) fun h => Yes.some ?_
  ·rw [h, eq_comm, decide_eq_true_eq]; simp at h; exact .inl (by omega)
  ·rw [decide_eq_decide]; simp at h; unfold long6; omega
 ·subst hr
  refine Yes.cond (fun h => Yes.some ?_) fun h => ?_
  ·simp only [decide_eq_true_eq] at h; unfold chkL; rw [if_pos h]
  ·have hn : ¬ long6 l := by simpa using h
   refine Yes.bind (Yes.mono (Q' := fun r => r = !decide (okList l)) ?_ fun r hr => ?_)
   ·refine qbind _ (s52 l h1) (Yes.cond (fun h => Yes.some ?_) fun h => ?_)
    ·have : ¬ okList l := fun ho => by simp only [Bool.not_eq_true', decide_eq_false_iff_not] at h; exact h ⟨ho.1, ho.2.2.1⟩
     rw [h]; simp [this]
    ·have hr : okRates l.Rates ∧ 0 < l.Rates.length := by simpa using h
     rw [s53 _ (by omega)]
     refine Yes.bind (Yes.some (Yes.cond (fun h => Yes.some ?_) fun h => ?_))
     ·have : ¬ okList l := fun ho => by
       have : l.Extras.all (btw 0 1000) = true := List.all_eq_true.2 ho.2.1
       rw [this] at h; cases h
      rw [h]; simp [this]
     ·have he : ∀ x ∈ l.Extras, btw 0 1000 x = true := List.all_eq_true.1 (by simpa using h)
      rw [s54_one]
      refine Yes.bind (Yes.some (Yes.cond (fun h => Yes.some ?_) fun h => ?_))
      ·have : ¬ okList l := fun ho => by rw [ho.2.2.2.1] at h; cases h
       rw [h]; simp [this]
      ·have hf : btw 0 1000 l.Fine = true := by simpa using h
       rw [s53 _ (by simp)]
       refine Yes.bind (Yes.some (Yes.some ?_))
       congr 1
       simp only [List.all_cons, List.all_nil, Bool.and_true]
       by_cases hc : btw 0 1000 l.Cap = true
       ·have : okList l := ⟨hr.1, he, hr.2, hf, hc⟩
        simp [this, hc]
       ·have : ¬ okList l := fun ho => hc ho.2.2.2.2
        simp [this]; simpa using hc
   ·subst hr
    refine Yes.cond (fun h => Yes.some ?_) fun h => Yes.some ?_
    ·have : ¬ okList l := by simpa using h
     unfold chkL; rw [if_neg hn, if_neg this]
    ·have : okList l := by simpa using h
     unfold chkL; rw [if_neg hn, if_pos this]
theorem s18 (l : PayList) (h1 : l.Rates.length ≤ 1000) (h2 : l.Extras.length ≤ 1000) : f18 l = some (chkL l) := by
 refine Yes.eq ?_
 unfold f18
 refine Yes.jn (Yes.bind (Yes.mono (Q' := fun r => r = decide (long6 l)) ?_ fun r hr => ?_))
 ·refine Yes.cond (fun h => Yes.some ?_) fun h => Yes.some ?_
  ·rw [eq_comm, decide_eq_true_eq]; simp at h; exact .inl (by omega)
  ·rw [decide_eq_decide]; simp at h; unfold long6; omega
 ·subst hr
  refine Yes.cond (fun h => Yes.some ?_) fun h => ?_
  ·simp only [decide_eq_true_eq] at h; unfold chkL; rw [if_pos h]
  have hn : ¬ long6 l := by simpa using h
  have bad : ¬ okList l → (2 : Int) = chkL l := fun ho => by unfold chkL; rw [if_neg hn, if_neg ho]
  refine Yes.jn ?_
  refine Yes.upto0 l.Rates.length (by omega) (fun i => ∀ j (h : j < l.Rates.length), j < i → okAt l.Rates j h) (fun _ _ h => absurd h (Nat.not_lt_zero _)) (fun i k hi hI hk => ?_) (fun k hI => ?_)
  ·refine Yes.jn (qtake (by simp; omega) (Yes.jn (Yes.bind (Yes.idx rfl hi ?_))))
   refine Yes.bind (Yes.mono (Q' := fun r => r = !decide (okAt l.Rates i hi)) ?_ fun r hr => ?_)
   ·rw [s25]
    refine Yes.bind (Yes.some (Yes.cond (fun h => Yes.some ?_) fun h => ?_))
    ·have : ¬ okAt l.Rates i hi := fun ho => by rw [ho.1] at h; cases h
     simp [this]
    have hf : btw 0 1000 l.Rates[i].From = true := by simpa using h
    rw [s25]
    refine Yes.bind (Yes.some (Yes.cond (fun h => Yes.some ?_) fun h => ?_))
    ·have : ¬ okAt l.Rates i hi := fun ho => by rw [ho.2.1] at h; cases h
     simp [this]
    have hr : btw 0 10000 l.Rates[i].Rate = true := by simpa using h
    have last : ((i = 0 → l.Rates[i].From = 0)) → Yes (bif decide ((i : Int) > (0 : Int)) then (idx l.Rates (w64 ((i : Int) - (1 : Int)))).bind fun y => some (decide (l.Rates[i].From ≤ y.From)) else some false) (fun r => r = !decide (okAt l.Rates i hi)) := fun hz => by
     refine Yes.cond (fun h => ?_) fun h => Yes.some ?_
     ·have h0 : 0 < i := by simpa using h
      rw [qw64 (by omega) (by omega)]
      refine Yes.bind (Yes.idx (n := i - 1) (by omega) (by omega) (Yes.some ?_))
      by_cases hc : l.Rates[i].From ≤ (l.Rates[i - 1]'(by omega)).From
      ·have : ¬ okAt l.Rates i hi := fun ho => by have := ho.2.2.2 h0; omega
       simp [this, hc]
      ·have : okAt l.Rates i hi := ⟨hf, hr, hz, fun _ => by omega⟩
       simp [this]; omega
     ·have h0 : i = 0 := by simp at h; omega
      have : okAt l.Rates i hi := ⟨hf, hr, hz, fun h2 => absurd h2 (by omega)⟩
      simp [this]
    refine Yes.cond (fun h => ?_) fun h => ?_
    ·have h0 : i = 0 := by simp at h; omega
     refine Yes.cond (fun h => Yes.some ?_) fun h => ?_
     ·have : ¬ okAt l.Rates i hi := fun ho => by have := ho.2.2.1 h0; simp [this] at h
      simp [this]
     ·exact last fun _ => by simpa using h
    ·have h0 : i ≠ 0 := by simp at h; omega
     exact last fun h => absurd h h0
   ·subst hr
    refine Yes.cond (fun h => Yes.some (bad ?_)) fun h => hk ?_
    ·have : ¬ okAt l.Rates i hi := by simpa using h
     exact fun ho => this (ho.1 i hi)
    ·have : okAt l.Rates i hi := by simpa using h
     intro j hj hji
     rcases Nat.lt_succ_iff_lt_or_eq.1 hji with h | rfl
     ·exact hI j hj h
     ·exact this
  ·refine Yes.jn (qskip (by simp) (Yes.jn ?_))
   have hr : okRates l.Rates := fun i hi => hI i hi hi
   refine Yes.upto0 l.Extras.length (by omega) (fun i => ∀ j (h : j < l.Extras.length), j < i → btw 0 1000 l.Extras[j] = true) (fun _ _ h => absurd h (Nat.not_lt_zero _)) (fun i k hi hI hk => ?_) (fun k hI => ?_)
   ·refine Yes.jn (qtake (by simp; omega) (Yes.jn (Yes.bind (Yes.idx rfl hi ?_))))
    rw [s25]
    refine Yes.bind (Yes.some (Yes.cond (fun h => Yes.some (bad fun ho => ?_)) fun h => hk ?_))
    ·rw [ho.2.1 _ (List.getElem_mem hi)] at h; cases h
    ·intro j hj hji
     rcases Nat.lt_succ_iff_lt_or_eq.1 hji with h2 | rfl
     ·exact hI j hj h2
     ·simpa using h
   ·have he : ∀ x ∈ l.Extras, btw 0 1000 x = true := fun x hx => by
     obtain ⟨j, hj, rfl⟩ := List.getElem_of_mem hx; exact hI j hj hj
    refine Yes.jn (qskip (by simp) (Yes.jn (Yes.bind (Yes.mono (Q' := fun r => r = !decide (okList l)) ?_ fun r hr2 => ?_))))
    ·refine Yes.cond (fun h => Yes.some ?_) fun h => ?_
     ·have : ¬ okList l := fun ho => (List.length_pos_iff.1 ho.2.2.1) (by simpa using h)
      simp [this]
     have h0 : 0 < l.Rates.length := List.length_pos_iff.2 (by simpa using h)
     rw [s25]
     refine Yes.bind (Yes.some (Yes.cond (fun h => Yes.some ?_) fun h => ?_))
     ·have : ¬ okList l := fun ho => by rw [ho.2.2.2.1] at h; cases h
      simp [this]
     have hf : btw 0 1000 l.Fine = true := by simpa using h
     rw [s25]
     refine Yes.bind (Yes.some (Yes.some ?_))
     congr 1
     by_cases hc : btw 0 1000 l.Cap = true
     ·have : okList l := ⟨hr, he, h0, hf, hc⟩
      simp [this, hc]
     ·have : ¬ okList l := fun ho => hc ho.2.2.2.2
      simp [this]; simpa using hc
    ·subst hr2
     refine Yes.cond (fun h => Yes.some (bad (by simpa using h))) fun h => Yes.some ?_
     have : okList l := by simpa using h
     unfold chkL; rw [if_neg hn, if_pos this]
end Go.Proofs.YtkmbkaoolacofaaGreat
