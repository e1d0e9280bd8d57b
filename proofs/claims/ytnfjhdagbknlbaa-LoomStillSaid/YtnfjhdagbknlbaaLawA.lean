/- Plain laws of the loom seat's functions: copies, comparisons, the error of a mill and orders. -/
import Derived.Test.YtnfjhdagbknlbaaYes
set_option maxRecDepth 8000
namespace Go.Proofs.Ytnfjhdagbknlbaa
open Go.RowKit

theorem cmp_loop {α : Type} [DecidableEq α] (x0 x1 : List α) (ne : α → α → Bool) (hne : ∀ a b, ne a b = !decide (a = b)) (hl : x0.length < 9223372036854775807) :
  Yes (jn (σ := Unit) (fun _ =>
   jn (σ := Unit) (fun _ => some true) fun k53 =>
   lp (σ := Int) (fun k54 s5 =>
    jn (σ := Unit) (fun _ =>
     jn (σ := Unit) (fun _ => k54 ((w64 (s5 + (1 : Int))))) fun k80 =>
     (idx x0 s5).bind fun y81 => (idx x1 s5).bind fun y84 =>
     bif ne y81 y84 then some false else k80 ()) fun k57 =>
    bif (decide (s5 < ((x0).length : Int))) then k57 () else k53 ()) big ((0 : Int))) fun k2 =>
  bif (((x0).length : Int) != ((x1).length : Int)) then some false else k2 ()) (fun r => r = decide (x0 = x1)) := by
 refine Yes.jn (Yes.cond (fun h => Yes.some ?_) (fun h => Yes.jn ?_))
 ·have h1 : x0.length ≠ x1.length := by simp at h; omega
  have : x0 ≠ x1 := fun e => h1 (by rw [e])
  simp [this]
 ·have h1 : x0.length = x1.length := by simp at h; omega
  refine Yes.upto0 x0.length hl (fun i => ∀ n (h1 : n < x0.length) (h2 : n < x1.length), n < i → x0[n] = x1[n]) (fun _ _ _ h => absurd h (Nat.not_lt_zero _)) (fun i k hi hI hk => ?_) (fun k hI => ?_)
  ·refine Yes.jn (Yes.cond (fun _ => Yes.jn (Yes.bind (Yes.idx rfl hi (Yes.bind (Yes.idx rfl (by omega) (Yes.cond (fun h => Yes.some ?_) (fun h => hk ?_))))))) (fun h => absurd h (by simp; omega)))
   ·rw [hne] at h
    have hn : x0[i] ≠ x1[i] := by simpa using h
    have : x0 ≠ x1 := fun e => hn (by simp only [e])
    simp [this]
   ·rw [hne] at h
    have he : x0[i] = x1[i] := by simpa using h
    intro n hn1 hn2 hni
    rcases Nat.lt_succ_iff_lt_or_eq.1 hni with h | rfl
    ·exact hI n hn1 hn2 h
    ·exact he
  ·refine Yes.jn (Yes.cond (fun h => absurd h (by simp)) (fun _ => Yes.some ?_))
   have : x0 = x1 := List.ext_getElem h1 fun n hn1 hn2 => hI n hn1 hn2 hn1
   simp [this]
theorem s28 (a b : List Int) (ha : a.length < 9223372036854775807) : f28 a b = some (decide (a = b)) := by
 unfold f28; exact Yes.eq (cmp_loop a b (fun x y => x != y) (fun x y => by by_cases h : x = y <;> simp [h]) ha)
theorem s19 (a b : List LoomOrder) (ha : a.length < 9223372036854775807) : f19 a b = some (decide (a = b)) := by
 unfold f19; exact Yes.eq (cmp_loop a b (fun x y => !decide (x = y)) (fun _ _ => rfl) ha)
theorem s22 (a b : List LoomRun) (ha : a.length < 9223372036854775807) : f22 a b = some (decide (a = b)) := by
 unfold f22; exact Yes.eq (cmp_loop a b (fun x y => !decide (x = y)) (fun _ _ => rfl) ha)
theorem s18 (a b : LoomMill) (ha : a.Widths.length < 9223372036854775807) : f18 a b = some (decide (a = b)) := by
 unfold f18
 rw [s28 _ _ ha]
 obtain ⟨a1, a2⟩ := a; obtain ⟨b1, b2⟩ := b
 by_cases h1 : a2 = b2
 ·by_cases h2 : a1 = b1 <;> simp [h1, h2]
 ·have : (a2 == b2) = false := by simpa using h1
  simp [this, h1]
theorem s15 (m : LoomMill) (h : m.Widths.length ≤ 1000000) : f15 m = some m := by
 refine Yes.eq ?_
 unfold f15
 exact Yes.bind (Yes.apnd (by simp; omega) (by simp; omega) (Yes.some (by simp)))
theorem s16 (l : List LoomOrder) (h : l.length ≤ 1000000) : f16 l = some l := by
 refine Yes.eq ?_
 unfold f16
 exact Yes.bind (Yes.apnd (by simp; omega) (by simp; omega) (Yes.some (by simp)))
theorem s32 (l : List LoomRun) (h : l.length ≤ 1000000) : f32 l = some l := by
 refine Yes.eq ?_
 unfold f32
 exact Yes.bind (Yes.apnd (by simp; omega) (by simp; omega) (Yes.some (by simp)))
theorem s12 (m : LoomMill) (l : List LoomOrder) (n : Int) : f12 m l n = some (decide (m.Widths.length > 10 ∨ (l.length : Int) > n ∧ l.length ≤ 7 ∨ l.length > 10)) := by
 unfold f12
 by_cases h1 : m.Widths.length > 10
 ·have e1 : decide ((m.Widths.length : Int) > 10) = true := by simp; omega
  simp [e1, h1]
 ·have e1 : decide ((m.Widths.length : Int) > 10) = false := by simp; omega
  have e3 : decide ((l.length : Int) ≤ 7) = decide (l.length ≤ 7) := by rw [decide_eq_decide]; omega
  have e4 : decide ((l.length : Int) > 10) = decide (l.length > 10) := by rw [decide_eq_decide]; omega
  rw [e1, e3, e4]
  by_cases h2 : (l.length : Int) > n <;> by_cases h3 : l.length ≤ 7 <;> by_cases h4 : l.length > 10 <;> simp [h1, h2, h3, h4]
def btw (a b x : Int) : Bool := decide (a ≤ x ∧ x ≤ b)
theorem s36 (x a b : Int) : f36 x a b = some (btw a b x) := by unfold f36 btw; by_cases h1 : x ≥ a <;> by_cases h2 : x ≤ b <;> simp [h1, h2] <;> omega
theorem s96 (x a b : Int) : f96 x a b = some (!btw a b x) := by unfold f96 btw; by_cases h1 : x < a <;> by_cases h2 : x > b <;> simp [h1, h2] <;> omega
theorem s95 (xs : List Int) (φ : Int → Option Bool) (p : Int → Bool) (hl : xs.length < 9223372036854775807) (h : ∀ a ∈ xs, φ a = some (p a)) : f95 xs φ = some (xs.any p) :=
 Yes.eq (Yes.bind (Yes.mono (index_is xs φ p hl h) fun _ hr => Yes.some (index_any hr)))
theorem s82 (xs : List LoomOrder) (φ : LoomOrder → Option Bool) (p : LoomOrder → Bool) (hl : xs.length < 9223372036854775807) (h : ∀ a ∈ xs, φ a = some (p a)) : f82 xs φ = some (xs.any p) :=
 Yes.eq (Yes.bind (Yes.mono (index_is xs φ p hl h) fun _ hr => Yes.some (index_any hr)))
theorem s72 (xs : List LoomRun) (φ : LoomRun → Option Bool) (p : LoomRun → Bool) (hl : xs.length < 9223372036854775807) (h : ∀ a ∈ xs, φ a = some (p a)) : f72 xs φ = some (xs.any p) :=
 Yes.eq (Yes.bind (Yes.mono (index_is xs φ p hl h) fun _ hr => Yes.some (index_any hr)))
theorem any_not {α : Type} (xs : List α) (p : α → Bool) : (!(xs.any fun x => !p x)) = xs.all p := by induction xs <;> simp_all
theorem s81 (a b : Int) (xs : List Int) (hl : xs.length < 9223372036854775807) : f81 a b xs = some (xs.all (btw a b)) := by
 unfold f81; rw [s95 xs _ (fun x => !btw a b x) hl (fun x _ => s96 x a b)]
 show some (!(xs.any fun x => !btw a b x)) = _
 rw [any_not]
theorem s71 (xs : List Int) (hl : xs.length < 9223372036854775807) : f71 xs = some (xs.all (btw 0 300)) := by unfold f71; rw [s81 _ _ _ hl]; rfl
def ordOk (x : LoomOrder) : Bool := btw 1 100 x.Width && btw 0 100 x.Chain && btw 1 100 x.Woven && btw 0 300 x.Early && btw 0 300 x.Late
theorem s80 (x : LoomOrder) : f80 x = some (ordOk x) := by
 unfold f80 ordOk
 rw [s81 _ _ _ (by simp), s81 _ _ _ (by simp), s81 _ _ _ (by simp), s71 _ (by simp)]
 simp only [List.all_cons, List.all_nil, Bool.and_true]
 cases btw 1 100 x.Width <;> cases btw 0 100 x.Chain <;> cases btw 1 100 x.Woven <;> cases btw 0 300 x.Early <;> cases btw 0 300 x.Late <;> rfl
theorem s79 (x : LoomOrder) : f79 x = some (!ordOk x) := by unfold f79; rw [s80]; rfl
def chkE (m : LoomMill) (l : List LoomOrder) : Int :=
 if m.Widths.length > 3 ∨ l.length > 7 then 5 else if m.Widths.length ≠ 0 ∧ m.Widths.all (btw 1 100) = true ∧ btw 0 20 m.Change = true ∧ l.all ordOk = true then 0 else 2
structure Good (m : LoomMill) (l : List LoomOrder) : Prop where
 w1 : 0 < m.Widths.length
 w3 : m.Widths.length ≤ 3
 l7 : l.length ≤ 7
 w : ∀ x ∈ m.Widths, 1 ≤ x ∧ x ≤ 100
 c : 0 ≤ m.Change ∧ m.Change ≤ 20
 o : ∀ x ∈ l, (1 ≤ x.Width ∧ x.Width ≤ 100) ∧ (0 ≤ x.Chain ∧ x.Chain ≤ 100) ∧ (1 ≤ x.Woven ∧ x.Woven ≤ 100) ∧ (0 ≤ x.Early ∧ x.Early ≤ 300) ∧ (0 ≤ x.Late ∧ x.Late ≤ 300)
theorem btw_iff {a b x : Int} : btw a b x = true ↔ a ≤ x ∧ x ≤ b := by simp [btw]
theorem good_of {m : LoomMill} {l : List LoomOrder} (h : chkE m l = 0) : Good m l := by
 unfold chkE at h
 split at h
 ·cases h
 ·rename_i h1
  split at h
  ·rename_i h2
   obtain ⟨a, b, c, d⟩ := h2
   refine ⟨by omega, by omega, by omega, fun x hx => btw_iff.1 (List.all_eq_true.1 b x hx), btw_iff.1 c, fun x hx => ?_⟩
   have := List.all_eq_true.1 d x hx
   simp only [ordOk, Bool.and_eq_true, btw_iff] at this
   obtain ⟨⟨⟨⟨a1, a2⟩, a3⟩, a4⟩, a5⟩ := this
   exact ⟨a1, a2, a3, a4, a5⟩
  ·cases h
def openR (m : LoomMill) (l : List LoomOrder) : LoomLoomMill × Int := if chkE m l = 0 then (⟨m, l⟩, 0) else (⟨⟨[], 0⟩, []⟩, chkE m l)
theorem s50 (m : LoomMill) (l : List LoomOrder) : f50 m l = some (openR m l) := by
 refine Yes.eq ?_
 unfold f50
 refine Yes.jn (Yes.bind ?_)
 have e1 : decide ((m.Widths.length : Int) > 3) = decide (m.Widths.length > 3) := by rw [decide_eq_decide]; omega
 have e2 : decide ((l.length : Int) > 7) = decide (l.length > 7) := by rw [decide_eq_decide]; omega
 rw [e1, e2]
 by_cases h1 : m.Widths.length > 3 ∨ l.length > 7
 ·have hc : chkE m l = 5 := by simp [chkE, h1]
  have : Yes (bif decide (m.Widths.length > 3) then some (decide (m.Widths.length > 3)) else some (decide (l.length > 7))) (fun r => r = true) := by
   refine Yes.cond (fun h => Yes.some h) (fun h => Yes.some ?_)
   simp at h ⊢; omega
  refine this.mono fun r hr => ?_
  subst hr
  exact Yes.some (by simp [openR, hc])
 ·have : Yes (bif decide (m.Widths.length > 3) then some (decide (m.Widths.length > 3)) else some (decide (l.length > 7))) (fun r => r = false) := by
   refine Yes.cond (fun h => Yes.some ?_) (fun h => Yes.some ?_)
   ·simp at h; omega
   ·simp; omega
  refine this.mono fun r hr => ?_
  subst hr
  refine Yes.bind ?_
  rw [s81 _ _ _ (by omega), s81 _ _ _ (by simp), s82 l _ (fun x => !ordOk x) (by omega) (fun x _ => s79 x)]
  by_cases h2 : m.Widths.length ≠ 0 ∧ m.Widths.all (btw 1 100) = true ∧ btw 0 20 m.Change = true ∧ l.all ordOk = true
  ·have hc : chkE m l = 0 := by rw [chkE, if_neg h1, if_pos h2]
   obtain ⟨a, b, c, d⟩ := h2
   have e3 : (((m.Widths).length : Int) == 0) = false := by rw [beq_eq_false_iff_ne]; omega
   have e4 : (l.any fun x => !ordOk x) = false := by rw [← any_not] at d; simpa using d
   rw [b, e3, e4]
   simp only [List.all_cons, List.all_nil, c, Bool.and_true]
   exact Yes.some (Yes.some (by simp [openR, hc]))
  ·have hc : chkE m l = 2 := by rw [chkE, if_neg h1, if_neg h2]
   have hgo : ∀ b : Bool, b = true → Yes (bif b then some ((⟨⟨[], 0⟩, []⟩ : LoomLoomMill), (2 : Int)) else some ((⟨m, l⟩ : LoomLoomMill), (0 : Int))) (fun r => r = openR m l) := fun b hb => by subst hb; exact Yes.some (by simp [openR, hc])
   by_cases h3 : m.Widths.length = 0
   ·have e3 : (((m.Widths).length : Int) == 0) = true := by simp [h3]
    rw [e3]
    exact Yes.some (Yes.some (by simp [openR, hc]))
   have e3 : (((m.Widths).length : Int) == 0) = false := by rw [beq_eq_false_iff_ne]; omega
   rw [e3]
   cases hb : m.Widths.all (btw 1 100) with
   | false => exact Yes.some (Yes.some (by simp [openR, hc]))
   | true =>
    cases hcc : btw 0 20 m.Change with
    | false => simp only [List.all_cons, List.all_nil, hcc, Bool.and_true]; exact Yes.some (Yes.some (by simp [openR, hc]))
    | true =>
     simp only [List.all_cons, List.all_nil, hcc, Bool.and_true]
     have hd : l.all ordOk = false := by
      cases hd : l.all ordOk with
      | false => rfl
      | true => exact absurd ⟨h3, hb, hcc, hd⟩ h2
     have e4 : (l.any fun x => !ordOk x) = true := by rw [← any_not] at hd; simpa using hd
     rw [e4]
     exact Yes.some (Yes.some (by simp [openR, hc]))
theorem all_loop {α β : Type} {Q : β → Prop} (xs : List α) (p : α → Bool) (hl : xs.length < 9223372036854775807) (bad : Option β) (body : (Int → Option β) → Int → Option β)
  (hb : ∀ k (i : Nat) (hi : i < xs.length), body k i = bif p xs[i] then k (w64 ((i : Int) + 1)) else bad) 
  (h1 : xs.all p = true → ∀ k, Yes (body k (xs.length : Int)) Q) (h2 : xs.all p = false → Yes bad Q) : Yes (lp body big (0 : Int)) Q := by
 refine Yes.upto0 xs.length hl (fun i => ∀ n (hn : n < xs.length), n < i → p xs[n] = true) (fun _ _ h => absurd h (Nat.not_lt_zero _)) (fun i k hi hI hk => ?_) (fun k hI => ?_)
 ·rw [hb k i hi]
  refine Yes.cond (fun h => hk ?_) (fun h => h2 ?_)
  ·intro n hn hni
   rcases Nat.lt_succ_iff_lt_or_eq.1 hni with h' | rfl
   ·exact hI n hn h'
   ·exact h
  ·rw [List.all_eq_false]; exact ⟨xs[i], List.getElem_mem hi, by rw [h]; simp⟩
 ·refine h1 (List.all_eq_true.2 fun x hx => ?_) k
  obtain ⟨n, hn, rfl⟩ := List.getElem_of_mem hx
  exact hI n hn hn
theorem idx_at {α : Type} {xs : List α} {i : Nat} (h : i < xs.length) : idx xs (i : Int) = some xs[i] := by unfold idx; rw [if_pos (Int.natCast_nonneg i)]; exact List.getElem?_eq_getElem h
theorem s20 (m : LoomMill) (l : List LoomOrder) : f20 m l = some (chkE m l) := by
 refine Yes.eq ?_
 unfold f20
 refine Yes.jn (Yes.bind ?_)
 have e1 : decide ((m.Widths.length : Int) > 3) = decide (m.Widths.length > 3) := by rw [decide_eq_decide]; omega
 have e2 : decide ((l.length : Int) > 7) = decide (l.length > 7) := by rw [decide_eq_decide]; omega
 rw [e1, e2]
 by_cases h1 : m.Widths.length > 3 ∨ l.length > 7
 ·have hc : chkE m l = 5 := by simp [chkE, h1]
  refine Yes.cond (fun h => Yes.some (Yes.some hc.symm)) (fun h => Yes.some (Yes.cond (fun _ => Yes.some hc.symm) (fun h' => ?_)))
  simp at h h'; omega
 ·refine Yes.cond (fun h => ?_) (fun h => Yes.some (Yes.cond (fun h' => ?_) (fun h' => ?_)))
  ·simp at h; omega
  ·simp at h'; omega
  have bad : ∀ {P : Prop}, (¬ (m.Widths.length ≠ 0 ∧ m.Widths.all (btw 1 100) = true ∧ btw 0 20 m.Change = true ∧ l.all ordOk = true)) → Yes (some (2 : Int)) (fun r => r = chkE m l) := fun h2 => Yes.some (by rw [chkE, if_neg h1, if_neg h2])
  refine Yes.jn (all_loop m.Widths (btw 1 100) (by omega) (some 2) _ (fun k i hi => ?_) (fun hw k => ?_) (fun hw => bad (P := True) (by simp [hw])))
  ·have : decide ((i : Int) < (m.Widths.length : Int)) = true := by simp; omega
   simp only [jn, this, cond_true, idx_at hi, Option.bind_some, s36]
   cases btw 1 100 m.Widths[i] <;> rfl
  have hz0 : decide (((m.Widths.length : Nat) : Int) < (m.Widths.length : Int)) = false := by simp
  refine Yes.jn (Yes.cond (fun h => by rw [hz0] at h; cases h) (fun _ => Yes.jn (Yes.bind ?_)))
  have hz : Yes (bif (((m.Widths).length : Int) == 0) then some true else (f36 m.Change 0 20).bind fun y => some (!y)) (fun r => r = !(decide (m.Widths.length ≠ 0) && btw 0 20 m.Change)) := by
   refine Yes.cond (fun h => Yes.some ?_) (fun h => ?_)
   ·have : m.Widths.length = 0 := by simp at h; simp [h]
    simp [this]
   ·have : m.Widths.length ≠ 0 := by intro h0; simp [h0] at h
    rw [s36]; exact Yes.some (by simp [this])
  refine hz.mono fun r hr => ?_
  subst hr
  cases hzc : (decide (m.Widths.length ≠ 0) && btw 0 20 m.Change) with
  | false => exact bad (P := True) (by rintro ⟨a, b, c, d⟩; simp [a, c] at hzc)
  | true =>
   simp only [Bool.and_eq_true, decide_eq_true_eq] at hzc
   refine Yes.cond (fun h => nomatch h) (fun _ => Yes.jn (all_loop l ordOk (by omega) (some 2) _ (fun k i hi => ?_) (fun ho k => ?_) (fun ho => bad (P := True) (by simp [ho]))))
   ·have : decide ((i : Int) < (l.length : Int)) = true := by simp; omega
    simp only [jn, this, cond_true, idx_at hi, Option.bind_some, s36, ordOk]
    cases btw 1 100 l[i].Width <;> cases btw 0 100 l[i].Chain <;> cases btw 1 100 l[i].Woven <;> cases btw 0 300 l[i].Early <;> cases btw 0 300 l[i].Late <;> rfl
   have hz1 : decide (((l.length : Nat) : Int) < (l.length : Int)) = false := by simp
   refine Yes.jn (Yes.cond (fun h => by rw [hz1] at h; cases h) (fun _ => ?_))
   exact Yes.some (by rw [chkE, if_neg h1, if_pos ⟨hzc.1, hw, hzc.2, ho⟩])
end Go.Proofs.Ytnfjhdagbknlbaa
