/- FaultDoes as a plain function: it returns true. -/
import Derived.Test.YtpiaipiehjcflaaLawP
set_option maxRecDepth 8000
namespace Go.Proofs.Ytpiaipiehjcflaa
open Go.RowKit

theorem s46 (a b : List Str) (ha : a.length < 9223372036854775807) : f46 a b = some (decide (a = b)) := by
  refine Yes.eq ?_
  unfold f46
  refine Yes.jn (Yes.cond (fun h => Yes.some (same_no h)) (fun h => ?_))
  have hl := same_len h
  refine Yes.jn (Yes.upto0 a.length ha (Same a b) (same_zero a b) (fun i k hi hI hk => ?_) (fun k hI => ?_))
  · exact Yes.jn (Yes.cond (fun _ => Yes.jn (same_step (ne := (fun x y : Str => !(x.b == y.b))) str_ne hl hi hI hk)) (fun h => absurd h (by simp; omega)))
  · exact Yes.jn (Yes.cond (fun h => absurd h (by simp)) (fun _ => Yes.some (same_end hl hI)))
def trn (k : Int) : Int := if k = 2 then 1 else if k = 5 then 2 else 0
theorem s80 (k : Int) : f80 k = some (trn k) := by
  unfold f80 trn jn
  by_cases h2 : k = 2
  · simp [h2]
  · by_cases h5 : k = 5
    · simp [h5]
    · have e2 : (k == (2 : Int)) = false := by simpa using h2
      have e5 : (k == (5 : Int)) = false := by simpa using h5
      simp only [e2, e5, cond_false, if_neg h2, if_neg h5]
theorem trn_range (k : Int) : 0 ≤ trn k ∧ trn k ≤ 2 := by unfold trn; split <;> (try split) <;> omega
theorem s79 (a b : FaultDamage) : f79 a b = some (trn a.Kind - trn b.Kind) := by
  unfold f79
  rw [s80, s80]
  have := trn_range a.Kind; have := trn_range b.Kind
  simp only [Option.bind_some]
  rw [w64_id (by omega) (by omega)]
theorem s78_two (d : FaultDamage) : f78 [d, d] (fun a0 a1 => f79 a0 a1) = some [d, d] := by
  have h107 : f107 [d, d] 0 2 (fun a0 a1 => f79 a0 a1) = some [d, d] := by
    refine Yes.eq ?_
    unfold f107
    rw [w64_id (n := 0 + 1) (by decide) (by decide)]
    refine Yes.lp (fun s => s.1 = [d, d] ∧ (s.2 = 1 ∨ s.2 = 2)) (fun s => (2 - s.2).toNat) ⟨rfl, .inl rfl⟩ (by simp) ?_
    rintro ⟨xs, j⟩ k ⟨h1, h2⟩ hk
    simp only at h1 h2 hk
    subst h1
    rcases h2 with rfl | rfl
    · refine Yes.jn (Yes.cond (fun _ => Yes.bind ?_) (fun h => nomatch h))
      refine Yes.lp (fun s => s.1 = [d, d] ∧ s.2 = 1) (fun s => 0) ⟨rfl, rfl⟩ (by decide) ?_
      rintro ⟨xs, j⟩ k2 ⟨h1, h2⟩ hk2
      simp only at h1 h2
      subst h1; subst h2
      refine Yes.jn (Yes.bind (Yes.cond (fun _ => Yes.bind (Yes.idx (n := 1) rfl (by simp) (Yes.bind ?_))) (fun h => nomatch h)))
      rw [w64_id (n := 1 - 1) (by decide) (by decide)]
      refine Yes.idx (n := 0) rfl (by simp) (Yes.bind (Yes.of (s79 _ _) (Yes.some ?_)))
      refine Yes.cond (fun h => absurd h (by simp)) (fun _ => Yes.some ?_)
      rw [w64_id (by decide) (by decide)]
      exact hk _ ⟨rfl, .inr rfl⟩ (by simp)
    · exact Yes.jn (Yes.cond (fun h => nomatch h) (fun _ => Yes.some rfl))
  have h96 := s96_few [d, d] 2 (by decide) _ [d, d] h107
  unfold f78
  show (f96 [d, d] 2 _).bind _ = _
  rw [h96]; rfl
theorem s45_two {l : FaultLoom} (g : Good l) {d : FaultDamage} (hd : dmg l d = true) {k : Int} (h1 : 1 ≤ k) (h2 : k ≤ 120) : f45 l k [d, d] = some (cthN l [d, d] k.toNat, true) :=
  have hx : ∀ x ∈ [d, d], dmg l x = true := fun x hx => by simp at hx; rw [hx]; exact hd
  s45 (s78_two d) (by simp) (by simp) hx (open_ok (chk_ok (loom_ok g) (by simp) hx) h1 h2) g ⟨h1, h2⟩
/-- What is lifted with one damage. -/
theorem rc_nil (l : FaultLoom) (p w : Nat) : rc l [] p w = tab l p (hk l w) := by simp [rc, after]
theorem rc_one (l : FaultLoom) (d : FaultDamage) (p w : Nat) : rc l [d] p w = (actT l d (tab l) p (hk l w) && !actB d (fun _ => false) w) := by simp [rc, after]
theorem rc_two (l : FaultLoom) (d : FaultDamage) (p w : Nat) : rc l [d, d] p w = (actT l d (actT l d (tab l)) p (hk l w) && !actB d (actB d fun _ => false) w) := by simp [rc, after]
theorem cthN_congr {l : FaultLoom} {a b : List FaultDamage} {k : Nat} (h : ∀ p w, p < l.Design.Rows.length → w < l.Harness.Warps.length → rc l a p w = rc l b p w) (hn : 0 < l.Design.Rows.length) : cthN l a k = cthN l b k := by
  unfold cthN
  exact clothOf_congr fun p w _ hw => h _ w (Nat.mod_lt _ hn) hw
theorem actT_1 {l : FaultLoom} {d : FaultDamage} (k : d.Kind = 1) (t : Nat → Nat → Bool) : actT l d t = act1 d.Pick.toNat d.Hook.toNat t := by unfold actT; rw [k]; rfl
theorem actT_2 {l : FaultLoom} {d : FaultDamage} (k : d.Kind = 2) (t : Nat → Nat → Bool) : actT l d t = act2 d.Hook.toNat d.Up t := by unfold actT; rw [k]; rfl
theorem actT_3 {l : FaultLoom} {d : FaultDamage} (k : d.Kind = 3) (t : Nat → Nat → Bool) : actT l d t = act3 l.Design.Hooks.toNat d.Pick.toNat t := by unfold actT; rw [k]; rfl
theorem actT_4 {l : FaultLoom} {d : FaultDamage} (k : d.Kind = 4) (t : Nat → Nat → Bool) : actT l d t = act4 d.Pick.toNat ((d.Pick.toNat + 1) % l.Design.Rows.length) t := by unfold actT; rw [k]; rfl
theorem actT_5 {l : FaultLoom} {d : FaultDamage} (k : d.Kind = 5) (t : Nat → Nat → Bool) : actT l d t = t := by unfold actT; rw [k]; rfl
theorem actB_5 {d : FaultDamage} (k : d.Kind = 5) (B : Nat → Bool) : actB d B = fun w => decide (w = d.Warp.toNat) || B w := by unfold actB; rw [if_pos k]
theorem actB_no {d : FaultDamage} (k : d.Kind ≠ 5) (B : Nat → Bool) : actB d B = B := by unfold actB; rw [if_neg k]
theorem twice_same {l : FaultLoom} (g : Good l) {d : FaultDamage} {k : Nat} (hk2 : d.Kind = 2 ∨ d.Kind = 5) : cthN l [d, d] k = cthN l [d] k := by
  refine cthN_congr (fun p w hp hw => ?_) g.r0
  rw [rc_two, rc_one]
  rcases hk2 with k2 | k5
  · rw [actT_2 k2, actT_2 k2, actB_no (by rw [k2]; decide), actB_no (by rw [k2]; decide)]
    simp only [act2]
    by_cases e : hk l w = d.Hook.toNat <;> simp [e]
  · rw [actT_5 k5, actT_5 k5, actB_5 k5, actB_5 k5]
    simp
theorem twice_back {l : FaultLoom} (g : Good l) {d : FaultDamage} (hd : dmg l d = true) {k : Nat} (hk2 : ¬ (d.Kind = 2 ∨ d.Kind = 5)) : cthN l [d, d] k = cthN l [] k := by
  refine cthN_congr (fun p w hp hw => ?_) g.r0
  rw [rc_two, rc_nil]
  have hkw := (hk_at g hw).2
  rw [actB_no (fun h => hk2 (.inr h)), actB_no (fun h => hk2 (.inr h))]
  generalize tab l = t
  generalize hk l w = h at *
  simp only [Bool.not_false, Bool.and_true]
  rcases dmg_is hd with ⟨k1, _⟩ | ⟨k1, _⟩ | ⟨k1 | k1, hp'⟩ | ⟨k1, _⟩
  · rw [actT_1 k1, actT_1 k1]
    unfold act1
    by_cases e : p = d.Pick.toNat ∧ h = d.Hook.toNat
    · simp only [if_pos e, Bool.not_not]
    · simp only [if_neg e]
  · exact absurd (.inl k1) hk2
  · rw [actT_3 k1, actT_3 k1]
    unfold act3
    by_cases e : p = d.Pick.toNat
    · simp only [if_pos e]
      rw [show l.Design.Hooks.toNat - 1 - (l.Design.Hooks.toNat - 1 - h) = h by omega, e]; simp
    · simp only [if_neg e]
  · rw [actT_4 k1, actT_4 k1]
    unfold act4
    generalize (d.Pick.toNat + 1) % l.Design.Rows.length = q
    by_cases e1 : p = q
    · subst e1
      by_cases e2 : d.Pick.toNat = p
      · simp [e2]
      · simp [e2]
    · by_cases e2 : p = d.Pick.toNat
      · subst e2; simp [e1]
      · simp [e1, e2]
  · exact absurd (.inr k1) hk2
theorem cthN_at {l : FaultLoom} {ds : List FaultDamage} {k p : Nat} (h : p < (cthN l ds k).length) (hk2 : k ≤ l.Design.Rows.length) : (cthN l ds k)[p] = line l.Harness.Warps.length (rc l ds p) := by
  have h1 := cloth_at (n := k) (m := l.Harness.Warps.length) (c := fun p w => rc l ds (p % l.Design.Rows.length) w) h
  have hlt : p < k := by unfold cthN at h; rwa [cloth_len] at h
  simp only [Nat.mod_eq_of_lt (show p < l.Design.Rows.length by omega)] at h1
  exact h1
theorem cthN_len (l : FaultLoom) (ds : List FaultDamage) (k : Nat) : (cthN l ds k).length = k := by unfold cthN; rw [cloth_len]
/-- A point of such a cloth. -/
theorem at_cth {l : FaultLoom} {ds : List FaultDamage} {k p w : Nat} (hp : p < k) (hk2 : k ≤ l.Design.Rows.length) (hw : w < l.Harness.Warps.length) {α : Type} {K : UInt8 → Option α} {Q : α → Prop} (h : Yes (K (mark (rc l ds p w))) Q) :
    Yes ((idx (cthN l ds k) (p : Int)).bind fun y => (idx y.b (w : Int)).bind K) Q := by
  refine Yes.bind (Yes.idx rfl (by rw [cthN_len]; exact hp) ?_)
  rw [cthN_at _ hk2]
  refine Yes.bind (Yes.idx rfl (by rw [line_len]; exact hw) ?_)
  rw [line_at]; exact h
theorem s10 (x : Mill) : f10 x = some true := by
  refine Yes.eq ?_
  unfold f10
  obtain ⟨l, hl, g, hH, hW, hR⟩ := s42 x
  refine Yes.bind (Yes.of hl (Yes.bind ((s43 g x (by decide) (by decide)).mono fun ds hds => ?_)))
  obtain ⟨⟨hd1, hd2⟩, hall⟩ := hds
  refine Yes.bind (Yes.idx (n := 0) rfl (by omega) (Yes.bind (Yes.of hl ?_)))
  have hd := hall ds[0] (List.getElem_mem (by omega))
  generalize ds[0] = d at *
  have hr0 := g.r0
  have hw0 := g.w0
  generalize hn : l.Design.Rows.length = n at *
  have k1 : 1 ≤ (n : Int) := by omega
  have k2 : (n : Int) ≤ 120 := by omega
  have a1 := s45_one g hd k1 k2
  have a2 := s45_nil g k1 k2
  have a3 := s45_two g hd k1 k2
  rw [Int.toNat_natCast] at a1 a2 a3
  refine Yes.bind (Yes.of a1 (Yes.bind (Yes.of a2 (Yes.bind (Yes.of a3 ?_)))))
  refine Yes.jn (Yes.bind (Yes.mono (Q' := fun b => b = false) ?_ fun b hb => ?_))
  · exact Yes.cond (fun h => nomatch h) (fun _ => Yes.cond (fun h => nomatch h) (fun _ => Yes.some rfl))
  subst hb
  refine Yes.cond (fun h => nomatch h) (fun _ => ?_)
  have hnl : n ≤ l.Design.Rows.length := by omega
  -- what the damage says of itself
  have hPr : 0 ≤ d.Pick ∧ d.Pick < n := by
    have h1 := g.h1
    unfold dmg btw at hd
    rw [hn] at hd
    split at hd
    · simp at hd; omega
    split at hd
    · simp at hd; omega
    split at hd
    · simp at hd; omega
    split at hd
    · simp at hd; omega
    · cases hd
  obtain ⟨P, hP⟩ : ∃ P : Nat, d.Pick = (P : Int) := ⟨d.Pick.toNat, by omega⟩
  have hPn : P < n := by omega
  have hrem : rem64 (w64 (d.Pick + 1)) (n : Int) = some (((P + 1) % n : Nat) : Int) := by
    rw [hP, w64_id (by omega) (by omega), show ((P : Int) + 1) = ((P + 1 : Nat) : Int) by omega]
    exact rem_nat hr0
  have hQn : (P + 1) % n < n := Nat.mod_lt _ hr0
  refine Yes.bind (Yes.of hrem (Yes.jn ?_))
  -- the end
  have hend : Yes (Option.bind (α := Bool) (bif (d.Kind == (2 : Int)) then some true else some (d.Kind == (5 : Int))) fun s232 => bif s232 then Option.bind (α := Bool) ((f46 (cthN l [d, d] n) (cthN l [d] n)).bind fun y => bif y then f15.bind fun z => some z else some false) fun s2 => some s2 else Option.bind (α := Bool) ((f46 (cthN l [d, d] n) (cthN l [] n)).bind fun y => bif y then f15.bind fun z => some z else some false) fun s2 => some s2) (fun r => r = true) := by
    have hlen : (cthN l [d, d] n).length < 9223372036854775807 := by rw [cthN_len]; omega
    refine Yes.bind (Yes.mono (Q' := fun b => b = decide (d.Kind = 2 ∨ d.Kind = 5)) ?_ fun b hb => ?_)
    · refine Yes.cond (fun h => Yes.some ?_) (fun h => Yes.some ?_)
      · have h : d.Kind = 2 := by simpa using h
        simp [h]
      · have h : d.Kind ≠ 2 := by simpa using h
        rw [Bool.eq_iff_iff]; simp [h]
    subst hb
    refine Yes.cond (fun h => ?_) (fun h => ?_)
    · have h := of_decide_eq_true h
      exact Yes.bind (Yes.bind (Yes.of (s46 _ _ hlen) (Yes.cond (fun _ => Yes.bind (Yes.of known_ok (Yes.some (Yes.some rfl)))) (fun hh => absurd (twice_same g h) (by simpa using hh)))))
    · have h := of_decide_eq_false h
      exact Yes.bind (Yes.bind (Yes.of (s46 _ _ hlen) (Yes.cond (fun _ => Yes.bind (Yes.of known_ok (Yes.some (Yes.some rfl)))) (fun hh => absurd (twice_back g hd h) (by simpa using hh)))))
  refine Yes.upto0 n (by omega) (fun _ => True) trivial (fun p k hp _ hk1 => ?_) (fun k _ => Yes.jn (Yes.cond (fun h => absurd h (by simp)) (fun _ => Yes.jn hend)))
  refine Yes.jn (Yes.cond (fun _ => Yes.jn ?_) (fun h => absurd h (by simp; omega)))
  refine Yes.upto0 l.Harness.Warps.length (by omega) (fun _ => True) trivial (fun w k2 hw _ hk2 => ?_) (fun k2 _ => ?_)
  rotate_left
  · refine Yes.jn (Yes.bind (Yes.idx rfl (by rw [cthN_len]; exact hp) ?_))
    rw [cthN_at _ hnl, line_len]
    exact Yes.cond (fun h => absurd h (by simp)) (fun _ => hk1 trivial)
  refine Yes.jn (Yes.bind (Yes.idx rfl (by rw [cthN_len]; exact hp) ?_))
  rw [cthN_at _ hnl, line_len]
  refine Yes.cond (fun _ => Yes.jn ?_) (fun h => absurd h (by simp; omega))
  refine at_cth hp hnl hw (at_cth hp hnl hw ?_)
  rw [mark_ne]
  have go := hk2 trivial
  -- what the damage does at this point
  have hB := rc_nil l p w
  have hA := rc_one l d p w
  obtain ⟨heW, hWlt⟩ := hk_at g hw
  rcases dmg_is hd with ⟨kk, hpp, hhh⟩ | ⟨kk, hhh⟩ | ⟨kk | kk, hpp⟩ | ⟨kk, hww⟩
  · -- a card is changed
    rw [actT_1 kk, actB_no (by rw [kk]; decide)] at hA
    rw [kk]
    refine Yes.cond (fun h => nomatch h) (fun _ => Yes.cond (fun h => nomatch h) (fun _ => Yes.cond (fun _ => ?_) (fun h => nomatch h)))
    have hAB : (rc l [d] p w != rc l [] p w) = decide (p = P ∧ (hk l w : Int) = d.Hook) := by
      rw [hA, hB]
      unfold act1
      have e1 : d.Pick.toNat = P := by omega
      have e2 : hk l w = d.Hook.toNat ↔ (hk l w : Int) = d.Hook := by omega
      rw [e1]
      by_cases e : p = P ∧ hk l w = d.Hook.toNat
      · have : p = P ∧ (hk l w : Int) = d.Hook := ⟨e.1, e2.1 e.2⟩
        rw [if_pos e, decide_eq_true this]; cases tab l p (hk l w) <;> rfl
      · have : ¬ (p = P ∧ (hk l w : Int) = d.Hook) := fun h => e ⟨h.1, e2.2 h.2⟩
        rw [if_neg e, decide_eq_false this]; cases tab l p (hk l w) <;> rfl
    rw [hAB]
    refine Yes.bind (Yes.cond (fun hc => Yes.bind (Yes.idx rfl hw (Yes.some ?_))) (fun hc => Yes.some ?_))
    · have hc : p = P := by simp [hP] at hc; omega
      rw [heW]
      have : (decide (p = P ∧ (hk l w : Int) = d.Hook) == ((hk l w : Int) == d.Hook)) = true := by
        by_cases e : (hk l w : Int) = d.Hook <;> simp [hc, e]
      rw [this]
      exact Yes.cond (fun h => nomatch h) (fun _ => go)
    · have hc : ¬ p = P := by simp [hP] at hc; omega
      have : (decide (p = P ∧ (hk l w : Int) = d.Hook) == false) = true := by simp [hc]
      rw [this]
      exact Yes.cond (fun h => nomatch h) (fun _ => go)
  · -- a needle
    rw [actT_2 kk, actB_no (by rw [kk]; decide)] at hA
    rw [kk]
    refine Yes.cond (fun h => nomatch h) (fun _ => Yes.cond (fun _ => Yes.bind (Yes.idx rfl hw ?_)) (fun h => nomatch h))
    rw [heW]
    unfold act2 at hA
    have e2 : hk l w = d.Hook.toNat ↔ (hk l w : Int) = d.Hook := by omega
    refine Yes.bind (Yes.cond (fun hc => ?_) (fun hc => ?_))
    · have hc : (hk l w : Int) = d.Hook := by simpa using hc
      rw [if_pos (e2.2 hc)] at hA
      refine at_cth hp hnl hw ?_
      rw [mark_x, hA]
      have e3 : ((hk l w : Int) == d.Hook) = true := by simpa using hc
      rw [e3]
      refine Yes.cond (fun h => absurd h (by simp)) (fun _ => Yes.cond (fun h => nomatch h) (fun _ => Yes.some (Yes.cond (fun h => nomatch h) (fun _ => go))))
    · have hc' : ¬ (hk l w : Int) = d.Hook := by simpa using hc
      rw [if_neg (fun h => hc' (e2.1 h))] at hA
      rw [hc]
      refine Yes.cond (fun _ => Yes.some ?_) (fun h => nomatch h)
      rw [hA, hB]
      exact Yes.cond (fun h => absurd h (by simp)) (fun _ => go)
  · -- a card is turned
    rw [actT_3 kk, actB_no (by rw [kk]; decide)] at hA
    rw [kk]
    refine Yes.cond (fun h => nomatch h) (fun _ => Yes.cond (fun h => nomatch h) (fun _ => Yes.cond (fun h => nomatch h) (fun _ => Yes.cond (fun _ => ?_) (fun h => nomatch h))))
    unfold act3 at hA
    by_cases e : p = P
    · refine Yes.bind (Yes.cond (fun _ => Yes.some ?_) (fun _ => Yes.some (Yes.cond (fun h => nomatch h) (fun _ => go))))
      exact Yes.cond (fun h => absurd h (by simp [hP, e])) (fun _ => go)
    · rw [if_neg (by omega)] at hA
      rw [hA, hB]
      exact Yes.bind (Yes.cond (fun h => absurd h (by simp)) (fun _ => Yes.some (Yes.cond (fun h => nomatch h) (fun _ => go))))
  · -- two cards are exchanged
    rw [actT_4 kk, actB_no (by rw [kk]; decide)] at hA
    rw [kk]
    refine Yes.cond (fun h => nomatch h) (fun _ => Yes.cond (fun h => nomatch h) (fun _ => Yes.cond (fun h => nomatch h) (fun _ => Yes.cond (fun h => nomatch h) (fun _ => ?_))))
    have e1 : d.Pick.toNat = P := by omega
    have hrow : ∀ p' w', rc l [d] p' w' = act4 P ((P + 1) % n) (tab l) p' (hk l w') := fun p' w' => by
      rw [rc_one, actT_4 kk, actB_no (by rw [kk]; decide), e1, hn]; simp
    have hPrw : line l.Harness.Warps.length (rc l [d] P) = line l.Harness.Warps.length (rc l [] ((P + 1) % n)) := by
      rw [line_eq]
      intro w' _
      rw [hrow, rc_nil]
      unfold act4
      by_cases e : P = (P + 1) % n
      · simp [← e]
      · simp [e]
    have hQrw : line l.Harness.Warps.length (rc l [d] ((P + 1) % n)) = line l.Harness.Warps.length (rc l [] P) := by
      rw [line_eq]
      intro w' _
      rw [hrow, rc_nil]
      unfold act4
      simp
    have hoth : p ≠ P → p ≠ (P + 1) % n → rc l [d] p w = rc l [] p w := fun h1 h2 => by
      rw [hrow, rc_nil]
      unfold act4
      rw [if_neg h2, if_neg h1]
    have tl : ∀ {K : Bool → Option Bool} {Q : Bool → Prop}, Yes (K false) Q → Yes (Option.bind (α := Bool) (bif ((p : Int) != d.Pick) then bif ((p : Int) != (((P + 1) % n : Nat) : Int)) then some (rc l [d] p w != rc l [] p w) else some false else some false) K) Q := fun {K Q} hK => by
      refine Yes.bind (Yes.cond (fun h1 => Yes.cond (fun h2 => Yes.some ?_) (fun _ => Yes.some hK)) (fun _ => Yes.some hK))
      have h1 : p ≠ P := by simp [hP] at h1; omega
      have h2 : p ≠ (P + 1) % n := fun e => by rw [← e] at h2; simp at h2
      rw [hoth h1 h2]
      simpa using hK
    have done : Yes ((fun s163 => bif s163 then some false else k2 (w64 ((w : Int) + 1))) false) (fun r => r = true) := go
    by_cases ep : p = P
    · have ep2 : ((p : Int) == d.Pick) = true := by simp [hP, ep]
      have ep3 : ((p : Int) != d.Pick) = false := by simp [hP, ep]
      rw [ep2, ep3]
      refine Yes.bind (Yes.cond (fun _ => Yes.bind (Yes.idx rfl (by rw [cthN_len]; exact hp) (Yes.bind (Yes.idx rfl (by rw [cthN_len]; exact hQn) ?_)))) (fun h => nomatch h))
      rw [cthN_at _ hnl, cthN_at _ hnl, ep, hPrw]
      refine Yes.cond (fun h => absurd h (by simp)) (fun _ => Yes.cond (fun hq => Yes.bind (Yes.idx rfl (by rw [cthN_len]; exact hPn) (Yes.bind (Yes.idx (n := P) hP (by rw [cthN_len]; exact hPn) ?_)))) (fun _ => Yes.cond (fun h => nomatch h) (fun _ => Yes.some done)))
      rw [cthN_at _ hnl, cthN_at _ hnl]
      have hq : P = (P + 1) % n := Int.ofNat_inj.1 (beq_iff_eq.1 hq)
      have : line l.Harness.Warps.length (rc l [d] P) = line l.Harness.Warps.length (rc l [] P) := by rw [hPrw, ← hq]
      rw [this]
      exact Yes.cond (fun h => absurd h (by simp)) (fun _ => Yes.cond (fun h => nomatch h) (fun _ => Yes.some done))
    · have ep2 : ((p : Int) == d.Pick) = false := by simp [hP]; omega
      have ep3 : ((p : Int) != d.Pick) = true := by simp [hP]; omega
      rw [ep2, ep3]
      refine Yes.bind (Yes.cond (fun h => nomatch h) (fun _ => Yes.cond (fun hq => ?_) (fun hq => Yes.cond (fun _ => Yes.cond (fun h2 => Yes.some ?_) (fun _ => Yes.some done)) (fun h => nomatch h))))
      · have hq : p = (P + 1) % n := Int.ofNat_inj.1 (beq_iff_eq.1 hq)
        refine Yes.bind (Yes.idx rfl (by rw [cthN_len]; exact hp) (Yes.bind (Yes.idx (n := P) hP (by rw [cthN_len]; exact hPn) ?_)))
        rw [cthN_at _ hnl, cthN_at _ hnl, hq, hQrw]
        refine Yes.cond (fun h => absurd h (by simp)) (fun _ => Yes.cond (fun _ => Yes.cond (fun h => absurd h (by simp)) (fun _ => Yes.some done)) (fun h => nomatch h))
      · have h2 : p ≠ (P + 1) % n := fun e => by rw [← e] at h2; simp at h2
        rw [hoth ep h2]
        simpa using done
  · -- a warp is broken
    rw [actT_5 kk, actB_5 kk] at hA
    rw [kk]
    refine Yes.cond (fun _ => Yes.bind ?_) (fun h => nomatch h)
    have e2 : w = d.Warp.toNat ↔ (w : Int) = d.Warp := by omega
    refine Yes.cond (fun hc => at_cth hp hnl hw ?_) (fun hc => ?_)
    · have hc : (w : Int) = d.Warp := by simpa using hc
      rw [(mark_two _).2, hA]
      have e3 : ((w : Int) != d.Warp) = false := by simpa using hc
      rw [e3]
      refine Yes.cond (fun h => absurd h (by simp [e2.2 hc])) (fun _ => Yes.cond (fun h => nomatch h) (fun _ => Yes.some (Yes.cond (fun h => nomatch h) (fun _ => go))))
    · have hc' : ¬ (w : Int) = d.Warp := by simpa using hc
      refine Yes.cond (fun _ => Yes.some ?_) (fun _ => Yes.some (Yes.cond (fun h => nomatch h) (fun _ => go)))
      rw [hA, hB]
      have : ¬ w = d.Warp.toNat := fun h => hc' (e2.1 h)
      exact Yes.cond (fun h => absurd h (by simp [this])) (fun _ => go)
end Go.Proofs.Ytpiaipiehjcflaa
