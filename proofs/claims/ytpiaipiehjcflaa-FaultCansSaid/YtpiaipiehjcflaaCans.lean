/- FaultCans as a plain function: it returns true. -/
import Derived.Test.YtpiaipiehjcflaaAlls
set_option maxRecDepth 8000
namespace Go.Proofs.Ytpiaipiehjcflaa
open Go.RowKit

def okS (l : FaultLoom) (s : FaultSight) : Bool := btw 0 119 s.Pick && btw 0 ((l.Harness.Warps.length : Int) - 1) s.Warp
def seenE (l : FaultLoom) (ss : List FaultSight) : Int := if loomE l ≠ 0 then loomE l else if ss.length > 60 then 5 else if ss.all (okS l) then 0 else 2
/-- Is a cloth as it was seen? -/
def fitB (n : Nat) (c : Nat → Nat → Bool) (ss : List FaultSight) : Bool := ss.all fun s => c (s.Pick.toNat % n) s.Warp.toNat == s.Lifted
theorem s63 (xs : List FaultSight) (φ : FaultSight → Option Bool) (p : FaultSight → Bool) (hl : xs.length < 9223372036854775807) (h : ∀ a ∈ xs, φ a = some (p a)) : f63 xs φ = some (xs.any p) :=
  Yes.eq (Yes.bind (Yes.mono (index_is xs φ p hl h) fun _ hr => Yes.some (index_any hr)))
theorem any_not' {α : Type} (xs : List α) (p : α → Bool) : (!(xs.any fun x => !p x)) = xs.all p := by induction xs <;> simp_all
theorem okS_is {l : FaultLoom} {s : FaultSight} (h : okS l s = true) : 0 ≤ s.Pick ∧ s.Pick ≤ 119 ∧ 0 ≤ s.Warp ∧ s.Warp < l.Harness.Warps.length := by
  unfold okS btw at h; simp at h; omega
theorem at_seen {n m : Nat} {c : Nat → Nat → Bool} (hn : 0 < n) {s : FaultSight} {α : Type} {Q : α → Prop} {K : UInt8 → Option α} (h1 : 0 ≤ s.Pick) (h2 : 0 ≤ s.Warp ∧ s.Warp < m) (hk : Yes (K (mark (c (s.Pick.toNat % n) s.Warp.toNat))) Q) :
    Yes ((rem64 s.Pick ((clothOf n m c).length : Int)).bind fun y => (idx (clothOf n m c) y).bind fun z => (idx z.b s.Warp).bind K) Q := by
  have e1 : rem64 s.Pick ((clothOf n m c).length : Int) = some ((s.Pick.toNat % n : Nat) : Int) := by
    rw [cloth_len, show s.Pick = ((s.Pick.toNat : Nat) : Int) by omega]
    exact rem_nat hn
  have hlt : s.Pick.toNat % n < n := Nat.mod_lt _ hn
  refine Yes.bind (Yes.of e1 (Yes.bind (Yes.idx rfl (by rw [cloth_len]; exact hlt) ?_)))
  rw [cloth_at]
  refine Yes.bind (Yes.idx (n := s.Warp.toNat) (by omega) (by rw [line_len]; omega) ?_)
  rw [line_at]
  exact hk
theorem s91 {n m : Nat} {c : Nat → Nat → Bool} (hn : 0 < n) {s : FaultSight} (h1 : 0 ≤ s.Pick) (h2 : 0 ≤ s.Warp ∧ s.Warp < m) : f91 s (clothOf n m c) = some (!(c (s.Pick.toNat % n) s.Warp.toNat == s.Lifted)) := by
  refine Yes.eq ?_
  unfold f91
  refine at_seen hn h1 h2 (Yes.some ?_)
  rw [mark_x]
theorem s65 {l : FaultLoom} (g : Good l) (c : Nat → Nat → Bool) {ss : List FaultSight} (hl : ss.length < 1000) (hall : ∀ s ∈ ss, okS l s = true) :
    f65 (clothOf l.Design.Rows.length l.Harness.Warps.length c) ss = some (fitB l.Design.Rows.length c ss) := by
  refine Yes.eq ?_
  unfold f65
  refine Yes.bind (Yes.of (s63 ss _ (fun s => !(c (s.Pick.toNat % l.Design.Rows.length) s.Warp.toNat == s.Lifted)) (by omega) fun s hs => ?_) (Yes.some ?_))
  · have := okS_is (hall s hs)
    exact s91 g.r0 (by omega) (by omega)
  · rw [any_not']; rfl
theorem s35 {l : FaultLoom} (g : Good l) (c : Nat → Nat → Bool) {ss : List FaultSight} (hl : ss.length < 1000) (hall : ∀ s ∈ ss, okS l s = true) :
    f35 (clothOf l.Design.Rows.length l.Harness.Warps.length c) ss = some (fitB l.Design.Rows.length c ss) := by
  refine Yes.eq ?_
  unfold f35
  refine Yes.jn ?_
  refine Yes.upto0 ss.length (by omega) (fun i => ∀ j (hj : j < ss.length), j < i → (c (ss[j].Pick.toNat % l.Design.Rows.length) ss[j].Warp.toNat == ss[j].Lifted) = true) (fun _ _ h => absurd h (Nat.not_lt_zero _)) (fun i k hi hI hk => ?_) (fun k hI => ?_)
  · refine Yes.jn (Yes.cond (fun _ => Yes.jn (Yes.bind (Yes.idx rfl hi ?_))) (fun h => absurd h (by simp; omega)))
    have hs := okS_is (hall _ (List.getElem_mem hi))
    refine at_seen g.r0 (by omega) (by omega) (Yes.cond (fun hc => Yes.some ?_) (fun hc => hk ?_))
    · rw [mark_x] at hc
      have hc : (c (ss[i].Pick.toNat % l.Design.Rows.length) ss[i].Warp.toNat == ss[i].Lifted) = false := by simpa using hc
      exact (List.all_eq_false.2 ⟨_, List.getElem_mem hi, by simpa using hc⟩ : fitB _ _ _ = false).symm
    · rw [mark_x] at hc
      intro j hj hji
      rcases Nat.lt_succ_iff_lt_or_eq.1 hji with h | rfl
      · exact hI j hj h
      · simpa using hc
  · refine Yes.jn (Yes.cond (fun h => absurd h (by simp)) (fun _ => Yes.some ?_))
    refine (List.all_eq_true.2 fun s hs => ?_ : fitB _ _ _ = true).symm
    obtain ⟨j, hj, rfl⟩ := List.getElem_of_mem hs
    exact hI j hj hj
theorem s61 {l : FaultLoom} (hw : l.Harness.Warps.length ≤ 1000) (s : FaultSight) : f61 s l = some (!okS l s) := by
  refine Yes.eq ?_
  unfold f61
  rw [w64_id (n := (l.Harness.Warps.length : Int) - 1) (by omega) (by omega)]
  refine Yes.bind (Yes.bind (Yes.of (s62 0 119 [s.Pick] (by simp)) (Yes.cond (fun h => Yes.some (Yes.some ?_)) (fun h => Yes.bind (Yes.of (s62 0 _ [s.Warp] (by simp)) (Yes.some (Yes.some ?_)))))))
  · simp only [List.all_cons, List.all_nil, Bool.and_true, ← btw.eq_1] at h
    have h : btw 0 119 s.Pick = false := by simpa using h
    simp [okS, h]
  · simp only [List.all_cons, List.all_nil, Bool.and_true, ← btw.eq_1] at h ⊢
    have h : btw 0 119 s.Pick = true := by simpa using h
    simp [okS, h]
def cans (l : FaultLoom) (ss : List FaultSight) : List FaultDamage := (shows l).filter fun d => fitB l.Design.Rows.length (rc l [d]) ss
theorem flat_if {α β γ : Type} (g : α → β) (p : γ → Bool) (h : α → γ) (xs : List α) (u : α → γ × β) (hu : ∀ x, u x = (h x, g x)) : (xs.map u).flatMap (fun q => if p q.1 then [q.1] else []) = (xs.map h).filter p := by
  induction xs with
  | nil => rfl
  | cons x xs ih => rw [List.map_cons, List.flatMap_cons, ih, List.map_cons, hu]; cases hp : p (h x) <;> simp [hp]
theorem seen_good {l : FaultLoom} {ss : List FaultSight} (h : seenE l ss = 0) : Good l ∧ ss.length ≤ 60 ∧ ∀ s ∈ ss, okS l s = true := by
  unfold seenE at h
  split at h
  · rename_i h1; exact absurd h h1
  rename_i h1
  have h1 := Decidable.not_not.1 h1
  split at h
  · cases h
  split at h
  · rename_i h2 h3; exact ⟨good_of h1, by omega, List.all_eq_true.1 h3⟩
  · cases h
theorem s32 (l : FaultLoom) (ss : List FaultSight) : f32 l ss = some (if seenE l ss = 0 then (cans l ss, fitB l.Design.Rows.length (rc l []) ss, 0) else ([], false, seenE l ss)) := by
  refine Yes.eq ?_
  unfold f32
  refine Yes.jn (Yes.bind (Yes.of (s50 l) (Yes.cond (fun h => Yes.some ?_) (fun h => Yes.cond (fun h2 => Yes.some ?_) (fun h2 => ?_)))))
  · have h : loomE l ≠ 0 := by simpa using h
    have : seenE l ss = loomE l := by unfold seenE; rw [if_pos h]
    rw [this, if_neg h]
  all_goals have h : loomE l = 0 := by simpa using h
  · have h2 : ss.length > 60 := by simp at h2; omega
    have : seenE l ss = 5 := by unfold seenE; rw [if_neg (fun hh => hh h), if_pos h2]
    rw [this]; rfl
  have h2 : ¬ ss.length > 60 := by simp at h2; omega
  have g := good_of h
  have hw1 := g.w1
  have hr0 := g.r0
  refine Yes.bind (Yes.of (s63 ss (fun a0 => f61 a0 l) (fun s => !okS l s) (by omega) fun s _ => s61 (by omega) s) (Yes.cond (fun h3 => Yes.some ?_) (fun h3 => ?_)))
  · have : ss.all (okS l) = false := by rw [← any_not' ss (okS l), h3]; rfl
    have : seenE l ss = 2 := by unfold seenE; rw [if_neg (fun hh => hh h), if_neg h2, this]; rfl
    rw [this]; rfl
  have h3 : ss.all (okS l) = true := by rw [← any_not' ss (okS l), h3]; rfl
  have he : seenE l ss = 0 := by unfold seenE; rw [if_neg (fun hh => hh h), if_neg h2, h3]; rfl
  have hok := List.all_eq_true.1 h3
  rw [if_pos he]
  refine Yes.jn (Yes.bind (Yes.bind ?_))
  have hl := shows_len g
  have hf := feed_app (cons := fun m4_92 (q : FaultDamage × List Str) => (f65 q.2 ss).bind fun y98 => bif y98 then (apnd 40 m4_92 (([q.1] : List FaultDamage))).bind fun y104 => some (true, (y104)) else some (true, (m4_92)))
    (fun q => if fitB l.Design.Rows.length (rc l [q.1]) ss then [q.1] else []) 3000 ((shows l).map fun d => (d, rnd l [d])) [] (fun q _ => by split <;> simp) (by simp; omega) (fun m x hx hm => by
      obtain ⟨d, _, rfl⟩ := List.mem_map.1 hx
      simp only
      rw [rnd_is, s65 g (rc l [d]) (by omega) hok]
      simp only [Option.bind_some]
      cases hb : fitB l.Design.Rows.length (rc l [d]) ss with
      | true =>
        have : apnd 40 m [d] = some (m ++ [d]) := Yes.eq (Yes.apnd (by simp; omega) (by simp; omega) rfl)
        simp only [this, cond_true, Option.bind_some, if_true]
      | false => simp)
  refine Yes.of (s64 g hf) (Yes.some (Yes.bind (Yes.of (s55_nil g) ?_)))
  rw [rnd_is]
  refine Yes.bind (Yes.of (s65 g (rc l []) (by omega) hok) (Yes.some ?_))
  have := flat_if (fun d => rnd l [d]) (fun d => fitB l.Design.Rows.length (rc l [d]) ss) (fun d : FaultDamage => d) (shows l) (fun d => (d, rnd l [d])) (fun _ => rfl)
  rw [List.nil_append, this, List.map_id']
  rfl
theorem s31 (ss : List FaultSight) (h : ss.length ≤ 1000000) : f31 ss = some ss := Yes.eq (Yes.bind (Yes.apnd (by simp; omega) (by simp; omega) (Yes.some (by simp))))
theorem s28 (a b : List FaultSight) (ha : a.length < 9223372036854775807) : f28 a b = some (decide (a = b)) := by
  refine Yes.eq ?_
  unfold f28
  refine Yes.jn (Yes.cond (fun h => Yes.some (same_no h)) (fun h => ?_))
  have hl := same_len h
  refine Yes.jn (Yes.upto0 a.length ha (Same a b) (same_zero a b) (fun i k hi hI hk => ?_) (fun k hI => ?_))
  · exact Yes.jn (Yes.cond (fun _ => Yes.jn (same_step (ne := (fun x y => !decide (x = y))) (fun _ _ => rfl) hl hi hI hk)) (fun h => absurd h (by simp; omega)))
  · exact Yes.jn (Yes.cond (fun h => absurd h (by simp)) (fun _ => Yes.some (same_end hl hI)))
theorem s4 (l : FaultLoom) (ss : List FaultSight) : f4 l ss = some true := by
  refine Yes.eq ?_
  unfold f4
  refine Yes.jn (Yes.bind (Yes.bind (Yes.of (s30 l) (Yes.cond (fun _ => Yes.some (Yes.cond (fun _ => Yes.bind (Yes.of known_ok (Yes.some rfl))) (fun h => nomatch h))) (fun h => Yes.some (Yes.cond (fun _ => Yes.bind (Yes.of known_ok (Yes.some rfl))) (fun h3 => ?_)))))))
  obtain ⟨h1, h2⟩ := huge_not h
  have h3 : ss.length ≤ 70 := by simp at h3; omega
  refine Yes.jn (Yes.bind (Yes.of (s16 l (by omega) (by omega)) (Yes.bind (Yes.of (s31 ss (by omega)) (Yes.bind (Yes.of (s32 l ss) ?_))))))
  refine Yes.jn (Yes.bind (Yes.bind (Yes.of (s21 l l (by omega) (by omega)) (Yes.cond (fun h => absurd h (by simp)) (fun _ => Yes.bind (Yes.of (s28 ss ss (by omega)) (Yes.some (Yes.cond (fun h => absurd h (by simp)) (fun _ => ?_)))))))))
  refine Yes.bind (Yes.of (s33 l) (Yes.bind ?_))
  have hw : ∃ w1 : Int, Yes (Option.bind (α := Bool) (bif (loomE l == (0 : Int)) then some (decide ((ss.length : Int) > (60 : Int))) else some false) fun b => bif b then some (5 : Int) else some (loomE l)) (fun r => r = w1) ∧ seenE l ss = if w1 ≠ 0 then w1 else if ss.all (okS l) then 0 else 2 := by
    by_cases h1 : loomE l = 0
    · by_cases h2 : ss.length > 60
      · have : decide ((ss.length : Int) > 60) = true := by simp; omega
        exact ⟨5, by simp [h1, this]; exact ⟨5, rfl, rfl⟩, by unfold seenE; rw [if_neg (fun hh => hh h1), if_pos h2]; rfl⟩
      · have : decide ((ss.length : Int) > 60) = false := by simp; omega
        exact ⟨0, by simp [h1, this]; exact ⟨0, rfl, rfl⟩, by unfold seenE; rw [if_neg (fun hh => hh h1), if_neg h2]; rfl⟩
    · have e1 : (loomE l == (0 : Int)) = false := by simpa using h1
      exact ⟨loomE l, by rw [e1]; exact ⟨_, rfl, rfl⟩, by unfold seenE; rw [if_pos h1, if_pos h1]⟩
  obtain ⟨w1, hw1, hE⟩ := hw
  refine hw1.mono fun r hr => ?_
  subst hr
  refine Yes.bind (Yes.mono (Q' := fun r => r = seenE l ss) ?_ fun w hw => ?_)
  · refine Yes.lp (fun s => ∃ i : Nat, s.2 = i ∧ i ≤ ss.length ∧ (r ≠ 0 ∧ s.1 = r ∨ r = 0 ∧ (s.1 = 0 ∧ (∀ j (hj : j < ss.length), j < i → okS l ss[j] = true) ∨ s.1 = 2 ∧ ss.all (okS l) = false))) (fun s => ss.length - s.2.toNat)
      ⟨0, rfl, Nat.zero_le _, by by_cases h : r = 0 <;> simp [h]⟩ (by simp only; omega) ?_
    rintro ⟨w, j⟩ k ⟨i, hi, hle, hI⟩ hk
    simp only at hi hI hk
    subst hi
    have hlast : (¬ i < ss.length ∨ w ≠ 0) → w = seenE l ss := fun h => by
      rw [hE]
      rcases hI with ⟨h1, rfl⟩ | ⟨rfl, ⟨rfl, h2⟩ | ⟨rfl, h2⟩⟩
      · rw [if_pos h1]
      · have h : ¬ i < ss.length := by simpa using h
        have : ss.all (okS l) = true := List.all_eq_true.2 fun s hs => by
          obtain ⟨j, hj, rfl⟩ := List.getElem_of_mem hs
          exact h2 j hj (by omega)
        rw [this]; rfl
      · rw [h2]; rfl
    refine Yes.jn (Yes.bind (Yes.cond (fun hlt => Yes.some (Yes.cond (fun hz => ?_) (fun hz => Yes.some (hlast (.inr (by simpa using hz)))))) (fun hlt => Yes.some (Yes.cond (fun h => nomatch h) (fun _ => Yes.some (hlast (.inl (by simpa using hlt))))))))
    have hlt : i < ss.length := by simpa using hlt
    have hz : w = 0 := by simpa using hz
    subst hz
    obtain ⟨h0, hall⟩ : r = 0 ∧ ∀ j (hj : j < ss.length), j < i → okS l ss[j] = true := by
      rcases hI with ⟨h1, h2⟩ | ⟨h1, ⟨_, h2⟩ | ⟨h2, _⟩⟩
      · exact absurd h2.symm h1
      · exact ⟨h1, h2⟩
      · cases h2
    have hbad : okS l ss[i] = false → ss.all (okS l) = false := fun h => List.all_eq_false.2 ⟨_, List.getElem_mem hlt, by simp [h]⟩
    have hgood : okS l ss[i] = true → ∀ j (hj : j < ss.length), j < i + 1 → okS l ss[j] = true := fun h j hj hji => by
      rcases Nat.lt_succ_iff_lt_or_eq.1 hji with h' | rfl
      · exact hall j hj h'
      · exact h
    have step : ∀ (w' : Int), (w' = 0 ∧ okS l ss[i] = true ∨ w' = 2 ∧ okS l ss[i] = false) → Yes (k (w', w64 ((i : Int) + 1))) (fun r => r = seenE l ss) := fun w' h => by
      rw [w64_id (by omega) (by omega)]
      refine hk _ ⟨i + 1, by simp, hlt, .inr ⟨h0, ?_⟩⟩ (by simp only; omega)
      rcases h with ⟨rfl, h⟩ | ⟨rfl, h⟩
      · exact .inl ⟨rfl, hgood h⟩
      · exact .inr ⟨rfl, hbad h⟩
    rw [w64_id (n := (l.Harness.Warps.length : Int) - 1) (by omega) (by omega)]
    refine Yes.bind (Yes.bind (Yes.bind (Yes.idx rfl hlt (Yes.bind (Yes.of (s24 _ _ _) ?_)))))
    refine Yes.cond (fun h => Yes.some (Yes.cond (fun _ => Yes.some (step 2 (.inr ⟨rfl, ?_⟩))) (fun h => nomatch h))) (fun h => ?_)
    rotate_left
    · refine Yes.bind (Yes.idx rfl hlt (Yes.bind (Yes.of (s24 _ _ _) (Yes.some ?_))))
      refine Yes.cond (fun h2 => Yes.some (step 2 (.inr ⟨rfl, ?_⟩))) (fun h2 => Yes.some (step 0 (.inl ⟨rfl, ?_⟩)))
      · unfold okS btw; simp at h h2 ⊢; omega
      · unfold okS btw; simp at h h2 ⊢; omega
    · unfold okS btw; simp at h ⊢; omega
  subst hw
  by_cases hc : seenE l ss = 0
  · obtain ⟨g, hl60, hok⟩ := seen_good hc
    have hr1 := g.r1
    have hsl := shows_len g
    have hcl : (cans l ss).length ≤ 2000 := Nat.le_trans (List.length_filter_le _ _) hsl
    rw [hc, if_pos rfl]
    refine Yes.jn (Yes.cond (fun h => nomatch h) (fun _ => Yes.bind (Yes.of (s34 g) (Yes.bind (Yes.mono (Q' := fun r => r = cans l ss) ?_ fun r hr => ?_)))))
    · have hd : ∀ d ∈ shows l, dmg l d = true := fun d hd => allDs_ok g d (List.mem_filter.1 hd).1
      unfold cans
      generalize shows l = sd at *
      refine Yes.upto sd.length (by omega) (fun i r => r = (sd.take i).filter fun d => fitB l.Design.Rows.length (rc l [d]) ss) (by simp) (fun i r k hi hI hk => ?_) (fun r k hI => ?_)
      · subst hI
        have hlen : ((sd.take i).filter fun d => fitB l.Design.Rows.length (rc l [d]) ss).length ≤ 2000 := Nat.le_trans (List.length_filter_le _ _) (by rw [List.length_take]; omega)
        rw [List.take_succ_eq_append_getElem hi, List.filter_append] at hk
        refine Yes.jn (Yes.cond (fun _ => Yes.bind (Yes.bind (Yes.idx rfl hi (Yes.bind (Yes.of (s36 g (hd _ (List.getElem_mem hi))) ?_))))) (fun h => absurd h (by simp; omega)))
        rw [rnd_is]
        refine Yes.bind (Yes.of (s35 g (rc l [sd[i]]) (by omega) hok) (Yes.cond (fun hf => Yes.bind (Yes.idx rfl hi (Yes.bind (Yes.apnd (by simp; omega) (by simp; omega) (Yes.some (hk _ ?_)))))) (fun hf => Yes.some (hk _ ?_))))
        · simp [hf]
        · simp [hf]
      · subst hI
        exact Yes.jn (Yes.cond (fun h => absurd h (by simp)) (fun _ => Yes.some (by rw [List.take_length])))
    · subst hr
      refine Yes.bind (Yes.cond (fun _ => Yes.bind (Yes.of (s22 _ _ (by show (cans l ss).length < _; omega)) (Yes.cond (fun _ => Yes.bind (Yes.of (s26 g (by simp) (fun x hx => by cases hx)) ?_)) (fun h => absurd h (by simp))))) (fun h => nomatch h))
      rw [nil_same, rnd_is]
      exact Yes.bind (Yes.of (s35 g (rc l []) (by omega) hok) (Yes.cond (fun _ => Yes.bind (Yes.of known_ok (Yes.some (Yes.some rfl)))) (fun h => absurd h (by simp))))
  · rw [if_neg hc]
    refine Yes.jn (Yes.cond (fun _ => Yes.bind ?_) (fun h => absurd (by simpa using h) hc))
    exact Yes.cond (fun _ => Yes.cond (fun _ => Yes.cond (fun _ => Yes.bind (Yes.of known_ok (Yes.some (Yes.some rfl)))) (fun h => nomatch h)) (fun h => nomatch h)) (fun h => absurd h (by simp))
end Go.Proofs.Ytpiaipiehjcflaa
