/- Plain laws of the seat's functions: copies and comparisons. -/
import Derived.Test.YtpiaipiehjcflaaCodes
import Derived.Test.YtpiaipiehjcflaaYes
set_option maxRecDepth 8000
namespace Go.Proofs.Ytpiaipiehjcflaa
open Go.RowKit

theorem s57 (a b : TieHarness) (ha : a.Warps.length < 9223372036854775807) : Yes (f57 a b) (fun r => r = decide (a = b)) := by
  unfold f57
  refine Yes.jn (Yes.bind (Yes.cond (fun h1 => Yes.some (Yes.cond (fun _ => Yes.some ?_) (fun h => nomatch h))) (fun h1 => Yes.some (Yes.cond (fun h2 => Yes.some ?_) (fun h2 => Yes.jn ?_)))))
  · have : a.Hooks ≠ b.Hooks := by simpa using h1
    have : a ≠ b := fun h => this (by rw [h])
    simp [this]
  · have : a.Warps.length ≠ b.Warps.length := by simp at h2; omega
    have : a ≠ b := fun h => this (by rw [h])
    simp [this]
  · replace h1 : a.Hooks = b.Hooks := by simpa using h1
    replace h2 : a.Warps.length = b.Warps.length := by simp at h2; omega
    refine Yes.upto0 a.Warps.length ha (fun i => ∀ n (h1 : n < a.Warps.length) (h2 : n < b.Warps.length), n < i → a.Warps[n] = b.Warps[n]) (fun _ _ _ h => absurd h (Nat.not_lt_zero _)) (fun i k hi hI hk => ?_) (fun k hI => ?_)
    · refine Yes.jn (Yes.cond (fun _ => Yes.jn (Yes.bind (Yes.idx rfl hi (Yes.bind (Yes.idx rfl (by omega) (Yes.cond (fun h => Yes.some ?_) (fun h => hk ?_))))))) (fun h => absurd h (by simp; omega)))
      · have hne : a.Warps[i] ≠ b.Warps[i] := by simpa using h
        have : a ≠ b := fun h => hne (by simp only [h])
        simp [this]
      · have he : a.Warps[i] = b.Warps[i] := by simpa using h
        intro n hn1 hn2 hni
        rcases Nat.lt_succ_iff_lt_or_eq.1 hni with h | rfl
        · exact hI n hn1 hn2 h
        · exact he
    · refine Yes.jn (Yes.cond (fun h => absurd h (by simp)) (fun _ => Yes.some ?_))
      have : a = b := by
        obtain ⟨ah, aw⟩ := a; obtain ⟨bh, bw⟩ := b
        simp only at h1 h2 hI ⊢
        subst h1
        rw [List.ext_getElem h2 fun n hn1 hn2 => hI n hn1 hn2 hn1]
      simp [this]

theorem s58 (a b : Design) (ha : a.Rows.length < 9223372036854775807) : Yes (f58 a b) (fun r => r = decide (a = b)) := by
  unfold f58
  have h84 : f84 a b = some (decide (a.Hooks = b.Hooks ∧ a.Rows.length = b.Rows.length)) := by
    unfold f84
    have e : (((a.Rows).length : Int) == ((b.Rows).length : Int)) = decide (a.Rows.length = b.Rows.length) := by rw [Bool.eq_iff_iff]; simp; omega
    rw [e]
    by_cases h1 : a.Hooks = b.Hooks
    · simp [h1]
    · have e1 : (a.Hooks == b.Hooks) = false := by simpa using h1
      rw [e1]; simp [h1]
  refine Yes.jn (Yes.bind (Yes.of h84 (Yes.cond (fun h => Yes.some ?_) (fun h => Yes.jn ?_))))
  · have : ¬ (a.Hooks = b.Hooks ∧ a.Rows.length = b.Rows.length) := by intro hh; simp [hh] at h
    have : a ≠ b := fun h => this (by rw [h]; exact ⟨rfl, rfl⟩)
    simp [this]
  · obtain ⟨h1, h2⟩ : a.Hooks = b.Hooks ∧ a.Rows.length = b.Rows.length := by simpa using h
    refine Yes.upto0 a.Rows.length ha (fun i => ∀ n (h1 : n < a.Rows.length) (h2 : n < b.Rows.length), n < i → a.Rows[n] = b.Rows[n]) (fun _ _ _ h => absurd h (Nat.not_lt_zero _)) (fun i k hi hI hk => ?_) (fun k hI => ?_)
    · refine Yes.jn (Yes.cond (fun _ => Yes.jn (Yes.bind (Yes.idx rfl hi (Yes.bind (Yes.idx rfl (by omega) (Yes.cond (fun h => Yes.some ?_) (fun h => hk ?_))))))) (fun h => absurd h (by simp; omega)))
      · have hne : a.Rows[i] ≠ b.Rows[i] := by simpa using h
        have : a ≠ b := fun h => hne (by simp only [h])
        simp [this]
      · have he : a.Rows[i] = b.Rows[i] := by simpa using h
        intro n hn1 hn2 hni
        rcases Nat.lt_succ_iff_lt_or_eq.1 hni with h | rfl
        · exact hI n hn1 hn2 h
        · exact he
    · refine Yes.jn (Yes.cond (fun h => absurd h (by simp)) (fun _ => Yes.some ?_))
      have : a = b := by
        obtain ⟨ah, aw⟩ := a; obtain ⟨bh, bw⟩ := b
        simp only at h1 h2 hI ⊢
        subst h1
        rw [List.ext_getElem h2 fun n hn1 hn2 => hI n hn1 hn2 hn1]
      simp [this]
theorem s21 (a b : FaultLoom) (ha : a.Harness.Warps.length < 9223372036854775807) (hb : a.Design.Rows.length < 9223372036854775807) : f21 a b = some (decide (a = b)) := by
  refine Yes.eq ?_
  unfold f21
  refine Yes.bind (Yes.bind (Yes.mono (s57 _ _ ha) fun r hr => ?_))
  subst hr
  refine Yes.cond (fun h => Yes.bind (Yes.mono (s58 _ _ hb) fun r hr => Yes.some (Yes.some ?_))) (fun h => Yes.some (Yes.some ?_))
  · subst hr
    have h : a.Harness = b.Harness := by simpa using h
    obtain ⟨a1, a2⟩ := a; obtain ⟨b1, b2⟩ := b
    simp only at h ⊢
    subst h; simp
  · have h : a.Harness ≠ b.Harness := by simpa using h
    have : a ≠ b := fun he => h (by rw [he])
    simp [this]
theorem s16 (l : FaultLoom) (h1 : l.Harness.Warps.length ≤ 1000000) (h2 : l.Design.Rows.length ≤ 1000000) : f16 l = some l := by
  refine Yes.eq ?_
  unfold f16
  exact Yes.bind (Yes.apnd (by simp; omega) (by simp; omega) (Yes.bind (Yes.apnd (by simp; omega) (by simp; omega) (Yes.some (by simp)))))
theorem s24 (x a b : Int) : f24 x a b = some (decide (a ≤ x ∧ x ≤ b)) := by unfold f24; by_cases h1 : x ≥ a <;> by_cases h2 : x ≤ b <;> simp [h1, h2] <;> omega
theorem s92 (x a b : Int) : f92 x a b = some (decide (a ≤ x ∧ x ≤ b)) := s24 x a b
theorem s93 (x a b : Int) : f93 x a b = some (decide (a ≤ x ∧ x ≤ b)) := s24 x a b
theorem s105 (x a b : Int) : f105 x a b = some (!decide (a ≤ x ∧ x ≤ b)) := by unfold f105; by_cases h1 : x < a <;> by_cases h2 : x > b <;> simp [h1, h2] <;> omega
theorem s87 (xs : List Int) (φ : Int → Option Bool) (p : Int → Bool) (hl : xs.length < 9223372036854775807) (h : ∀ a ∈ xs, φ a = some (p a)) : f87 xs φ = some (xs.any p) :=
  Yes.eq (Yes.bind (Yes.mono (index_is xs φ p hl h) fun _ hr => Yes.some (index_any hr)))
theorem s53 (xs : List FaultDamage) (φ : FaultDamage → Option Bool) (p : FaultDamage → Bool) (hl : xs.length < 9223372036854775807) (h : ∀ a ∈ xs, φ a = some (p a)) : f53 xs φ = some (xs.any p) :=
  Yes.eq (Yes.bind (Yes.mono (index_is xs φ p hl h) fun _ hr => Yes.some (index_any hr)))
theorem any_not (xs : List Int) (p : Int → Bool) : (!(xs.any fun x => !p x)) = xs.all p := by induction xs <;> simp_all
theorem s94 (a b : Int) (xs : List Int) (hl : xs.length < 9223372036854775807) : f94 a b xs = some (xs.all fun x => decide (a ≤ x ∧ x ≤ b)) := by
  unfold f94; rw [s87 xs _ (fun x => !decide (a ≤ x ∧ x ≤ b)) hl (fun x _ => s105 x a b)]
  show some (!(xs.any fun x => !decide (a ≤ x ∧ x ≤ b))) = _
  rw [any_not]
theorem s95 (a b : Int) (xs : List Int) (hl : xs.length < 9223372036854775807) : f95 a b xs = some (xs.all fun x => decide (a ≤ x ∧ x ≤ b)) := s94 a b xs hl
theorem s62 (a b : Int) (xs : List Int) (hl : xs.length < 9223372036854775807) : f62 a b xs = some (xs.all fun x => decide (a ≤ x ∧ x ≤ b)) := s94 a b xs hl

/-! ### The error of a loom -/
/-- All lie between two others. -/
def btw (a b x : Int) : Bool := decide (a ≤ x ∧ x ≤ b)
def tieE (h : TieHarness) : Int := if btw 1 24 h.Hooks then if h.Warps.length > 96 then 5 else if h.Warps.length = 0 then 7 else if h.Warps.all (btw 0 (h.Hooks - 1)) then 0 else 2 else 2
def desE (d : Design) : Int := if btw 1 24 d.Hooks then if d.Rows.length > 60 then 5 else if d.Rows.length = 0 then 7 else if d.Rows.all (btw 0 (2 ^ d.Hooks.toNat - 1)) then 0 else 2 else 2
def loomE (l : FaultLoom) : Int := if tieE l.Harness ≠ 0 then tieE l.Harness else if desE l.Design ≠ 0 then desE l.Design else if l.Harness.Hooks ≠ l.Design.Hooks then 4 else 0
theorem s73 (h : TieHarness) : f73 h = some (tieE h) := by
  refine Yes.eq ?_
  unfold f73
  refine Yes.jn (Yes.bind (Yes.of (s94 _ _ _ (by simp)) (Yes.cond (fun h1 => Yes.some ?_) (fun h1 => ?_))))
  · have : btw 1 24 h.Hooks = false := by simp [btw] at h1 ⊢; omega
    simp [tieE, this]
  have hb : btw 1 24 h.Hooks = true := by simpa [btw] using h1
  have hb' : 1 ≤ h.Hooks ∧ h.Hooks ≤ 24 := by simpa [btw] using hb
  refine Yes.cond (fun h2 => Yes.some ?_) (fun h2 => ?_)
  · have : h.Warps.length > 96 := by simp at h2; omega
    simp [tieE, hb, this]
  have h2' : ¬ h.Warps.length > 96 := by simp at h2; omega
  refine Yes.cond (fun h3 => Yes.some ?_) (fun h3 => ?_)
  · have : h.Warps.length = 0 := by simpa using h3
    simp [tieE, hb, this]
  have h3' : ¬ h.Warps.length = 0 := by simpa using h3
  rw [w64_id (n := h.Hooks - 1) (by omega) (by omega)]
  refine Yes.bind (Yes.of (s94 _ _ _ (by omega)) (Yes.cond (fun h4 => Yes.some ?_) (fun h4 => Yes.some ?_)))
  · have : h.Warps.all (btw 0 (h.Hooks - 1)) = false := by simpa [btw] using h4
    simp [tieE, hb, h2', h3', this]
  · have : h.Warps.all (btw 0 (h.Hooks - 1)) = true := by simpa [btw] using h4
    simp [tieE, hb, h2', h3', this]
theorem s66 (h : TieHarness) : f66 h = some (tieE h) := by
  refine Yes.eq ?_
  unfold f66
  refine Yes.jn (Yes.bind (Yes.of (s92 _ _ _) (Yes.cond (fun h1 => Yes.some ?_) (fun h1 => Yes.jn (Yes.cond (fun h2 => Yes.some ?_) (fun h2 => Yes.jn (Yes.cond (fun h3 => Yes.some ?_) (fun h3 => ?_))))))))
  · have : btw 1 24 h.Hooks = false := by simp [btw] at h1 ⊢; omega
    simp [tieE, this]
  all_goals
    have hb : btw 1 24 h.Hooks = true := by simpa [btw] using h1
    have hb' : 1 ≤ h.Hooks ∧ h.Hooks ≤ 24 := by simpa [btw] using hb
  · have : h.Warps.length > 96 := by simp at h2; omega
    simp [tieE, hb, this]
  · have : h.Warps.length = 0 := by simpa using h3
    simp [tieE, hb, this]
  have h2' : ¬ h.Warps.length > 96 := by simp at h2; omega
  have h3' : ¬ h.Warps.length = 0 := by simpa using h3
  refine Yes.jn (Yes.upto0 h.Warps.length (by omega) (fun i => ∀ j (hj : j < h.Warps.length), j < i → btw 0 (h.Hooks - 1) h.Warps[j] = true) (fun _ _ h => absurd h (Nat.not_lt_zero _)) (fun i k hi hI hk => ?_) (fun k hI => ?_))
  · refine Yes.jn (Yes.cond (fun _ => Yes.jn (Yes.bind (Yes.idx rfl hi (Yes.bind (Yes.of (s92 _ _ _) (Yes.cond (fun hc => Yes.some ?_) (fun hc => hk ?_))))))) (fun h => absurd h (by simp; omega)))
    · rw [w64_id (n := h.Hooks - 1) (by omega) (by omega)] at hc
      have : h.Warps.all (btw 0 (h.Hooks - 1)) = false := by
        rw [List.all_eq_false]
        exact ⟨_, List.getElem_mem hi, by simp [btw] at hc ⊢; omega⟩
      simp [tieE, hb, h2', h3', this]
    · rw [w64_id (n := h.Hooks - 1) (by omega) (by omega)] at hc
      intro j hj hji
      rcases Nat.lt_succ_iff_lt_or_eq.1 hji with h' | rfl
      · exact hI j hj h'
      · simpa [btw] using hc
  · refine Yes.jn (Yes.cond (fun h => absurd h (by simp)) (fun _ => Yes.some ?_))
    have : h.Warps.all (btw 0 (h.Hooks - 1)) = true := by
      rw [List.all_eq_true]
      intro x hx
      obtain ⟨j, hj, rfl⟩ := List.getElem_of_mem hx
      exact hI j hj hj
    simp [tieE, hb, h2', h3', this]

theorem pow_small {n : Int} (h1 : 1 ≤ n) (h2 : n ≤ 24) : (1 : Int) ≤ 2 ^ n.toNat ∧ (2 : Int) ^ n.toNat ≤ 16777216 := by
  have a : 1 ≤ 2 ^ n.toNat := Nat.one_le_two_pow
  have b : 2 ^ n.toNat ≤ 2 ^ 24 := Nat.pow_le_pow_right (by omega) (by omega)
  have c : ((2 ^ n.toNat : Nat) : Int) = (2 : Int) ^ n.toNat := by simp
  rw [← c]; omega
theorem shl_one {n : Int} (h1 : 1 ≤ n) (h2 : n ≤ 24) : shl64 1 n = some (2 ^ n.toNat) := by
  unfold shl64
  have ⟨a, b⟩ := pow_small h1 h2
  rw [if_neg (by omega), show min n.toNat 64 = n.toNat by omega, Int.one_mul, w64_id (by omega) (by omega)]
theorem wu64_id {n : Int} (h1 : 0 ≤ n) (h2 : n ≤ 9223372036854775807) : wu64 n = n := by
  unfold wu64 IntKind.wrap
  simp [IntKind.bits, IntKind.signed]
  omega
theorem s74 (d : Design) : f74 d = some (desE d) := by
  refine Yes.eq ?_
  unfold f74
  refine Yes.jn (Yes.bind (Yes.of (s95 _ _ _ (by simp)) (Yes.cond (fun h1 => Yes.some ?_) (fun h1 => ?_))))
  · have : btw 1 24 d.Hooks = false := by simp [btw] at h1 ⊢; omega
    simp [desE, this]
  have hb : btw 1 24 d.Hooks = true := by simpa [btw] using h1
  have hb' : 1 ≤ d.Hooks ∧ d.Hooks ≤ 24 := by simpa [btw] using hb
  refine Yes.cond (fun h2 => Yes.some ?_) (fun h2 => ?_)
  · have : d.Rows.length > 60 := by simp at h2; omega
    simp [desE, hb, this]
  have h2' : ¬ d.Rows.length > 60 := by simp at h2; omega
  refine Yes.cond (fun h3 => Yes.some ?_) (fun h3 => ?_)
  · have : d.Rows.length = 0 := by simpa using h3
    simp [desE, hb, this]
  have h3' : ¬ d.Rows.length = 0 := by simpa using h3
  have ⟨pa, pb⟩ := pow_small hb'.1 hb'.2
  refine Yes.bind (Yes.of (shl_one hb'.1 hb'.2) ?_)
  rw [w64_id (n := 2 ^ d.Hooks.toNat - 1) (by omega) (by omega)]
  refine Yes.bind (Yes.of (s95 _ _ _ (by omega)) (Yes.cond (fun h4 => Yes.some ?_) (fun h4 => Yes.some ?_)))
  · have : d.Rows.all (btw 0 (2 ^ d.Hooks.toNat - 1)) = false := by simpa [btw] using h4
    simp [desE, hb, h2', h3', this]
  · have : d.Rows.all (btw 0 (2 ^ d.Hooks.toNat - 1)) = true := by simpa [btw] using h4
    simp [desE, hb, h2', h3', this]
theorem s67 (h : Design) : f67 h = some (desE h) := by
  refine Yes.eq ?_
  unfold f67
  refine Yes.jn (Yes.bind (Yes.of (s93 _ _ _) (Yes.cond (fun h1 => Yes.some ?_) (fun h1 => Yes.jn (Yes.cond (fun h2 => Yes.some ?_) (fun h2 => Yes.jn (Yes.cond (fun h3 => Yes.some ?_) (fun h3 => ?_))))))))
  · have : btw 1 24 h.Hooks = false := by simp [btw] at h1 ⊢; omega
    simp [desE, this]
  all_goals
    have hb : btw 1 24 h.Hooks = true := by simpa [btw] using h1
    have hb' : 1 ≤ h.Hooks ∧ h.Hooks ≤ 24 := by simpa [btw] using hb
  · have : h.Rows.length > 60 := by simp at h2; omega
    simp [desE, hb, this]
  · have : h.Rows.length = 0 := by simpa using h3
    simp [desE, hb, this]
  have h2' : ¬ h.Rows.length > 60 := by simp at h2; omega
  have h3' : ¬ h.Rows.length = 0 := by simpa using h3
  have ⟨pa, pb⟩ := pow_small hb'.1 hb'.2
  refine Yes.jn (Yes.upto0 h.Rows.length (by omega) (fun i => ∀ j (hj : j < h.Rows.length), j < i → btw 0 (2 ^ h.Hooks.toNat - 1) h.Rows[j] = true) (fun _ _ h => absurd h (Nat.not_lt_zero _)) (fun i k hi hI hk => ?_) (fun k hI => ?_))
  · refine Yes.jn (Yes.cond (fun _ => Yes.jn (Yes.bind (Yes.idx rfl hi (Yes.bind (Yes.of (by rw [wu64_id (by omega) (by omega)]; exact shl_one hb'.1 hb'.2) (Yes.bind (Yes.of (s93 _ _ _) (Yes.cond (fun hc => Yes.some ?_) (fun hc => hk ?_))))))))) (fun h => absurd h (by simp; omega)))
    · rw [w64_id (n := 2 ^ h.Hooks.toNat - 1) (by omega) (by omega)] at hc
      have : h.Rows.all (btw 0 (2 ^ h.Hooks.toNat - 1)) = false := by
        rw [List.all_eq_false]
        exact ⟨_, List.getElem_mem hi, by simp [btw] at hc ⊢; omega⟩
      simp [desE, hb, h2', h3', this]
    · rw [w64_id (n := 2 ^ h.Hooks.toNat - 1) (by omega) (by omega)] at hc
      intro j hj hji
      rcases Nat.lt_succ_iff_lt_or_eq.1 hji with h' | rfl
      · exact hI j hj h'
      · simpa [btw] using hc
  · refine Yes.jn (Yes.cond (fun h => absurd h (by simp)) (fun _ => Yes.some ?_))
    have : h.Rows.all (btw 0 (2 ^ h.Hooks.toNat - 1)) = true := by
      rw [List.all_eq_true]
      intro x hx
      obtain ⟨j, hj, rfl⟩ := List.getElem_of_mem hx
      exact hI j hj hj
    simp [desE, hb, h2', h3', this]
theorem loom_of (l : FaultLoom) (x : Option Int) (y : Option Int) (hx : x = some (tieE l.Harness)) (hy : y = some (desE l.Design)) :
    (jn (σ := Unit) (fun (_ : Unit) => jn (σ := Unit) (fun (_ : Unit) => jn (σ := Unit) (fun (_ : Unit) => some ((0 : Int))) fun k33 => bif ((l.Harness).Hooks != (l.Design).Hooks) then some ((4 : Int)) else k33 ()) fun k19 =>
      y.bind fun y23 => bif (y23 != (0 : Int)) then some (y23) else k19 ()) fun k7 => x.bind fun y11 => bif (y11 != (0 : Int)) then some (y11) else k7 ()) = some (loomE l) := by
  subst hx; subst hy
  unfold loomE jn
  by_cases h1 : tieE l.Harness = 0 <;> by_cases h2 : desE l.Design = 0 <;> by_cases h3 : l.Harness.Hooks = l.Design.Hooks <;> simp [h1, h2, h3, bne, BEq.beq]
theorem s50 (l : FaultLoom) : f50 l = some (loomE l) := loom_of l _ _ (s73 _) (s74 _)
theorem s33 (l : FaultLoom) : f33 l = some (loomE l) := loom_of l _ _ (s66 _) (s67 _)

/-! ### Valid damages -/
/-- What a valid loom is like. -/
structure Good (l : FaultLoom) : Prop where
  h1 : 1 ≤ l.Design.Hooks
  h24 : l.Design.Hooks ≤ 24
  hh : l.Harness.Hooks = l.Design.Hooks
  w0 : 0 < l.Harness.Warps.length
  w1 : l.Harness.Warps.length ≤ 96
  r0 : 0 < l.Design.Rows.length
  r1 : l.Design.Rows.length ≤ 60
  warp : ∀ x ∈ l.Harness.Warps, 0 ≤ x ∧ x < l.Design.Hooks
  row : ∀ x ∈ l.Design.Rows, 0 ≤ x ∧ x < 2 ^ l.Design.Hooks.toNat
theorem good_of {l : FaultLoom} (h : loomE l = 0) : Good l := by
  unfold loomE at h
  split at h
  · rename_i h1; exact absurd h h1
  rename_i h1
  split at h
  · rename_i h2; exact absurd h h2
  rename_i h2
  split at h
  · cases h
  rename_i h3
  have h1 : tieE l.Harness = 0 := Decidable.not_not.1 h1
  have h2 : desE l.Design = 0 := Decidable.not_not.1 h2
  have h3 : l.Harness.Hooks = l.Design.Hooks := Decidable.not_not.1 h3
  unfold tieE at h1
  unfold desE at h2
  split at h1
  case isFalse => cases h1
  split at h1
  · cases h1
  split at h1
  · cases h1
  split at h1
  case isFalse => cases h1
  split at h2
  case isFalse => cases h2
  split at h2
  · cases h2
  split at h2
  · cases h2
  split at h2
  case isFalse => cases h2
  rename_i a1 a2 a3 a4 b1 b2 b3 b4
  simp only [btw, decide_eq_true_eq, List.all_eq_true] at a1 a4 b1 b4
  exact ⟨b1.1, b1.2, h3, by omega, by omega, by omega, by omega, fun x hx => by have := a4 x hx; omega, fun x hx => by have := b4 x hx; omega⟩
def dmg (l : FaultLoom) (d : FaultDamage) : Bool :=
  if d.Kind = 1 then btw 0 (l.Design.Rows.length - 1) d.Pick && btw 0 (l.Design.Hooks - 1) d.Hook && decide (d.Warp = 0) && !d.Up
  else if d.Kind = 2 then btw 0 (l.Design.Hooks - 1) d.Hook && decide (d.Pick = 0) && decide (d.Warp = 0)
  else if d.Kind = 3 ∨ d.Kind = 4 then btw 0 (l.Design.Rows.length - 1) d.Pick && decide (d.Hook = 0) && decide (d.Warp = 0) && !d.Up
  else if d.Kind = 5 then btw 0 (l.Harness.Warps.length - 1) d.Warp && decide (d.Pick = 0) && decide (d.Hook = 0) && !d.Up
  else false
theorem s59 {l : FaultLoom} (g : Good l) (d : FaultDamage) : f59 l d = some (dmg l d) := by
  unfold f59
  obtain ⟨g1, g2, _, g3, g4, g5, g6, _, _⟩ := g
  rw [w64_id (n := (l.Design.Rows.length : Int) - 1) (by omega) (by omega), w64_id (n := l.Design.Hooks - 1) (by omega) (by omega), w64_id (n := (l.Harness.Warps.length : Int) - 1) (by omega) (by omega)]
  simp only [s24, Option.bind_some, jn, ← btw.eq_1]
  unfold dmg
  generalize btw 0 ((l.Design.Rows.length : Int) - 1) d.Pick = p
  generalize btw 0 (l.Design.Hooks - 1) d.Hook = h
  generalize btw 0 ((l.Harness.Warps.length : Int) - 1) d.Warp = w
  have e : ∀ a b : Int, (a == b) = decide (a = b) := fun a b => by rw [Bool.eq_iff_iff]; simp
  simp only [e]
  by_cases k1 : d.Kind = 1
  · simp only [k1, decide_true, cond_true, if_true]
    cases p <;> cases h <;> by_cases q : d.Warp = 0 <;> simp [q]
  by_cases k2 : d.Kind = 2
  · simp only [k2]
    cases h <;> by_cases q : d.Pick = 0 <;> simp [q]
  by_cases k3 : d.Kind = 3
  · simp only [k3]
    cases p <;> by_cases q : d.Hook = 0 <;> by_cases r : d.Warp = 0 <;> simp [q, r]
  by_cases k4 : d.Kind = 4
  · simp only [k4]
    cases p <;> by_cases q : d.Hook = 0 <;> by_cases r : d.Warp = 0 <;> simp [q, r]
  by_cases k5 : d.Kind = 5
  · simp only [k5]
    cases w <;> by_cases q : d.Pick = 0 <;> by_cases r : d.Hook = 0 <;> simp [q, r]
  simp [k1, k2, k3, k4, k5]
theorem s52 {l : FaultLoom} (g : Good l) (d : FaultDamage) : f52 ⟨l⟩ d = some (dmg l d) := by
  unfold f52
  obtain ⟨g1, g2, _, g3, g4, g5, g6, _, _⟩ := g
  simp only
  rw [w64_id (n := (l.Design.Rows.length : Int) - 1) (by omega) (by omega), w64_id (n := l.Design.Hooks - 1) (by omega) (by omega), w64_id (n := (l.Harness.Warps.length : Int) - 1) (by omega) (by omega)]
  simp only [s62 _ _ [d.Pick] (by simp), s62 _ _ [d.Hook] (by simp), s62 _ _ [d.Warp] (by simp), List.all_cons, List.all_nil, Bool.and_true, Option.bind_some, ← btw.eq_1]
  have b0 : btw 0 (l.Design.Hooks - 1) 0 = true := by simp [btw]; omega
  have b1 : btw 0 ((l.Design.Rows.length : Int) - 1) 0 = true := by simp [btw]; omega
  have b2 : btw 0 ((l.Harness.Warps.length : Int) - 1) 0 = true := by simp [btw]; omega
  obtain ⟨k, p, h, w, u⟩ := d
  unfold dmg
  simp only
  have e : ∀ a b : Int, (a == b) = decide (a = b) := fun a b => by rw [Bool.eq_iff_iff]; simp
  simp only [e]
  by_cases k1 : k = 1
  · subst k1
    by_cases q : w = 0 <;> cases u <;> simp [q, b2]
    cases btw 0 ((l.Design.Rows.length : Int) - 1) p <;> cases btw 0 (l.Design.Hooks - 1) h <;> simp
  by_cases k2 : k = 2
  · subst k2
    by_cases q : p = 0 <;> by_cases r : w = 0 <;> simp [q, r, b1, b2]
    cases btw 0 (l.Design.Hooks - 1) h <;> simp
  by_cases k3 : k = 3
  · subst k3
    by_cases q : h = 0 <;> by_cases r : w = 0 <;> cases u <;> simp [q, r, b0, b2]
    cases btw 0 ((l.Design.Rows.length : Int) - 1) p <;> simp
  by_cases k4 : k = 4
  · subst k4
    by_cases q : h = 0 <;> by_cases r : w = 0 <;> cases u <;> simp [q, r, b0, b2]
    cases btw 0 ((l.Design.Rows.length : Int) - 1) p <;> simp
  by_cases k5 : k = 5
  · subst k5
    by_cases q : p = 0 <;> by_cases r : h = 0 <;> cases u <;> simp [q, r, b0, b1]
  simp [k1, k2, k3, k4, k5]
/-- The error of a loom and damages. -/
def chkE (l : FaultLoom) (ds : List FaultDamage) : Int := if loomE l ≠ 0 then loomE l else if ds.length > 100 then 5 else if ds.all (dmg l) then 0 else 2
theorem s18 (l : FaultLoom) (ds : List FaultDamage) : f18 l ds = some (chkE l ds) := by
  refine Yes.eq ?_
  unfold f18
  refine Yes.jn (Yes.bind (Yes.of (s50 l) (Yes.cond (fun h => Yes.some ?_) (fun h => Yes.jn (Yes.cond (fun h2 => Yes.some ?_) (fun h2 => ?_))))))
  · have : loomE l ≠ 0 := by simpa using h
    simp [chkE, this]
  all_goals have h0 : loomE l = 0 := by simpa using h
  · have : ds.length > 100 := by simp at h2; omega
    simp [chkE, h0, this]
  have h2' : ¬ ds.length > 100 := by simp at h2; omega
  have hg := good_of h0
  have h53 := s53 ds (fun a0 => f51 a0 l) (fun d => !dmg l d) (by omega) fun d _ => by unfold f51; rw [s52 hg d]; rfl
  refine Yes.bind (Yes.of h53 (Yes.cond (fun h3 => Yes.some ?_) (fun h3 => Yes.some ?_)))
  · have : ds.all (dmg l) = false := by
      rw [List.any_eq_true] at h3
      obtain ⟨d, hd, hn⟩ := h3
      exact List.all_eq_false.2 ⟨d, hd, by simpa using hn⟩
    simp [chkE, h0, h2', this]
  · have : ds.all (dmg l) = true := by
      rw [List.any_eq_false] at h3
      exact List.all_eq_true.2 fun d hd => by simpa using h3 d hd
    simp [chkE, h0, h2', this]
theorem s23 (l : FaultLoom) (ds : List FaultDamage) : f23 l ds = some (chkE l ds) := by
  refine Yes.eq ?_
  unfold f23
  refine Yes.jn (Yes.bind (Yes.of (s33 l) (Yes.cond (fun h => Yes.some ?_) (fun h => Yes.jn (Yes.cond (fun h2 => Yes.some ?_) (fun h2 => ?_))))))
  · have : loomE l ≠ 0 := by simpa using h
    simp [chkE, this]
  all_goals have h0 : loomE l = 0 := by simpa using h
  · have : ds.length > 100 := by simp at h2; omega
    simp [chkE, h0, this]
  have h2' : ¬ ds.length > 100 := by simp at h2; omega
  have hg := good_of h0
  refine Yes.jn (Yes.upto0 ds.length (by omega) (fun i => ∀ j (hj : j < ds.length), j < i → dmg l ds[j] = true) (fun _ _ h => absurd h (Nat.not_lt_zero _)) (fun i k hi hI hk => ?_) (fun k hI => ?_))
  · refine Yes.jn (Yes.cond (fun _ => Yes.jn (Yes.bind (Yes.idx rfl hi (Yes.bind (Yes.of (s59 hg _) (Yes.cond (fun hc => Yes.some ?_) (fun hc => hk ?_))))))) (fun h => absurd h (by simp; omega)))
    · have : ds.all (dmg l) = false := List.all_eq_false.2 ⟨_, List.getElem_mem hi, by simpa using hc⟩
      simp [chkE, h0, h2', this]
    · intro j hj hji
      rcases Nat.lt_succ_iff_lt_or_eq.1 hji with h' | rfl
      · exact hI j hj h'
      · simpa using hc
  · refine Yes.jn (Yes.cond (fun h => absurd h (by simp)) (fun _ => Yes.some ?_))
    have : ds.all (dmg l) = true := by
      rw [List.all_eq_true]
      intro x hx
      obtain ⟨j, hj, rfl⟩ := List.getElem_of_mem hx
      exact hI j hj hj
    simp [chkE, h0, h2', this]
end Go.Proofs.Ytpiaipiehjcflaa
