/- Lengths that are cut out of a cloth: where they begin. -/
import Derived.Test.YtdkgoipaohacgaaLawC
set_option maxRecDepth 8000
namespace Go.Proofs.Ytdkgoipaohacgaa
open Go.RowKit
open Classical

theorem skip {α : Type} {Q : α → Prop} {c : Bool} {X Y : Option α} (hc : c = false) (h : Yes Y Q) : Yes (bif c then X else Y) Q := by rw [hc]; exact h
theorem take {α : Type} {Q : α → Prop} {c : Bool} {X Y : Option α} (hc : c = true) (h : Yes X Q) : Yes (bif c then X else Y) Q := by rw [hc]; exact h
theorem bindv {α β : Type} {Q : β → Prop} {x : Option α} {f : α → Option β} (a : α) (h : x = some a) (k : Yes (f a) Q) : Yes (x.bind f) Q := by rw [h]; exact k
theorem tidx {α : Type} {xs : List α} {i : Nat} (h : i < xs.length) : idx xs (i : Int) = some xs[i] := by unfold idx; rw [if_pos (Int.natCast_nonneg i)]; exact List.getElem?_eq_getElem h
theorem rem_is {a b : Int} (ha : 0 ≤ a) (hb : 0 < b) : rem64 a b = some (a % b) := by
 unfold rem64
 rw [if_neg (by omega), Int.tmod_eq_emod_of_nonneg ha]
theorem tw64 {n : Int} (h1 : -1000000000 ≤ n) (h2 : n ≤ 1000000000) : w64 n = n := w64_id (by omega) (by omega)
/-! ### Bits of small sets -/
theorem andn_small : ∀ s : Fin 8, ∀ i : Fin 3, bit64 .andNot ((s.1 : Nat) : Int) ((2 ^ i.1 : Nat) : Int) = ((s.1 - (s.1 / 2 ^ i.1 % 2) * 2 ^ i.1 : Nat) : Int) := by decide
theorem bit_small : ∀ s : Fin 8, ∀ i : Fin 3, shr64 ((s.1 : Nat) : Int) ((i.1 : Nat) : Int) = some ((s.1 / 2 ^ i.1 : Nat) : Int) ∧ (bit64 .and ((s.1 / 2 ^ i.1 : Nat) : Int) 1 == 0) = !s.1.testBit i.1 ∧ shl64 1 ((i.1 : Nat) : Int) = some ((2 ^ i.1 : Nat) : Int) := by decide
def wo (s i : Nat) : Nat := s - (s / 2 ^ i % 2) * 2 ^ i
theorem wo_small : ∀ s : Fin 8, ∀ i : Fin 3, wo s.1 i.1 ≤ s.1 ∧ (s.1.testBit i.1 = true → wo s.1 i.1 < s.1) ∧ ∀ j : Fin 3, (wo s.1 i.1).testBit j.1 = (s.1.testBit j.1 && !decide (j.1 = i.1)) := by decide
theorem some_bit : ∀ s : Fin 8, s.1 ≠ 0 → s.1.testBit 0 = true ∨ s.1.testBit 1 = true ∨ s.1.testBit 2 = true := by decide
/-! ### Where a length can begin -/
structure SOk (n : Int) (bad : List Int) (c : SeamCut) (at_ : Int) : Prop where
 nn : 0 ≤ at_
 m : at_ % n = c.Begin
 hi : at_ ≤ 10000
 no : ∀ b ∈ bad, ¬ (at_ ≤ b ∧ b < at_ + c.Picks)
theorem last_loop {bad : List Int} (hb : bad.length ≤ 1000) (lo hi : Int) :
    Yes (lp (σ := Int × Int) (fun v8 (t5, j1) =>
    bif (decide (j1 < ((bad).length : Int))) then
     Option.bind (α := Int) (
      (idx bad j1).bind fun z2 =>
      Option.bind (α := Bool) (
       bif (decide (z2 ≥ lo)) then
        some ((decide (z2 < hi)))
       else
        some (false)
       ) fun o3 =>
      bif o3 then
       some (z2)
      else
       some (t5)
      ) fun x5 =>
     v8 (x5, (w64 (j1 + (1 : Int))))
    else
     some (t5)
    ) big ((-1 : Int), (0 : Int))) fun r => (r = -1 ∧ ∀ b ∈ bad, ¬ (lo ≤ b ∧ b < hi)) ∨ (r ∈ bad ∧ lo ≤ r ∧ r < hi) := by
  refine Yes.upto bad.length (by omega) (fun i r => (r = -1 ∧ ∀ j, j < i → ∀ h : j < bad.length, ¬ (lo ≤ bad[j] ∧ bad[j] < hi)) ∨ (r ∈ bad ∧ lo ≤ r ∧ r < hi)) (.inl ⟨rfl, fun j h => absurd h (Nat.not_lt_zero _)⟩) (fun i r k hi' hI hk => ?_) (fun r k hI => ?_)
  · refine take (decide_eq_true (Int.ofNat_lt.2 hi')) ?_
    refine Yes.bind (bindv _ (tidx hi') ?_)
    by_cases h : lo ≤ bad[i] ∧ bad[i] < hi
    · refine bindv true (by rw [decide_eq_true (show bad[i] ≥ lo from h.1), decide_eq_true h.2]; rfl) (take rfl (Yes.some ?_))
      exact hk _ (.inr ⟨List.getElem_mem hi', h.1, h.2⟩)
    · refine bindv false ?_ (skip rfl (Yes.some ?_))
      · by_cases h1 : bad[i] ≥ lo
        · rw [decide_eq_true h1, decide_eq_false (fun h2 => h ⟨h1, h2⟩)]; rfl
        · rw [decide_eq_false h1]; rfl
      · refine hk _ ?_
        rcases hI with ⟨h1, h2⟩ | h1
        · refine .inl ⟨h1, fun j hj hl => ?_⟩
          rcases Nat.lt_succ_iff_lt_or_eq.1 hj with h3 | rfl
          · exact h2 j h3 hl
          · exact h
        · exact .inr h1
  · refine skip (by simp) (Yes.some ?_)
    rcases hI with ⟨h1, h2⟩ | h1
    · refine .inl ⟨h1, fun b hb => ?_⟩
      obtain ⟨j, hj, rfl⟩ := List.getElem_of_mem hb
      exact h2 j hj hj
    · exact .inr h1
theorem start_is {n : Int} {bad : List Int} {cuts : List SeamCut} {c : SeamCut} {from' : Int} (hn : 1 ≤ n ∧ n ≤ 10) (hb : bad.length ≤ 1000) (hbn : ∀ b ∈ bad, b < n) (hc : 0 ≤ c.Begin ∧ c.Begin < n) (hp : 1 ≤ c.Picks ∧ c.Picks ≤ 8) (hf : 0 ≤ from' ∧ from' ≤ 2000) :
  Yes (f109 ⟨n, bad, cuts⟩ from' c) fun r => SOk n bad c r ∧ r ≤ max from' 10 + 10 := by
 unfold f109
 refine Yes.lp (fun s => from' ≤ s ∧ s ≤ max from' n) (fun s => (max from' n + 1 - s).toNat) ⟨Int.le_refl _, by omega⟩ (by omega) (fun s k hI hk => ?_)
 obtain ⟨h1, h2⟩ := hI
 have hm := Int.emod_nonneg s (show n ≠ 0 by omega)
 have hm2 := Int.emod_lt_of_pos s (show 0 < n by omega)
 refine Yes.jn (bindv _ (rem_is (a := s) (b := n) (by omega) (by omega)) ?_)
 simp only
 rw [tw64 (n := c.Begin + n) (by omega) (by omega), tw64 (n := c.Begin + n - s % n) (by omega) (by omega)]
 refine bindv _ (rem_is (a := c.Begin + n - s % n) (b := n) (by omega) (by omega)) ?_
 generalize hu : (c.Begin + n - s % n) % n = u
 have hu1 : 0 ≤ u := by rw [← hu]; exact Int.emod_nonneg _ (by omega)
 have hu2 : u < n := by rw [← hu]; exact Int.emod_lt_of_pos _ (by omega)
 have hmod : (s + u) % n = c.Begin := by
  rw [← hu, Int.add_emod, Int.emod_emod_of_dvd _ (Int.dvd_refl n), ← Int.add_emod]
  have e : s + (c.Begin + n - s % n) = c.Begin + n * (1 + s / n) := by
   have := Int.emod_add_mul_ediv s n
   rw [Int.mul_add, Int.mul_one]; omega
  rw [e, Int.add_mul_emod_self_left]
  exact Int.emod_eq_of_lt hc.1 hc.2
 rw [tw64 (n := s + u) (by omega) (by omega), tw64 (n := s + u + c.Picks) (by omega) (by omega)]
 refine Yes.bind (Yes.mono (last_loop hb (s + u) (s + u + c.Picks)) fun r hr => ?_)
 rcases hr with ⟨rfl, hr⟩ | ⟨hr, hr1, hr2⟩
 ·exact Yes.jn (take rfl (Yes.some ⟨⟨by omega, hmod, by omega, hr⟩, by omega⟩))
 ·have hrn := hbn r hr
  refine Yes.jn (skip (decide_eq_false (by omega)) ?_)
  show Yes (k (w64 (r + 1))) _
  rw [tw64 (by omega) (by omega)]
  exact hk _ ⟨by omega, by omega⟩ (by omega)
/-! ### Plans -/
def POk (n : Int) (bad : List Int) (cuts : List SeamCut) (s : Nat) (p : SeamPlan) : Prop :=
 ∃ i : Nat, ∃ h : i < cuts.length, p.last = (i : Int) ∧ s.testBit i = true ∧ SOk n bad cuts[i] p.start ∧ 0 ≤ p.end_ ∧ p.end_ ≤ 200 * s
def Cts (n : Int) (cuts : List SeamCut) : Prop := cuts.length = 3 ∧ ∀ c ∈ cuts, (0 ≤ c.Begin ∧ c.Begin < n) ∧ (1 ≤ c.Picks ∧ c.Picks ≤ 8)
theorem plan_loop {n : Int} {bad : List Int} {cuts : List SeamCut} (hn : 1 ≤ n ∧ n ≤ 10) (hb : bad.length ≤ 1000) (hbn : ∀ b ∈ bad, b < n) (hc : Cts n cuts) {d3 : List SeamPlan} {s : Nat} (hs : s < 8) (hs1 : 1 ≤ s) (hd : d3.length = 8)
    (hz : ∀ t (h : t < d3.length), t < s → 0 ≤ d3[t].end_ ∧ d3[t].end_ ≤ 200 * t) :
    Yes (lp (σ := SeamPlan × Int) (fun kB (j1, o0) =>
       bif (decide (o0 < ((cuts).length : Int))) then
        Option.bind (α := SeamPlan) (
         (idx cuts o0).bind fun i6 =>
         jn (σ := Unit) (fun _ =>
          (shl64 (1 : Int) o0).bind fun d7 =>
          (idx d3 (bit64 .andNot (s : Int) d7)).bind fun v8 =>
          (f109 ⟨n, bad, cuts⟩ ((v8).end_) i6).bind fun j3 =>
          Option.bind (α := Bool) (
           bif (decide ((j1).end_ < (0 : Int))) then
            some (true)
           else
            some ((decide ((w64 (j3 + (i6).Picks)) < (j1).end_)))
           ) fun x6 =>
          bif x6 then
           some ((⟨o0, j3, (w64 (j3 + (i6).Picks))⟩ : SeamPlan))
          else
           some (j1)
          ) fun lB =>
         (shr64 (s : Int) o0).bind fun e8 =>
         bif ((bit64 .and e8 (1 : Int)) == (0 : Int)) then
          some (j1)
         else
          lB ()
         ) fun e7 =>
        kB (e7, (w64 (o0 + (1 : Int))))
       else
        some (j1)
       ) big ((⟨0, 0, (-1 : Int)⟩ : SeamPlan), (0 : Int))) (POk n bad cuts s) := by
  obtain ⟨hcl, hcc⟩ := hc
  refine Yes.upto 3 (by omega) (fun i j => (j.end_ = -1 ∧ ∀ i', i' < i → s.testBit i' = false) ∨ POk n bad cuts s j) (.inl ⟨rfl, fun i h => absurd h (Nat.not_lt_zero _)⟩) (fun i j k hi hI hk => ?_) (fun j k hI => ?_)
  · have hic : i < cuts.length := by omega
    obtain ⟨b1, b2, b3⟩ := bit_small ⟨s, hs⟩ ⟨i, hi⟩
    simp only at b1 b2 b3
    refine take (decide_eq_true (show (i : Int) < (cuts.length : Int) by omega)) ?_
    refine Yes.bind (bindv _ (tidx hic) (Yes.jn (bindv _ b1 ?_)))
    cases hbit : s.testBit i with
    | false =>
      rw [hbit] at b2
      refine take b2 (Yes.some (hk _ ?_))
      rcases hI with ⟨h1, h2⟩ | h1
      · refine .inl ⟨h1, fun i' hi' => ?_⟩
        rcases Nat.lt_succ_iff_lt_or_eq.1 hi' with h3 | rfl
        · exact h2 i' h3
        · exact hbit
      · exact .inr h1
    | true =>
      rw [hbit] at b2
      have ha := andn_small ⟨s, hs⟩ ⟨i, hi⟩
      have hw := wo_small ⟨s, hs⟩ ⟨i, hi⟩
      simp only at ha hw
      have hwo : s - s / 2 ^ i % 2 * 2 ^ i = wo s i := rfl
      rw [hwo] at ha
      have hlt := hw.2.1 hbit
      obtain ⟨z1, z2⟩ := hz (wo s i) (by omega) hlt
      obtain ⟨c1, c2⟩ := hcc cuts[i] (List.getElem_mem hic)
      refine skip b2 (bindv _ b3 (bindv (d3[wo s i]'(by omega)) (by rw [ha]; exact tidx (by omega)) ?_))
      refine Yes.bind (Yes.mono (start_is (cuts := cuts) hn hb hbn c1 c2 ⟨z1, by omega⟩) fun r hr => ?_)
      obtain ⟨hr1, hr2⟩ := hr
      have hr3 := hr1.nn
      have hpw : w64 (r + cuts[i].Picks) = r + cuts[i].Picks := tw64 (by omega) (by omega)
      have hnew : POk n bad cuts s ⟨(i : Int), r, w64 (r + cuts[i].Picks)⟩ := ⟨i, hic, rfl, hbit, hr1, by simp only [hpw]; omega, by simp only [hpw]; omega⟩
      by_cases h0 : j.end_ < 0
      · exact bindv true (by rw [decide_eq_true h0]; rfl) (take rfl (Yes.some (hk _ (.inr hnew))))
      · refine bindv (decide (w64 (r + cuts[i].Picks) < j.end_)) (by rw [decide_eq_false h0]; rfl) ?_
        cases decide (w64 (r + cuts[i].Picks) < j.end_) with
        | true => exact take rfl (Yes.some (hk _ (.inr hnew)))
        | false =>
          refine skip rfl (Yes.some (hk _ (.inr ?_)))
          rcases hI with ⟨h1, _⟩ | h1
          · omega
          · exact h1
  · refine skip (decide_eq_false (show ¬ ((3 : Nat) : Int) < (cuts.length : Int) by omega)) (Yes.some ?_)
    rcases hI with ⟨_, h2⟩ | h1
    · rcases some_bit ⟨s, hs⟩ (by simp only; omega) with h | h | h <;> simp only at h
      · rw [h2 0 (by omega)] at h; cases h
      · rw [h2 1 (by omega)] at h; cases h
      · rw [h2 2 (by omega)] at h; cases h
    · exact h1
theorem mka8 : mka 24 (⟨0, 0, 0⟩ : SeamPlan) 8 = some (List.replicate 8 ⟨0, 0, 0⟩) := by
 unfold mka; rw [if_pos (by omega)]; rfl
theorem plans_is {n : Int} {bad : List Int} {cuts : List SeamCut} (hn : 1 ≤ n ∧ n ≤ 10) (hb : bad.length ≤ 1000) (hbn : ∀ b ∈ bad, b < n) (hc : Cts n cuts) :
  Yes (f62 ⟨n, bad, cuts⟩) fun ps => ps.length = 8 ∧ ∀ t (h : t < ps.length), 1 ≤ t → POk n bad cuts t ps[t] := by
 have hcl := hc.1
 unfold f62
 have h8 : shl64 (1 : Int) (cuts.length : Int) = some 8 := by rw [hcl]; decide
 refine bindv _ h8 (bindv _ mka8 (Yes.bind ?_))
 refine Yes.lp (fun x => ∃ s : Nat, x.2 = (s : Int) ∧ 1 ≤ s ∧ s ≤ 8 ∧ x.1.length = 8 ∧ ∀ t (h : t < x.1.length), (t = 0 → x.1[t].end_ = 0) ∧ (1 ≤ t → t < s → POk n bad cuts t x.1[t])) (fun x => 8 - x.2.toNat) ⟨1, rfl, by omega, by omega, rfl, fun t h => ⟨fun h0 => by subst h0; rfl, fun h1 h2 => by omega⟩⟩ (by simp) ?_
 rintro ⟨d3, u0⟩ k ⟨s, hu, hs1, hs8, hd, hI⟩ hk
 simp only at hu hd hI hk
 subst hu
 refine Yes.jn ?_
 by_cases hs : s < 8
 ·refine take (decide_eq_true (by omega)) ?_
  refine Yes.bind (Yes.bind (Yes.mono (plan_loop hn hb hbn hc hs hs1 hd fun t h ht => ?_) fun p hp => bindv _ (tidx (show s < d3.length by omega)) (Yes.some ?_)))
  ·by_cases h0 : t = 0
   ·have := (hI t h).1 h0; omega
   ·obtain ⟨i, hi, _, _, _, h1, h2⟩ := (hI t h).2 (by omega) ht
    exact ⟨h1, h2⟩
  ·rw [tw64 (by omega) (by omega), show ((s : Int)).toNat = s by omega]
   refine hk _ ⟨s + 1, by omega, by omega, by omega, by simp [hd], fun t h => ?_⟩ (by simp only; omega)
   have h' : t < d3.length := by simpa using h
   rw [List.getElem_set]
   by_cases hts : s = t
   ·subst hts
    rw [if_pos rfl]
    exact ⟨fun h0 => by omega, fun _ _ => hp⟩
   ·rw [if_neg hts]
    exact ⟨(hI t h').1, fun h1 h2 => (hI t h').2 h1 (by omega)⟩
 ·refine skip (decide_eq_false (by omega)) (Yes.some (Yes.some ⟨hd, fun t h h1 => (hI t h).2 h1 (by omega)⟩))
end Go.Proofs.Ytdkgoipaohacgaa
