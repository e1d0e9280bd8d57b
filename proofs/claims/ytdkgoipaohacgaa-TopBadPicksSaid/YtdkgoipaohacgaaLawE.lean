/- Cut; the loom that is made out of bytes. -/
import Derived.Test.YtdkgoipaohacgaaLawD
set_option maxRecDepth 8000
namespace Go.Proofs.Ytdkgoipaohacgaa
open Go.RowKit
open Classical

theorem t107 (a b : Int) (xs : List Int) (hl : xs.length < 9223372036854775807) : f107 a b xs = some (xs.all fun x => decide (a ≤ x ∧ x ≤ b)) := s94 a b xs hl
theorem t108 (xs : List SeamCut) (φ : SeamCut → Option Bool) (p : SeamCut → Bool) (hl : xs.length < 9223372036854775807) (h : ∀ a ∈ xs, φ a = some (p a)) : f108 xs φ = some (xs.any p) :=
 Yes.eq (Yes.bind (Yes.mono (index_is xs φ p hl h) fun _ hr => Yes.some (index_any hr)))
theorem one_in {a b x : Int} (h : a ≤ x ∧ x ≤ b) : f107 a b [x] = some true := by
 rw [t107 a b [x] (by simp)]; simp [h]
theorem tailor_is {n : Int} {bad : List Int} {cuts : List SeamCut} (hn : 1 ≤ n ∧ n ≤ 10) (hb : bad.length ≤ 10) (hbn : ∀ b ∈ bad, 0 ≤ b ∧ b < n) (hasc : bad.Pairwise (· < ·)) (hc : Cts n cuts) : f61 n bad cuts = some (⟨n, bad, cuts⟩, 0) := by
 obtain ⟨hcl, hcc⟩ := hc
 refine Yes.eq ?_
 unfold f61
 refine Yes.jn (bindv _ (one_in ⟨hn.1, by omega⟩) (skip rfl ?_))
 refine bindv false ?_ (skip rfl ?_)
 ·rw [decide_eq_false (show ¬ (bad.length : Int) > 40 by omega), decide_eq_false (show ¬ (cuts.length : Int) > 8 by omega)]; rfl
 refine bindv false ?_ (skip rfl ?_)
 ·have hall : (bad.all fun x => decide (0 ≤ x ∧ x ≤ 100000)) = true := List.all_eq_true.2 fun x hx => decide_eq_true ⟨(hbn x hx).1, by have := (hbn x hx).2; omega⟩
  rw [t107 0 100000 bad (by omega), hall, Option.bind_some]
  have hany := t108 cuts (fun a0 => f106 a0 n) (fun _ => false) (by omega) (fun c hcm => by
   obtain ⟨h1, h2⟩ := hcc c hcm
   unfold f106
   rw [tw64 (n := n - 1) (by omega) (by omega), one_in ⟨h2.1, by omega⟩, one_in (a := 0) (b := n - 1) ⟨h1.1, by omega⟩]
   rfl)
  show (f108 cuts fun a0 => f106 a0 n).bind (fun jA => some jA) = some false
  rw [hany]; simp
 refine Yes.jn ?_
 refine Yes.upto (σ := SeamTailor) bad.length (by omega) (fun _ _ => True) trivial (fun i s k hi _ hk => ?_) (fun s k _ => ?_)
 ·refine take (decide_eq_true (Int.ofNat_lt.2 hi)) (Yes.jn (bindv false ?_ (skip rfl (hk _ trivial))))
  by_cases h0 : i = 0
  ·subst h0; rfl
  ·rw [decide_eq_true (show (i : Int) > 0 by omega), cond_true, tidx hi, tw64 (by omega) (by omega), show (i : Int) - 1 = ((i - 1 : Nat) : Int) by omega, tidx (show i - 1 < bad.length by omega), Option.bind_some, Option.bind_some]
   have := List.pairwise_iff_getElem.1 hasc (i - 1) i (by omega) hi (by omega)
   rw [decide_eq_false (by omega)]
 ·exact skip (by simp) (Yes.some rfl)
theorem mks3 : mks 8 (0 : Int) 3 = some [0, 0, 0] := by
 unfold mks; rw [if_pos (by omega)]; rfl
theorem cut_is {n : Int} {bad : List Int} {cuts : List SeamCut} (hn : 1 ≤ n ∧ n ≤ 10) (hb : bad.length ≤ 10) (hbn : ∀ b ∈ bad, 0 ≤ b ∧ b < n) (hasc : bad.Pairwise (· < ·)) (hc : Cts n cuts) :
  Yes (f23 n bad cuts) fun r => r.2.2 = 0 ∧ r.1.length = 3 ∧ ∀ (i : Nat) (h : i < cuts.length) (h' : i < r.1.length), SOk n bad cuts[i] r.1[i] := by
 have hcl := hc.1
 unfold f23
 refine bindv _ (tailor_is hn hb hbn hasc hc) (Yes.jn (skip rfl ?_))
 refine Yes.bind (Yes.mono (plans_is hn (by omega) (fun b hbm => (hbn b hbm).2) hc) fun ps hps => ?_)
 obtain ⟨hpl, hpo⟩ := hps
 have h3 : mks 8 (0 : Int) (cuts.length : Int) = some [0, 0, 0] := by rw [hcl]; exact mks3
 refine bindv _ h3 (Yes.bind (Yes.mono (Q' := fun xs => xs.length = 3 ∧ ∀ (i : Nat) (h : i < cuts.length) (h' : i < xs.length), SOk n bad cuts[i] xs[i]) ?_ fun xs hxs => ?_))
 ·have h7 : w64 ((ps.length : Int) - 1) = ((7 : Nat) : Int) := by rw [hpl]; exact tw64 (by decide) (by decide)
  rw [h7]
  refine Yes.lp (fun x => ∃ s : Nat, x.2 = (s : Int) ∧ s < 8 ∧ x.1.length = 3 ∧ ∀ (i : Nat) (h : i < cuts.length) (h' : i < x.1.length), s.testBit i = false → SOk n bad cuts[i] x.1[i]) (fun x => x.2.toNat) ⟨7, rfl, by omega, rfl, fun i h _ hb7 => ?_⟩ (by simp) ?_
  ·have : i = 0 ∨ i = 1 ∨ i = 2 := by omega
   rcases this with rfl | rfl | rfl <;> exact absurd hb7 (by decide)
  rintro ⟨xs, u⟩ k ⟨s, hu, hs, hx, hI⟩ hk
  simp only at hu hx hI hk
  subst hu
  refine Yes.jn ?_
  by_cases h0 : s = 0
  ·subst h0
   exact skip rfl (Yes.some ⟨hx, fun i h h' => hI i h h' (by simp)⟩)
  ·refine take (decide_eq_true (by omega)) ?_
   have hsl : s < ps.length := by omega
   obtain ⟨i, hi, hl, hbit, hso, _, _⟩ := hpo s hsl (by omega)
   have hi3 : i < 3 := by omega
   obtain ⟨b1, b2, b3⟩ := bit_small ⟨s, hs⟩ ⟨i, hi3⟩
   have ha := andn_small ⟨s, hs⟩ ⟨i, hi3⟩
   have hw := wo_small ⟨s, hs⟩ ⟨i, hi3⟩
   simp only at b3 ha hw
   have hwo : s - s / 2 ^ i % 2 * 2 ^ i = wo s i := rfl
   rw [hwo] at ha
   have hlt := hw.2.1 hbit
   refine Yes.bind (bindv _ (tidx hsl) (bindv _ (tidx hsl) (bindv (xs[i]'(by omega)) (by rw [hl]; exact tidx (by omega)) (Yes.some ?_))))
   refine bindv _ (tidx hsl) (bindv ((2 ^ i : Nat) : Int) (by rw [hl]; exact b3) ?_)
   rw [ha, hl, show ((i : Int)).toNat = i by omega]
   refine hk _ ⟨wo s i, rfl, by omega, by simp [hx], fun j hj hj' hbj => ?_⟩ (by simp only; omega)
   rw [List.getElem_set]
   by_cases hij : i = j
   ·subst hij; rw [if_pos rfl]; exact hso
   ·rw [if_neg hij]
    have hwb := hw.2.2 ⟨j, by omega⟩
    simp only at hwb
    rw [hbj, decide_eq_false (fun e => hij e.symm)] at hwb
    exact hI j hj (by simpa using hj') (by simpa using hwb.symm)
 ·have h7 : w64 ((ps.length : Int) - 1) = ((7 : Nat) : Int) := by rw [hpl]; exact tw64 (by decide) (by decide)
  refine bindv ps[7] (by rw [h7]; exact tidx (by omega)) (Yes.some ⟨rfl, hxs.1, hxs.2⟩)
/-! ### The loom -/
theorem apnd8 {xs : List Int} {y : Int} (h : xs.length ≤ 1000) : apnd 8 xs [y] = some (xs ++ [y]) := Yes.eq (Yes.apnd (by simp; omega) (by simp; omega) rfl)
structure Arm (l : FaultLoom) : Prop where
 ok : loomE l = 0
 r10 : l.Design.Rows.length ≤ 10
 r1 : 1 ≤ l.Design.Rows.length
 w1 : 1 ≤ l.Harness.Warps.length
 w30 : l.Harness.Warps.length ≤ 30
 hk : l.Harness.Hooks = l.Design.Hooks ∧ 1 ≤ l.Design.Hooks ∧ l.Design.Hooks ≤ 12
theorem arm_harness (x : Loom) : Yes (f30 x) fun h => h.Hooks = 1 + ((x.Hooks.toNat : Nat) : Int) % 12 ∧ 1 ≤ h.Warps.length ∧ h.Warps.length ≤ 30 ∧ ∀ w ∈ h.Warps, 0 ≤ w ∧ w < h.Hooks := by
  unfold f30
  have hr : rem64 ((x.Hooks.toNat : Nat) : Int) 12 = some (((x.Hooks.toNat : Nat) : Int) % 12) := rem_is (by omega) (by omega)
  refine bindv _ hr ?_
  generalize hh : ((x.Hooks.toNat : Nat) : Int) % 12 = r
  have hr0 : 0 ≤ r ∧ r < 12 := by rw [← hh]; exact ⟨Int.emod_nonneg _ (by omega), Int.emod_lt_of_pos _ (by omega)⟩
  rw [tw64 (n := 1 + r) (by omega) (by omega)]
  refine Yes.bind ?_
  refine Yes.upto (σ := TieHarness) 30 (by omega) (fun i h => h.Hooks = 1 + r ∧ h.Warps.length = i ∧ ∀ w ∈ h.Warps, 0 ≤ w ∧ w < 1 + r) ⟨rfl, rfl, fun w hw => by cases hw⟩ (fun i h k hi hI hk => ?_) (fun h k hI => ?_)
  · obtain ⟨h1, h2, h3⟩ := hI
    refine Yes.jn ?_
    have hgo : ∀ {Q : TieHarness → Prop}, (∀ y, 0 ≤ y → y < 1 + r → Yes (k ({ h with Warps := h.Warps ++ [y] }, w64 ((i : Int) + 1))) Q) → Yes (Option.bind (α := TieHarness) (
     Option.bind (α := Int) (
      bif (decide ((i : Int) < (((x).Warps).length : Int))) then
       (idx ((x).Warps) (i : Int)).bind fun n7 =>
       (rem64 ((n7).toNat : Int) (h).Hooks).bind fun o7 =>
       some (o7)
      else
       some ((0 : Int))
      ) fun i5 =>
     (apnd 8 ((h).Warps) (([i5] : List Int))).bind fun o8 =>
     some ({ h with Warps := o8 })
     ) fun l5 =>
    k (l5, (w64 ((i : Int) + (1 : Int))))) Q := fun hy => by
      by_cases hx : i < x.Warps.length
      · have hrm : rem64 ((x.Warps[i].toNat : Nat) : Int) h.Hooks = some (((x.Warps[i].toNat : Nat) : Int) % h.Hooks) := rem_is (by omega) (by omega)
        refine Yes.bind (Yes.bind (take (decide_eq_true (Int.ofNat_lt.2 hx)) (bindv _ (tidx hx) (bindv _ hrm (Yes.some (bindv _ (apnd8 (by omega)) (Yes.some ?_)))))))
        exact hy _ (Int.emod_nonneg _ (by omega)) (by rw [← h1]; exact Int.emod_lt_of_pos _ (by omega))
      · refine Yes.bind (Yes.bind (skip (decide_eq_false (by omega)) (Yes.some (bindv _ (apnd8 (by omega)) (Yes.some ?_)))))
        exact hy _ (by omega) (by omega)
    have hnext : ∀ y, 0 ≤ y → y < 1 + r → _ := fun y hy1 hy2 => hk { h with Warps := h.Warps ++ [y] } ⟨h1, by simp [h2], fun w hw => by
      rcases List.mem_append.1 hw with hw | hw
      · exact h3 w hw
      · rw [List.mem_singleton.1 hw]; exact ⟨hy1, hy2⟩⟩
    by_cases h0 : i = 0
    · subst h0
      refine bindv true rfl (take rfl ?_)
      exact hgo hnext
    · by_cases hx : i < x.Warps.length
      · refine bindv true ?_ (take rfl ?_)
        · have : ((i : Int) == 0) = false := by rw [beq_eq_false_iff_ne]; omega
          rw [this, decide_eq_true (Int.ofNat_lt.2 hx), decide_eq_true (show (i : Int) < 30 by omega)]; rfl
        · exact hgo hnext
      · refine bindv false ?_ (skip rfl (Yes.some (Yes.some ⟨h1, by omega, by omega, fun w hw => by rw [h1]; exact h3 w hw⟩)))
        have : ((i : Int) == 0) = false := by rw [beq_eq_false_iff_ne]; omega
        rw [this, decide_eq_false (show ¬ (i : Int) < (x.Warps.length : Int) by omega)]; rfl
  · obtain ⟨h1, h2, h3⟩ := hI
    refine Yes.jn (bindv false ?_ (skip rfl (Yes.some (Yes.some ⟨h1, by omega, by omega, fun w hw => by rw [h1]; exact h3 w hw⟩))))
    cases decide (((30 : Nat) : Int) < (x.Warps.length : Int)) <;> rfl
end Go.Proofs.Ytdkgoipaohacgaa
