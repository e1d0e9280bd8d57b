/- Laws of plain functions, part 1. -/
import Derived.Test.YtmebkoemfjlbcaaGreatDoorBkKn
import Derived.Test.YtmebkoemfjlbcaaGreatDoorYes
set_option maxRecDepth 8000
namespace Go.Proofs.YtmebkoemfjlbcaaGreatDoor
open Go.RowKit Go.Sort
open Classical
theorem Gm {α β : Type} {Q : β → Prop} {x : Option α} {f : α → Option β} (a : α) (h : x = some a) (k : Yes (f a) Q) : Yes (x.bind f) Q := by rw [h]; exact k
def Yd (a b x : Int) : Bool := decide (a ≤ x ∧ x ≤ b)
theorem P4 {a b x : Int} : Yd a b x = true ↔ a ≤ x ∧ x ≤ b := by simp [Yd]
theorem s103B (xs : List Int) (φ : Int → Option Bool) (p : Int → Bool) (hl : xs.length < 9223372036854775807) (h : ∀ a ∈ xs, φ a = some (p a)) : f138 xs φ = some (xs.any p) :=
 Yes.eq (Yes.bind (Yes.mono (Ax xs φ p hl h) fun _ hr => Yes.some (Pf hr)))
theorem b98B (x a b : Int) : f139 x a b = some (!Yd a b x) := by unfold f139 Yd; by_cases h1 : x < a <;> by_cases h2 : x > b <;> simp [h1, h2] <;> omega
theorem b69B (a b : Int) (xs : List Int) (hl : xs.length < 9223372036854775807) : f100 a b xs = some (xs.all (Yd a b)) := by
 unfold f100
 rw [s103B xs _ (fun x => !Yd a b x) hl fun x _ => b98B x a b]
 simp [List.all_eq_not_any_not]
theorem Re {x y : Int} (h : x < y) : f130 x y = some (-1) := by
 unfold f130 f159 jn
 simp [h, Int.not_lt.2 (Int.le_of_lt h)]
theorem So {x y : Int} (h : y < x) : f130 x y = some 1 := by
 unfold f130 f159 jn
 simp [h, Int.not_lt.2 (Int.le_of_lt h)]
theorem Sw (x : Int) : f130 x x = some 0 := by
 unfold f130 f159 jn
 simp
theorem B0 (x y : Int) : ∃ z, f130 x y = some z := by
 rcases Int.lt_trichotomy x y with h | h | h
 ·exact ⟨_, Re h⟩
 ·exact ⟨0, by subst h; exact Sw x⟩
 ·exact ⟨_, So h⟩
theorem s70_mB (z : Int) : f129 [-1, z] = some (-1) := by kernel_rfl
theorem s70_pB (z : Int) : f129 [1, z] = some 1 := by kernel_rfl
theorem N7 {a b : Z2} (h : a.Day < b.Day) : f89 a b = some (-1) := by
 obtain ⟨z, hz⟩ := B0 a.Loom b.Loom
 refine Yes.eq ?_
 unfold f89
 exact Gm _ (Re h) (Gm _ hz (Gm _ (s70_mB z) (Yes.some rfl)))
theorem Ng {a b : Z2} (h : b.Day < a.Day) : f89 a b = some 1 := by
 obtain ⟨z, hz⟩ := B0 a.Loom b.Loom
 refine Yes.eq ?_
 unfold f89
 exact Gm _ (So h) (Gm _ hz (Gm _ (s70_pB z) (Yes.some rfl)))
section
variable {α : Type} (key : α → Int)
variable {key}
theorem s70_0B {z : Int} (h : z = -1 ∨ z = 0 ∨ z = 1) : f129 [0, z] = some z := by
 rcases h with rfl | rfl | rfl <;> kernel_rfl
end
def ltC (a b : Z2) : Prop := a.Day < b.Day ∨ a.Day = b.Day ∧ a.Loom < b.Loom
theorem Rr (a b : Z2) : ∃ z, f89 a b = some z ∧ (z < 0 ↔ ltC a b) := by
 unfold ltC
 rcases Int.lt_trichotomy a.Day b.Day with h | h | h
 ·exact ⟨_, N7 h, by omega⟩
 ·have hz : ∃ z, f130 a.Loom b.Loom = some z ∧ (z = -1 ∨ z = 0 ∨ z = 1) ∧ (z < 0 ↔ a.Loom < b.Loom) := by
   rcases Int.lt_trichotomy a.Loom b.Loom with g | g | g
   ·exact ⟨_, Re g, by omega, by omega⟩
   ·exact ⟨0, by rw [g]; exact Sw _, by omega, by omega⟩
   ·exact ⟨_, So g, by omega, by omega⟩
  obtain ⟨z, z1, z2, z3⟩ := hz
  refine ⟨z, ?_, by omega⟩
  refine Yes.eq ?_
  unfold f89
  refine Gm 0 (by rw [h]; exact Sw _) (Gm _ z1 (Gm _ (s70_0B z2) (Yes.some rfl)))
 ·exact ⟨_, Ng h, by omega⟩
theorem L0 (a b : Z2) : ltOf (fun a b => (f89 a b).getD 0) a b = decide (ltC a b) := by
 obtain ⟨z, h1, h2⟩ := Rr a b
 show decide ((f89 a b).getD 0 < 0) = _
 rw [h1, decide_eq_decide]
 exact h2
theorem Li : SWO (ltOf fun a b => (f89 a b).getD 0) where
 irrefl x := by rw [L0, decide_eq_false_iff_not]; unfold ltC; omega
 trans x y z h1 h2 := by
  rw [L0, decide_eq_true_iff] at *
  unfold ltC at *; omega
 ntrans x y z h1 h2 := by
  rw [L0, decide_eq_false_iff_not] at *
  unfold ltC at *; omega
theorem s70r {zs : List Z2} (hl : zs.length ≤ 1000) : ∃ ys, f134 zs (fun a0 a1 => f89 a0 a1) = some ys ∧ ys.Perm zs ∧ ys.Pairwise fun a b => ¬ ltC b a := by
 unfold f134 Bu
 rw [if_pos ⟨fun a b => by obtain ⟨z, h, _⟩ := Rr a b; show (f89 a b).isSome = true; rw [h]; rfl, Li, by omega⟩]
 have hp := pdq_sorts (ltOf fun a b => (f89 a b).getD 0) Li zs.toArray 0 zs.length (Lib.bitLen zs.length) true true (Nat.zero_le _) (by simp) (.inl rfl)
 refine ⟨_, rfl, ?_⟩
 generalize pdq (ltOf fun a b => (f89 a b).getD 0) zs.toArray 0 zs.length (Lib.bitLen zs.length) true true = d at hp
 obtain ⟨⟨h1, _, h3⟩, h4⟩ := hp
 have hs : d.size = zs.length := by simpa using h1
 constructor
 ·have e1 : (d.extract 0 zs.length) = d := by rw [← hs]; simp
  have e2 : (zs.toArray.extract 0 zs.length) = zs.toArray := by simp
  rw [e1, e2] at h3
  simpa using h3
 ·refine List.pairwise_iff_getElem.2 fun i j hi hj hij => ?_
  have hi' : i < d.size := by simpa using hi
  have hj' : j < d.size := by simpa using hj
  have := h4 i j (Nat.zero_le _) hij (by omega)
  rw [L0, decide_eq_false_iff_not, getElem!_pos d j hj', getElem!_pos d i hi'] at this
  simpa using this
end Go.Proofs.YtmebkoemfjlbcaaGreatDoor
