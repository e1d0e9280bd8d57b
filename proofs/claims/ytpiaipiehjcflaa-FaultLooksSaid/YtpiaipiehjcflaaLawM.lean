/- Plain laws: damages in groups that are alike. -/
import Derived.Test.YtpiaipiehjcflaaLawL
set_option maxRecDepth 8000
namespace Go.Proofs.Ytpiaipiehjcflaa
open Go.RowKit

/-! ### Classes of an equivalence on numbers -/
section
variable (e : Nat → Nat → Bool)
def first (i : Nat) : Bool := (List.range i).all fun k => !e i k
def clN (i f : Nat) : List Nat := (List.range i).filter (e f)
def cl (i f : Nat) : List Int := (clN e i f).map fun (k : Nat) => (k : Int)
end
structure Equi (e : Nat → Nat → Bool) : Prop where
  refl : ∀ i, e i i = true
  symm : ∀ {i k}, e i k = true → e k i = true
  trans : ∀ {i j k}, e i j = true → e j k = true → e i k = true
section
variable {e : Nat → Nat → Bool}
theorem first_is {i : Nat} : first e i = true ↔ ∀ k, k < i → e i k = false := by
  unfold first
  rw [List.all_eq_true]
  exact ⟨fun h k hk => by simpa using h k (List.mem_range.2 hk), fun h k hk => by simpa using h k (List.mem_range.1 hk)⟩
theorem rep (E : Equi e) : ∀ k, ∃ f, f ≤ k ∧ first e f = true ∧ e f k = true := by
  intro k
  induction k using Nat.strongRecOn with
  | ind k ih =>
    by_cases h : first e k = true
    · exact ⟨k, Nat.le_refl _, h, E.refl k⟩
    · rw [first_is] at h
      obtain ⟨j, hj⟩ := Classical.not_forall.1 h
      obtain ⟨hj1, hj2⟩ := Classical.not_imp.1 hj
      have hj2 : e k j = true := by simpa using hj2
      obtain ⟨f, hf, h1, h2⟩ := ih j hj1
      exact ⟨f, by omega, h1, E.trans h2 (E.symm hj2)⟩
end
end Go.Proofs.Ytpiaipiehjcflaa
