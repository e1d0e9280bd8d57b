/- Stable sorting by a key: lists. -/
import Derived.Test.YtpiaipiehjcflaaLawP
set_option maxRecDepth 8000
namespace Go.Proofs.Ytpiaipiehjcflaa
open Go.RowKit

/-! ### Lists by a key -/
section
variable {α : Type} (key : α → Int)
/-- The same elements, and those of one key in the same order. -/
def Stab (xs ys : List α) : Prop := ∀ v : Int, xs.filter (fun x => key x == v) = ys.filter (fun x => key x == v)
def Srt (xs : List α) : Prop := xs.Pairwise fun a b => key a ≤ key b
variable {key}
theorem Stab.refl (xs : List α) : Stab key xs xs := fun _ => rfl
theorem Stab.trans {xs ys zs : List α} (h : Stab key xs ys) (k : Stab key ys zs) : Stab key xs zs := fun v => (h v).trans (k v)
theorem Stab.app {a a' b b' : List α} (h : Stab key a a') (k : Stab key b b') : Stab key (a ++ b) (a' ++ b') := fun v => by rw [List.filter_append, List.filter_append, h v, k v]
theorem Stab.mid {p a a' s : List α} (h : Stab key a a') : Stab key (p ++ a ++ s) (p ++ a' ++ s) := ((Stab.refl p).app h).app (Stab.refl s)
theorem Stab.mem {xs ys : List α} (h : Stab key xs ys) {x : α} (hx : x ∈ ys) : x ∈ xs := by
  have h1 : x ∈ ys.filter (fun y => key y == key x) := List.mem_filter.2 ⟨hx, by simp⟩
  rw [← h (key x)] at h1
  exact (List.mem_filter.1 h1).1
/-- Two parts with no common key can be exchanged. -/
theorem Stab.swap {a b : List α} (h : ∀ x ∈ a, ∀ y ∈ b, key y < key x) : Stab key (a ++ b) (b ++ a) := fun v => by
  rw [List.filter_append, List.filter_append]
  by_cases hb : b.filter (fun x => key x == v) = []
  · rw [hb]; simp
  · have ha : a.filter (fun x => key x == v) = [] := List.filter_eq_nil_iff.2 fun x hx hk => by
      obtain ⟨y, hy⟩ := List.exists_mem_of_ne_nil _ hb
      obtain ⟨hy1, hy2⟩ := List.mem_filter.1 hy
      have := h x hx y hy1
      simp at hk hy2
      omega
    rw [ha]; simp
theorem srt_app {a b : List α} : Srt key (a ++ b) ↔ Srt key a ∧ Srt key b ∧ ∀ x ∈ a, ∀ y ∈ b, key x ≤ key y := List.pairwise_append
end
/-! ### Places in a list of parts -/
section
variable {α : Type}
theorem get_at {p s : List α} {x : α} {i : Nat} (hi : i = p.length) (h : i < (p ++ x :: s).length) : (p ++ x :: s)[i] = x := by subst hi; simp
theorem set_at {p s : List α} {x y : α} {i : Nat} (hi : i = p.length) : (p ++ x :: s).set i y = p ++ y :: s := by subst hi; simp
end
theorem half_is {a b : Nat} (h : a + b < 4611686018427387904) {β : Type} {K : Int → Option β} {Q : β → Prop} (hk : Yes (K (((a + b) / 2 : Nat) : Int)) Q) : Yes ((shr64 (wu64 (w64 ((a : Int) + (b : Int)))) (1 : Int)).bind K) Q := by
  refine Yes.bind (Yes.of (a := (((a + b) / 2 : Nat) : Int)) ?_ hk)
  rw [w64_id (by omega) (by omega), show ((a : Int) + (b : Int)) = ((a + b : Nat) : Int) by omega, wu64_id (by omega) (by omega)]
  have := shr_bit (a := a + b) (h := 1) (by decide)
  rw [show ((1 : Nat) : Int) = 1 from rfl] at this
  rw [this]
  congr 2
theorem w64_nat {n : Nat} (h : n < 9223372036854775807) : w64 (n : Int) = (n : Int) := w64_id (by omega) (by omega)
end Go.Proofs.Ytpiaipiehjcflaa
