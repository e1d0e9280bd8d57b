/- Insertion sort by a key. -/
import Derived.Test.YtnfjhdagbknlbaaLawH
set_option maxRecDepth 8000
namespace Go.Proofs.Ytnfjhdagbknlbaa
open Go.RowKit
abbrev El := Int

/-! ### Lists by a key -/
section
variable {α : Type} (key : α → Int)
def Stab (xs ys : List α) : Prop := ∀ v : Int, xs.filter (fun x => key x == v) = ys.filter (fun x => key x == v)
def Srt (xs : List α) : Prop := xs.Pairwise fun a b => key a ≤ key b
variable {key}
theorem Stab.refl (xs : List α) : Stab key xs xs := fun _ => rfl
theorem Stab.trans {xs ys zs : List α} (h : Stab key xs ys) (k : Stab key ys zs) : Stab key xs zs := fun v => (h v).trans (k v)
theorem Stab.app {a a' b b' : List α} (h : Stab key a a') (k : Stab key b b') : Stab key (a ++ b) (a' ++ b') := fun v => by rw [List.filter_append, List.filter_append, h v, k v]
end
/-! ### Places in a list of parts -/
section
variable {α : Type}
end
section
variable {β : Type} {Q : β → Prop} {K : List El → Option β} {m A B C : List El} {u v : El} {a b : Int}
end
end Go.Proofs.Ytnfjhdagbknlbaa
/- Sorting by a key at 12 elements or fewer. -/
set_option maxRecDepth 8000
namespace Go.Proofs.Ytnfjhdagbknlbaa
open Go.RowKit

theorem wu64_id {n : Int} (h1 : 0 ≤ n) (h2 : n ≤ 18446744073709551615) : wu64 n = n := by
 unfold wu64; rw [IntKind.wrap_u64]; omega
theorem Stab.one {α : Type} {key : α → Int} {xs ys : List α} (h : Stab key xs ys) (hd : xs.Pairwise fun a b => key a ≠ key b) (hs : Srt key ys) : ys.Pairwise fun a b => key a < key b := by
 have h1 : ∀ v : Int, (ys.filter fun x => key x == v).length ≤ 1 := fun v => by
  rw [← h v]
  clear h hs
  induction xs with
  | nil => simp
  | cons a xs ih =>
   obtain ⟨h2, h3⟩ := List.pairwise_cons.1 hd
   rw [List.filter_cons]
   split
   ·rename_i hav
    have : xs.filter (fun x => key x == v) = [] := List.filter_eq_nil_iff.2 fun x hx hk => h2 x hx (by simp at hav hk; omega)
    rw [this]; simp
   ·exact ih h3
 clear h hd
 induction ys with
 | nil => exact .nil
 | cons a ys ih =>
  obtain ⟨h2, h3⟩ := List.pairwise_cons.1 hs
  refine List.pairwise_cons.2 ⟨fun b hb => ?_, ih h3 fun v => by
   have := h1 v
   rw [List.filter_cons] at this
   split at this
   ·rw [List.length_cons] at this; omega
   ·exact this⟩
  have h4 := h2 b hb
  have h5 := h1 (key a)
  rw [List.filter_cons] at h5
  simp at h5
  have := h5 b hb
  omega
end Go.Proofs.Ytnfjhdagbknlbaa
/- A loom's row: its runs, by their first days. -/
set_option maxRecDepth 8000
namespace Go.Proofs.Ytnfjhdagbknlbaa
open Go.RowKit

def bef (x y : LoomRun) : Prop := x.From < y.From ∨ x.From = y.From ∧ x.Order < y.Order
instance (x y : LoomRun) : Decidable (bef x y) := inferInstanceAs (Decidable (_ ∨ _))
structure Runs (m : LoomMill) (l : List LoomOrder) (r : List LoomRun) : Prop where
 r7 : r.length ≤ 7
 inR : ∀ i, i < r.length → inR m l (rn r i)
 up : ∀ i j, i < j → j < r.length → (rn r i).Order < (rn r j).Order
theorem s90 (x y : Int) : f90 x y = some (if x < y then -1 else if x > y then 1 else 0) := by
 unfold f90 f102
 by_cases h1 : x < y <;> by_cases h2 : x > y <;> simp [jn, h1, h2]
end Go.Proofs.Ytnfjhdagbknlbaa
/- A run that begins too soon behind the one before it on its loom: the two programs agree. -/
set_option maxRecDepth 8000
namespace Go.Proofs.Ytnfjhdagbknlbaa
open Go.RowKit
open Classical

theorem Runs.ne {m : LoomMill} {l : List LoomOrder} {r : List LoomRun} (R : Runs m l r) {i j : Nat} (hi : i < r.length) (hj : j < r.length) (h : i ≠ j) : (rn r i).Order ≠ (rn r j).Order := by
 rcases Nat.lt_or_gt_of_ne h with h | h
 ·have := R.up i j h hj; omega
 ·have := R.up j i h hi; omega
theorem Yes.bindv {α β : Type} {x : Option α} {f : α → Option β} {Q : β → Prop} (a : α) (h : x = Option.some a) (k : Yes (f a) Q) : Yes (Option.bind x f) Q := by rw [h]; exact k
end Go.Proofs.Ytnfjhdagbknlbaa
