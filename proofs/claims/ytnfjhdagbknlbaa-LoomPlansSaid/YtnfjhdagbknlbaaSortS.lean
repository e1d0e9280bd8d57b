/- Sorting by a key at 12 elements or fewer. -/
import Derived.Test.YtnfjhdagbknlbaaSortR
set_option maxRecDepth 8000
namespace Go.Proofs.Ytnfjhdagbknlbaa
open Go.RowKit

theorem Stab.one {α : Type} {key : α → Int} {xs ys : List α} (h : Stab key xs ys) (hd : xs.Pairwise fun a b => key a ≠ key b) (hs : Srt key ys) : ys.Pairwise fun a b => key a < key b := by
  have h1 : ∀ v : Int, (ys.filter fun x => key x == v).length ≤ 1 := fun v => by
    rw [← h v]
    clear h hs
    induction xs with
    | nil => simp
    | cons a xs ih =>
      obtain ⟨h2, h3⟩ := List.pairwise_cons.1 hd
      rw [List.filter_cons]
      split
      · rename_i hav
        have : xs.filter (fun x => key x == v) = [] := List.filter_eq_nil_iff.2 fun x hx hk => h2 x hx (by simp at hav hk; omega)
        rw [this]; simp
      · exact ih h3
  clear h hd
  induction ys with
  | nil => exact .nil
  | cons a ys ih =>
    obtain ⟨h2, h3⟩ := List.pairwise_cons.1 hs
    refine List.pairwise_cons.2 ⟨fun b hb => ?_, ih h3 fun v => by
      have := h1 v
      rw [List.filter_cons] at this
      split at this
      · rw [List.length_cons] at this; omega
      · exact this⟩
    have h4 := h2 b hb
    have h5 := h1 (key a)
    rw [List.filter_cons] at h5
    simp at h5
    have := h5 b hb
    omega
end Go.Proofs.Ytnfjhdagbknlbaa
