/- Insertion sort by a key. -/
import Derived.Test.YtnfjhdagbknlbaaLawC
set_option maxRecDepth 8000
namespace Go.Proofs.Ytnfjhdagbknlbaa
open Go.RowKit
abbrev El := Int

/-! ### Lists by a key -/
section
variable {α : Type} (key : α → Int)
/-- The same elements, and those of one key in the same order. -/
def Stab (xs ys : List α) : Prop := ∀ v : Int, xs.filter (fun x => key x == v) = ys.filter (fun x => key x == v)
def Srt (xs : List α) : Prop := xs.Pairwise fun a b => key a ≤ key b
variable {key}
theorem Stab.refl (xs : List α) : Stab key xs xs := fun _ => rfl
theorem Stab.trans {xs ys zs : List α} (h : Stab key xs ys) (k : Stab key ys zs) : Stab key xs zs := fun v => (h v).trans (k v)
theorem Stab.app {a a' b b' : List α} (h : Stab key a a') (k : Stab key b b') : Stab key (a ++ b) (a' ++ b') := fun v => by rw [List.filter_append, List.filter_append, h v, k v]
end
/-! ### Places in a list of parts -/
section
variable {α : Type}
end
section
variable {β : Type} {Q : β → Prop} {K : List El → Option β} {m A B C : List El} {u v : El} {a b : Int}
end
end Go.Proofs.Ytnfjhdagbknlbaa
