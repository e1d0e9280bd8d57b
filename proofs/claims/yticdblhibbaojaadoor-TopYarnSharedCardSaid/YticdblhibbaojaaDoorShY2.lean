/- Laws of plain functions, part 2. -/
import Derived.Test.YticdblhibbaojaaDoorShY1
set_option maxRecDepth 8000
namespace Go.Proofs.YticdblhibbaojaaDoor
open Go.RowKit
open Classical
section
variable {α : Type} (key : α → Int)
variable {α : Type} (key : α → Int)
variable {α : Type} (key : α → Int)
variable {key}
variable {α : Type} (key : α → Int)
variable {key}
variable {α : Type} (key : α → Int)
variable {key}
variable {α : Type} (key : α → Int)
variable {key}
variable {α : Type} (key : α → Int)
variable {key}
variable {α : Type} (key : α → Int)
variable {key}
variable {α : Type} (key : α → Int)
variable {key}
variable {α : Type}
variable {α : Type} (key : α → Int)
variable {key}
variable {α : Type}
variable {α : Type} (key : α → Int)
variable {key}
variable {α : Type}
variable {β : Type} {Q : β → Prop} {K : List ElS → Option β} {m A B C : List ElS} {u v : ElS} {a b : Int}
variable {α : Type} (key : α → Int)
variable {key}
variable {α : Type}
variable {β : Type} {Q : β → Prop} {K : List ElS → Option β} {m A B C : List ElS} {u v : ElS} {a b : Int}
variable {α : Type} (key : α → Int)
variable {key}
variable {α : Type}
variable {β : Type} {Q : β → Prop} {K : List ElS → Option β} {m A B C : List ElS} {u v : ElS} {a b : Int}
variable {α : Type} (key : α → Int)
variable {key}
variable {α : Type}
variable {β : Type} {Q : β → Prop} {K : List ElS → Option β} {m A B C : List ElS} {u v : ElS} {a b : Int}
variable {α : Type} (key : α → Int)
variable {key}
variable {α : Type}
variable {β : Type} {Q : β → Prop} {K : List ElS → Option β} {m A B C : List ElS} {u v : ElS} {a b : Int}
variable {α : Type} (key : α → Int)
variable {key}
variable {α : Type}
variable {β : Type} {Q : β → Prop} {K : List ElS → Option β} {m A B C : List ElS} {u v : ElS} {a b : Int}
variable {key : Int → Int} {n : Nat} {o : List Int}
variable {key : Int → Int} {n : Nat} {o : List Int}
variable {key : Int → Int} {n : Nat} {o : List Int}
variable {key : Int → Int} {n : Nat} {o : List Int}
variable {key : Int → Int} {n : Nat} {o : List Int}
variable {key : Int → Int} {n : Nat} {o : List Int}
variable {key : Int → Int} {n : Nat} {o : List Int}
variable {key : Int → Int} {n : Nat} {o : List Int}
variable {key : Int → Int} {n : Nat} {o : List Int}
variable {key : Int → Int} {n : Nat} {o : List Int}
variable {key : Int → Int} {n : Nat} {o : List Int}
variable {key : Int → Int} {n : Nat} {o : List Int}
variable {key : Int → Int} {n : Nat} {o : List Int}
def leftSS (m : Int) (ps : List Int) : Int := m - ((rngS ps.length).map (quoSS m ps)).sum
end
section
variable {α : Type} (key : α → Int)
variable {α : Type} (key : α → Int)
variable {α : Type} (key : α → Int)
variable {key}
variable {α : Type} (key : α → Int)
variable {key}
variable {α : Type} (key : α → Int)
variable {key}
variable {α : Type} (key : α → Int)
variable {key}
variable {α : Type} (key : α → Int)
variable {key}
variable {α : Type} (key : α → Int)
variable {key}
variable {α : Type} (key : α → Int)
variable {key}
variable {α : Type}
variable {α : Type} (key : α → Int)
variable {key}
variable {α : Type}
variable {α : Type} (key : α → Int)
variable {key}
variable {α : Type}
variable {β : Type} {Q : β → Prop} {K : List ElS → Option β} {m A B C : List ElS} {u v : ElS} {a b : Int}
variable {α : Type} (key : α → Int)
variable {key}
variable {α : Type}
variable {β : Type} {Q : β → Prop} {K : List ElS → Option β} {m A B C : List ElS} {u v : ElS} {a b : Int}
variable {α : Type} (key : α → Int)
variable {key}
variable {α : Type}
variable {β : Type} {Q : β → Prop} {K : List ElS → Option β} {m A B C : List ElS} {u v : ElS} {a b : Int}
variable {α : Type} (key : α → Int)
variable {key}
variable {α : Type}
variable {β : Type} {Q : β → Prop} {K : List ElS → Option β} {m A B C : List ElS} {u v : ElS} {a b : Int}
variable {α : Type} (key : α → Int)
variable {key}
variable {α : Type}
variable {β : Type} {Q : β → Prop} {K : List ElS → Option β} {m A B C : List ElS} {u v : ElS} {a b : Int}
variable {α : Type} (key : α → Int)
variable {key}
variable {α : Type}
variable {β : Type} {Q : β → Prop} {K : List ElS → Option β} {m A B C : List ElS} {u v : ElS} {a b : Int}
variable {key : Int → Int} {n : Nat} {o : List Int}
variable {key : Int → Int} {n : Nat} {o : List Int}
variable {key : Int → Int} {n : Nat} {o : List Int}
variable {key : Int → Int} {n : Nat} {o : List Int}
variable {key : Int → Int} {n : Nat} {o : List Int}
variable {key : Int → Int} {n : Nat} {o : List Int}
variable {key : Int → Int} {n : Nat} {o : List Int}
variable {key : Int → Int} {n : Nat} {o : List Int}
variable {key : Int → Int} {n : Nat} {o : List Int}
variable {key : Int → Int} {n : Nat} {o : List Int}
variable {key : Int → Int} {n : Nat} {o : List Int}
variable {key : Int → Int} {n : Nat} {o : List Int}
variable {key : Int → Int} {n : Nat} {o : List Int}
variable {key : Int → Int} {n : Nat} {o : List Int}
structure GoodS (m : Int) (ps : List Int) : Prop where
 m0 : 0 ≤ m
 m1 : m ≤ 1000000000
 l : ps.length ≤ 10
 p : ∀ x ∈ ps, 0 ≤ x ∧ x ≤ 1000
 s : 0 < ps.sum
end
section
variable {α : Type} (key : α → Int)
variable {α : Type} (key : α → Int)
variable {α : Type} (key : α → Int)
variable {key}
variable {α : Type} (key : α → Int)
variable {key}
variable {α : Type} (key : α → Int)
variable {key}
variable {α : Type} (key : α → Int)
variable {key}
variable {α : Type} (key : α → Int)
variable {key}
variable {α : Type} (key : α → Int)
variable {key}
variable {α : Type} (key : α → Int)
variable {key}
variable {α : Type}
variable {α : Type} (key : α → Int)
variable {key}
variable {α : Type}
variable {α : Type} (key : α → Int)
variable {key}
variable {α : Type}
variable {β : Type} {Q : β → Prop} {K : List ElS → Option β} {m A B C : List ElS} {u v : ElS} {a b : Int}
variable {α : Type} (key : α → Int)
variable {key}
variable {α : Type}
variable {β : Type} {Q : β → Prop} {K : List ElS → Option β} {m A B C : List ElS} {u v : ElS} {a b : Int}
variable {α : Type} (key : α → Int)
variable {key}
variable {α : Type}
variable {β : Type} {Q : β → Prop} {K : List ElS → Option β} {m A B C : List ElS} {u v : ElS} {a b : Int}
variable {α : Type} (key : α → Int)
variable {key}
variable {α : Type}
variable {β : Type} {Q : β → Prop} {K : List ElS → Option β} {m A B C : List ElS} {u v : ElS} {a b : Int}
variable {α : Type} (key : α → Int)
variable {key}
variable {α : Type}
variable {β : Type} {Q : β → Prop} {K : List ElS → Option β} {m A B C : List ElS} {u v : ElS} {a b : Int}
variable {α : Type} (key : α → Int)
variable {key}
variable {α : Type}
variable {β : Type} {Q : β → Prop} {K : List ElS → Option β} {m A B C : List ElS} {u v : ElS} {a b : Int}
variable {key : Int → Int} {n : Nat} {o : List Int}
variable {key : Int → Int} {n : Nat} {o : List Int}
variable {key : Int → Int} {n : Nat} {o : List Int}
variable {key : Int → Int} {n : Nat} {o : List Int}
variable {key : Int → Int} {n : Nat} {o : List Int}
variable {key : Int → Int} {n : Nat} {o : List Int}
variable {key : Int → Int} {n : Nat} {o : List Int}
variable {key : Int → Int} {n : Nat} {o : List Int}
variable {key : Int → Int} {n : Nat} {o : List Int}
variable {key : Int → Int} {n : Nat} {o : List Int}
variable {key : Int → Int} {n : Nat} {o : List Int}
variable {key : Int → Int} {n : Nat} {o : List Int}
variable {key : Int → Int} {n : Nat} {o : List Int}
variable {key : Int → Int} {n : Nat} {o : List Int}
variable {key : Int → Int} {n : Nat} {o : List Int}
theorem sum_boundS : ∀ {ps : List Int}, (∀ x ∈ ps, 0 ≤ x ∧ x ≤ 1000) → 0 ≤ ps.sum ∧ ps.sum ≤ 1000 * ps.length
 | [], _ => by simp
 | x :: ps, h => by
  have h1 := h x (by simp)
  have h2 := sum_boundS (ps := ps) fun y hy => h y (by simp [hy])
  simp only [List.sum_cons, List.length_cons]; omega
end
section
variable {α : Type} (key : α → Int)
variable {α : Type} (key : α → Int)
variable {α : Type} (key : α → Int)
variable {key}
variable {α : Type} (key : α → Int)
variable {key}
variable {α : Type} (key : α → Int)
variable {key}
variable {α : Type} (key : α → Int)
variable {key}
variable {α : Type} (key : α → Int)
variable {key}
variable {α : Type} (key : α → Int)
variable {key}
variable {α : Type} (key : α → Int)
variable {key}
variable {α : Type}
variable {α : Type} (key : α → Int)
variable {key}
variable {α : Type}
variable {α : Type} (key : α → Int)
variable {key}
variable {α : Type}
variable {β : Type} {Q : β → Prop} {K : List ElS → Option β} {m A B C : List ElS} {u v : ElS} {a b : Int}
variable {α : Type} (key : α → Int)
variable {key}
variable {α : Type}
variable {β : Type} {Q : β → Prop} {K : List ElS → Option β} {m A B C : List ElS} {u v : ElS} {a b : Int}
variable {α : Type} (key : α → Int)
variable {key}
variable {α : Type}
variable {β : Type} {Q : β → Prop} {K : List ElS → Option β} {m A B C : List ElS} {u v : ElS} {a b : Int}
variable {α : Type} (key : α → Int)
variable {key}
variable {α : Type}
variable {β : Type} {Q : β → Prop} {K : List ElS → Option β} {m A B C : List ElS} {u v : ElS} {a b : Int}
variable {α : Type} (key : α → Int)
variable {key}
variable {α : Type}
variable {β : Type} {Q : β → Prop} {K : List ElS → Option β} {m A B C : List ElS} {u v : ElS} {a b : Int}
variable {α : Type} (key : α → Int)
variable {key}
variable {α : Type}
variable {β : Type} {Q : β → Prop} {K : List ElS → Option β} {m A B C : List ElS} {u v : ElS} {a b : Int}
variable {key : Int → Int} {n : Nat} {o : List Int}
variable {key : Int → Int} {n : Nat} {o : List Int}
variable {key : Int → Int} {n : Nat} {o : List Int}
variable {key : Int → Int} {n : Nat} {o : List Int}
variable {key : Int → Int} {n : Nat} {o : List Int}
variable {key : Int → Int} {n : Nat} {o : List Int}
variable {key : Int → Int} {n : Nat} {o : List Int}
variable {key : Int → Int} {n : Nat} {o : List Int}
variable {key : Int → Int} {n : Nat} {o : List Int}
variable {key : Int → Int} {n : Nat} {o : List Int}
variable {key : Int → Int} {n : Nat} {o : List Int}
variable {key : Int → Int} {n : Nat} {o : List Int}
variable {key : Int → Int} {n : Nat} {o : List Int}
variable {key : Int → Int} {n : Nat} {o : List Int}
variable {key : Int → Int} {n : Nat} {o : List Int}
variable {key : Int → Int} {n : Nat} {o : List Int}
variable {m : Int} {ps : List Int}
theorem GoodS.at (g : GoodS m ps) (i : Int) : 0 ≤ ps.getD i.toNat 0 ∧ ps.getD i.toNat 0 ≤ 1000 := by
 rw [List.getD_eq_getElem?_getD]
 rcases Nat.lt_or_ge i.toNat ps.length with h | h
 ·rw [List.getElem?_eq_getElem h]; exact g.p _ (List.getElem_mem h)
 ·rw [List.getElem?_eq_none h]; simp
end
section
variable {α : Type} (key : α → Int)
variable {α : Type} (key : α → Int)
variable {α : Type} (key : α → Int)
variable {key}
variable {α : Type} (key : α → Int)
variable {key}
variable {α : Type} (key : α → Int)
variable {key}
variable {α : Type} (key : α → Int)
variable {key}
variable {α : Type} (key : α → Int)
variable {key}
variable {α : Type} (key : α → Int)
variable {key}
variable {α : Type} (key : α → Int)
variable {key}
variable {α : Type}
variable {α : Type} (key : α → Int)
variable {key}
variable {α : Type}
variable {α : Type} (key : α → Int)
variable {key}
variable {α : Type}
variable {β : Type} {Q : β → Prop} {K : List ElS → Option β} {m A B C : List ElS} {u v : ElS} {a b : Int}
variable {α : Type} (key : α → Int)
variable {key}
variable {α : Type}
variable {β : Type} {Q : β → Prop} {K : List ElS → Option β} {m A B C : List ElS} {u v : ElS} {a b : Int}
variable {α : Type} (key : α → Int)
variable {key}
variable {α : Type}
variable {β : Type} {Q : β → Prop} {K : List ElS → Option β} {m A B C : List ElS} {u v : ElS} {a b : Int}
variable {α : Type} (key : α → Int)
variable {key}
variable {α : Type}
variable {β : Type} {Q : β → Prop} {K : List ElS → Option β} {m A B C : List ElS} {u v : ElS} {a b : Int}
variable {α : Type} (key : α → Int)
variable {key}
variable {α : Type}
variable {β : Type} {Q : β → Prop} {K : List ElS → Option β} {m A B C : List ElS} {u v : ElS} {a b : Int}
variable {α : Type} (key : α → Int)
variable {key}
variable {α : Type}
variable {β : Type} {Q : β → Prop} {K : List ElS → Option β} {m A B C : List ElS} {u v : ElS} {a b : Int}
variable {key : Int → Int} {n : Nat} {o : List Int}
variable {key : Int → Int} {n : Nat} {o : List Int}
variable {key : Int → Int} {n : Nat} {o : List Int}
variable {key : Int → Int} {n : Nat} {o : List Int}
variable {key : Int → Int} {n : Nat} {o : List Int}
variable {key : Int → Int} {n : Nat} {o : List Int}
variable {key : Int → Int} {n : Nat} {o : List Int}
variable {key : Int → Int} {n : Nat} {o : List Int}
variable {key : Int → Int} {n : Nat} {o : List Int}
variable {key : Int → Int} {n : Nat} {o : List Int}
variable {key : Int → Int} {n : Nat} {o : List Int}
variable {key : Int → Int} {n : Nat} {o : List Int}
variable {key : Int → Int} {n : Nat} {o : List Int}
variable {key : Int → Int} {n : Nat} {o : List Int}
variable {key : Int → Int} {n : Nat} {o : List Int}
variable {key : Int → Int} {n : Nat} {o : List Int}
variable {m : Int} {ps : List Int}
variable {key : Int → Int} {n : Nat} {o : List Int}
variable {m : Int} {ps : List Int}
theorem GoodS.prod (g : GoodS m ps) (i : Int) : 0 ≤ m * ps.getD i.toNat 0 ∧ m * ps.getD i.toNat 0 ≤ 1000000000000 := by
 have h := g.at i
 have := mul_leS g.m0 g.m1 h.1 h.2
 omega
end
section
variable {α : Type} (key : α → Int)
variable {α : Type} (key : α → Int)
variable {α : Type} (key : α → Int)
variable {key}
variable {α : Type} (key : α → Int)
variable {key}
variable {α : Type} (key : α → Int)
variable {key}
variable {α : Type} (key : α → Int)
variable {key}
variable {α : Type} (key : α → Int)
variable {key}
variable {α : Type} (key : α → Int)
variable {key}
variable {α : Type} (key : α → Int)
variable {key}
variable {α : Type}
variable {α : Type} (key : α → Int)
variable {key}
variable {α : Type}
variable {α : Type} (key : α → Int)
variable {key}
variable {α : Type}
variable {β : Type} {Q : β → Prop} {K : List ElS → Option β} {m A B C : List ElS} {u v : ElS} {a b : Int}
variable {α : Type} (key : α → Int)
variable {key}
variable {α : Type}
variable {β : Type} {Q : β → Prop} {K : List ElS → Option β} {m A B C : List ElS} {u v : ElS} {a b : Int}
variable {α : Type} (key : α → Int)
variable {key}
variable {α : Type}
variable {β : Type} {Q : β → Prop} {K : List ElS → Option β} {m A B C : List ElS} {u v : ElS} {a b : Int}
variable {α : Type} (key : α → Int)
variable {key}
variable {α : Type}
variable {β : Type} {Q : β → Prop} {K : List ElS → Option β} {m A B C : List ElS} {u v : ElS} {a b : Int}
variable {α : Type} (key : α → Int)
variable {key}
variable {α : Type}
variable {β : Type} {Q : β → Prop} {K : List ElS → Option β} {m A B C : List ElS} {u v : ElS} {a b : Int}
variable {α : Type} (key : α → Int)
variable {key}
variable {α : Type}
variable {β : Type} {Q : β → Prop} {K : List ElS → Option β} {m A B C : List ElS} {u v : ElS} {a b : Int}
variable {key : Int → Int} {n : Nat} {o : List Int}
variable {key : Int → Int} {n : Nat} {o : List Int}
variable {key : Int → Int} {n : Nat} {o : List Int}
variable {key : Int → Int} {n : Nat} {o : List Int}
variable {key : Int → Int} {n : Nat} {o : List Int}
variable {key : Int → Int} {n : Nat} {o : List Int}
variable {key : Int → Int} {n : Nat} {o : List Int}
variable {key : Int → Int} {n : Nat} {o : List Int}
variable {key : Int → Int} {n : Nat} {o : List Int}
variable {key : Int → Int} {n : Nat} {o : List Int}
variable {key : Int → Int} {n : Nat} {o : List Int}
variable {key : Int → Int} {n : Nat} {o : List Int}
variable {key : Int → Int} {n : Nat} {o : List Int}
variable {key : Int → Int} {n : Nat} {o : List Int}
variable {key : Int → Int} {n : Nat} {o : List Int}
variable {key : Int → Int} {n : Nat} {o : List Int}
variable {m : Int} {ps : List Int}
variable {key : Int → Int} {n : Nat} {o : List Int}
variable {m : Int} {ps : List Int}
variable {key : Int → Int} {n : Nat} {o : List Int}
variable {m : Int} {ps : List Int}
theorem GoodS.sum (g : GoodS m ps) : ps.sum ≤ 10000 := by have := (sum_boundS g.p).2; have := g.l; omega
end
section
variable {α : Type} (key : α → Int)
variable {α : Type} (key : α → Int)
variable {α : Type} (key : α → Int)
variable {key}
variable {α : Type} (key : α → Int)
variable {key}
variable {α : Type} (key : α → Int)
variable {key}
variable {α : Type} (key : α → Int)
variable {key}
variable {α : Type} (key : α → Int)
variable {key}
variable {α : Type} (key : α → Int)
variable {key}
variable {α : Type} (key : α → Int)
variable {key}
variable {α : Type}
variable {α : Type} (key : α → Int)
variable {key}
variable {α : Type}
variable {α : Type} (key : α → Int)
variable {key}
variable {α : Type}
variable {β : Type} {Q : β → Prop} {K : List ElS → Option β} {m A B C : List ElS} {u v : ElS} {a b : Int}
variable {α : Type} (key : α → Int)
variable {key}
variable {α : Type}
variable {β : Type} {Q : β → Prop} {K : List ElS → Option β} {m A B C : List ElS} {u v : ElS} {a b : Int}
variable {α : Type} (key : α → Int)
variable {key}
variable {α : Type}
variable {β : Type} {Q : β → Prop} {K : List ElS → Option β} {m A B C : List ElS} {u v : ElS} {a b : Int}
variable {α : Type} (key : α → Int)
variable {key}
variable {α : Type}
variable {β : Type} {Q : β → Prop} {K : List ElS → Option β} {m A B C : List ElS} {u v : ElS} {a b : Int}
variable {α : Type} (key : α → Int)
variable {key}
variable {α : Type}
variable {β : Type} {Q : β → Prop} {K : List ElS → Option β} {m A B C : List ElS} {u v : ElS} {a b : Int}
variable {α : Type} (key : α → Int)
variable {key}
variable {α : Type}
variable {β : Type} {Q : β → Prop} {K : List ElS → Option β} {m A B C : List ElS} {u v : ElS} {a b : Int}
variable {key : Int → Int} {n : Nat} {o : List Int}
variable {key : Int → Int} {n : Nat} {o : List Int}
variable {key : Int → Int} {n : Nat} {o : List Int}
variable {key : Int → Int} {n : Nat} {o : List Int}
variable {key : Int → Int} {n : Nat} {o : List Int}
variable {key : Int → Int} {n : Nat} {o : List Int}
variable {key : Int → Int} {n : Nat} {o : List Int}
variable {key : Int → Int} {n : Nat} {o : List Int}
variable {key : Int → Int} {n : Nat} {o : List Int}
variable {key : Int → Int} {n : Nat} {o : List Int}
variable {key : Int → Int} {n : Nat} {o : List Int}
variable {key : Int → Int} {n : Nat} {o : List Int}
variable {key : Int → Int} {n : Nat} {o : List Int}
variable {key : Int → Int} {n : Nat} {o : List Int}
variable {key : Int → Int} {n : Nat} {o : List Int}
variable {key : Int → Int} {n : Nat} {o : List Int}
variable {m : Int} {ps : List Int}
variable {key : Int → Int} {n : Nat} {o : List Int}
variable {m : Int} {ps : List Int}
variable {key : Int → Int} {n : Nat} {o : List Int}
variable {m : Int} {ps : List Int}
variable {key : Int → Int} {n : Nat} {o : List Int}
variable {m : Int} {ps : List Int}
theorem idx_atS {i : Int} (h : 0 ≤ i ∧ i < (ps.length : Int)) : idx ps i = some (ps.getD i.toNat 0) := by
 have hl : i.toNat < ps.length := by omega
 unfold idx; rw [if_pos h.1, List.getD_eq_getElem?_getD, List.getElem?_eq_getElem hl]; rfl
end
section
variable {α : Type} (key : α → Int)
variable {α : Type} (key : α → Int)
variable {α : Type} (key : α → Int)
variable {key}
variable {α : Type} (key : α → Int)
variable {key}
variable {α : Type} (key : α → Int)
variable {key}
variable {α : Type} (key : α → Int)
variable {key}
variable {α : Type} (key : α → Int)
variable {key}
variable {α : Type} (key : α → Int)
variable {key}
variable {α : Type} (key : α → Int)
variable {key}
variable {α : Type}
variable {α : Type} (key : α → Int)
variable {key}
variable {α : Type}
variable {α : Type} (key : α → Int)
variable {key}
variable {α : Type}
variable {β : Type} {Q : β → Prop} {K : List ElS → Option β} {m A B C : List ElS} {u v : ElS} {a b : Int}
variable {α : Type} (key : α → Int)
variable {key}
variable {α : Type}
variable {β : Type} {Q : β → Prop} {K : List ElS → Option β} {m A B C : List ElS} {u v : ElS} {a b : Int}
variable {α : Type} (key : α → Int)
variable {key}
variable {α : Type}
variable {β : Type} {Q : β → Prop} {K : List ElS → Option β} {m A B C : List ElS} {u v : ElS} {a b : Int}
variable {α : Type} (key : α → Int)
variable {key}
variable {α : Type}
variable {β : Type} {Q : β → Prop} {K : List ElS → Option β} {m A B C : List ElS} {u v : ElS} {a b : Int}
variable {α : Type} (key : α → Int)
variable {key}
variable {α : Type}
variable {β : Type} {Q : β → Prop} {K : List ElS → Option β} {m A B C : List ElS} {u v : ElS} {a b : Int}
variable {α : Type} (key : α → Int)
variable {key}
variable {α : Type}
variable {β : Type} {Q : β → Prop} {K : List ElS → Option β} {m A B C : List ElS} {u v : ElS} {a b : Int}
variable {key : Int → Int} {n : Nat} {o : List Int}
variable {key : Int → Int} {n : Nat} {o : List Int}
variable {key : Int → Int} {n : Nat} {o : List Int}
variable {key : Int → Int} {n : Nat} {o : List Int}
variable {key : Int → Int} {n : Nat} {o : List Int}
variable {key : Int → Int} {n : Nat} {o : List Int}
variable {key : Int → Int} {n : Nat} {o : List Int}
variable {key : Int → Int} {n : Nat} {o : List Int}
variable {key : Int → Int} {n : Nat} {o : List Int}
variable {key : Int → Int} {n : Nat} {o : List Int}
variable {key : Int → Int} {n : Nat} {o : List Int}
variable {key : Int → Int} {n : Nat} {o : List Int}
variable {key : Int → Int} {n : Nat} {o : List Int}
variable {key : Int → Int} {n : Nat} {o : List Int}
variable {key : Int → Int} {n : Nat} {o : List Int}
variable {key : Int → Int} {n : Nat} {o : List Int}
variable {m : Int} {ps : List Int}
variable {key : Int → Int} {n : Nat} {o : List Int}
variable {m : Int} {ps : List Int}
variable {key : Int → Int} {n : Nat} {o : List Int}
variable {m : Int} {ps : List Int}
variable {key : Int → Int} {n : Nat} {o : List Int}
variable {m : Int} {ps : List Int}
variable {key : Int → Int} {n : Nat} {o : List Int}
variable {m : Int} {ps : List Int}
theorem s23S (g : GoodS m ps) {i k : Int} (hi : 0 ≤ i ∧ i < (ps.length : Int)) (hk : 0 ≤ k ∧ k < (ps.length : Int)) : f19 i k m ps ps.sum = some (if remSS m ps k < remSS m ps i then -1 else if remSS m ps i < remSS m ps k then 1 else 0) := by
 have e1 := g.prod i; have e2 := g.prod k
 unfold f19
 rw [idx_atS hk, idx_atS hi]
 simp only [Option.bind_some]
 rw [w64_id (n := m * ps.getD k.toNat 0) (by omega) (by omega), w64_id (n := m * ps.getD i.toNat 0) (by omega) (by omega), qremS e2.1 g.s, qremS e1.1 g.s]
 simp only [Option.bind_some]
 rw [s24S]; rfl
end
section
variable {α : Type} (key : α → Int)
variable {α : Type} (key : α → Int)
variable {α : Type} (key : α → Int)
variable {key}
variable {α : Type} (key : α → Int)
variable {key}
variable {α : Type} (key : α → Int)
variable {key}
variable {α : Type} (key : α → Int)
variable {key}
variable {α : Type} (key : α → Int)
variable {key}
variable {α : Type} (key : α → Int)
variable {key}
variable {α : Type} (key : α → Int)
variable {key}
variable {α : Type}
variable {α : Type} (key : α → Int)
variable {key}
variable {α : Type}
variable {α : Type} (key : α → Int)
variable {key}
variable {α : Type}
variable {β : Type} {Q : β → Prop} {K : List ElS → Option β} {m A B C : List ElS} {u v : ElS} {a b : Int}
variable {α : Type} (key : α → Int)
variable {key}
variable {α : Type}
variable {β : Type} {Q : β → Prop} {K : List ElS → Option β} {m A B C : List ElS} {u v : ElS} {a b : Int}
variable {α : Type} (key : α → Int)
variable {key}
variable {α : Type}
variable {β : Type} {Q : β → Prop} {K : List ElS → Option β} {m A B C : List ElS} {u v : ElS} {a b : Int}
variable {α : Type} (key : α → Int)
variable {key}
variable {α : Type}
variable {β : Type} {Q : β → Prop} {K : List ElS → Option β} {m A B C : List ElS} {u v : ElS} {a b : Int}
variable {α : Type} (key : α → Int)
variable {key}
variable {α : Type}
variable {β : Type} {Q : β → Prop} {K : List ElS → Option β} {m A B C : List ElS} {u v : ElS} {a b : Int}
variable {α : Type} (key : α → Int)
variable {key}
variable {α : Type}
variable {β : Type} {Q : β → Prop} {K : List ElS → Option β} {m A B C : List ElS} {u v : ElS} {a b : Int}
variable {key : Int → Int} {n : Nat} {o : List Int}
variable {key : Int → Int} {n : Nat} {o : List Int}
variable {key : Int → Int} {n : Nat} {o : List Int}
variable {key : Int → Int} {n : Nat} {o : List Int}
variable {key : Int → Int} {n : Nat} {o : List Int}
variable {key : Int → Int} {n : Nat} {o : List Int}
variable {key : Int → Int} {n : Nat} {o : List Int}
variable {key : Int → Int} {n : Nat} {o : List Int}
variable {key : Int → Int} {n : Nat} {o : List Int}
variable {key : Int → Int} {n : Nat} {o : List Int}
variable {key : Int → Int} {n : Nat} {o : List Int}
variable {key : Int → Int} {n : Nat} {o : List Int}
variable {key : Int → Int} {n : Nat} {o : List Int}
variable {key : Int → Int} {n : Nat} {o : List Int}
variable {key : Int → Int} {n : Nat} {o : List Int}
variable {key : Int → Int} {n : Nat} {o : List Int}
variable {m : Int} {ps : List Int}
variable {key : Int → Int} {n : Nat} {o : List Int}
variable {m : Int} {ps : List Int}
variable {key : Int → Int} {n : Nat} {o : List Int}
variable {m : Int} {ps : List Int}
variable {key : Int → Int} {n : Nat} {o : List Int}
variable {m : Int} {ps : List Int}
variable {key : Int → Int} {n : Nat} {o : List Int}
variable {m : Int} {ps : List Int}
variable {key : Int → Int} {n : Nat} {o : List Int}
variable {m : Int} {ps : List Int}
theorem s22S (g : GoodS m ps) : Yes (f18 (rngS ps.length) (fun a0 a1 => f19 a0 a1 m ps ps.sum)) fun o => StabS (keySS m ps) (rngS ps.length) o ∧ SrtS (keySS m ps) o := by
 have hl := g.l
 unfold f18
 refine Yes.bind (Yes.mono (Q' := fun o => StabS (keySS m ps) (rngS ps.length) o ∧ SrtS (keySS m ps) o) ?_ fun o ho => Yes.some ho)
 unfold f40
 rw [rng_lenS]
 refine Yes.bind (Yes.mono (Q' := fun r => r = (rngS ps.length, (0 : Int))) ?_ fun r hr => ?_)
 ·refine Yes.lp (fun s => s = (rngS ps.length, (0 : Int), (20 : Int))) (fun _ => 0) rfl (by decide) ?_
  rintro s k rfl hk
  exact Yes.jn (qskipS (by simp; omega) (Yes.some rfl))
 ·subst hr
  simp only
  refine Yes.bind (Yes.mono (s68S (key := keySS m ps) (xs := rngS ps.length) (P := []) (X := rngS ps.length) (S := []) (fun x y hx hy => ⟨_, s23S g (mem_rngS.1 hx) (mem_rngS.1 hy), ?_⟩) (by simp) (by simp) (by simp [rng_lenS]) (by rw [rng_lenS]; omega)) fun o ho => ?_)
  ·unfold keySS
   by_cases h1 : remSS m ps y < remSS m ps x
   ·simp [h1]
   ·by_cases h2 : remSS m ps x < remSS m ps y
    ·rw [if_neg h1, if_pos h2]; constructor <;> intro h <;> omega
    ·rw [if_neg h1, if_neg h2]; constructor <;> intro h <;> omega
  ·obtain ⟨Y, rfl, h1, h2⟩ := ho
   simp only [List.nil_append, List.append_nil]
   refine Yes.lp (fun s => s = (Y, (20 : Int))) (fun _ => 0) rfl (by decide) ?_
   rintro s k rfl hk
   exact Yes.jn (qskipS (by simp; omega) (Yes.some ⟨h1, h2⟩))
end
section
variable {α : Type} (key : α → Int)
variable {α : Type} (key : α → Int)
variable {α : Type} (key : α → Int)
variable {key}
variable {α : Type} (key : α → Int)
variable {key}
variable {α : Type} (key : α → Int)
variable {key}
variable {α : Type} (key : α → Int)
variable {key}
variable {α : Type} (key : α → Int)
variable {key}
variable {α : Type} (key : α → Int)
variable {key}
variable {α : Type} (key : α → Int)
variable {key}
variable {α : Type}
variable {α : Type} (key : α → Int)
variable {key}
variable {α : Type}
variable {α : Type} (key : α → Int)
variable {key}
variable {α : Type}
variable {β : Type} {Q : β → Prop} {K : List ElS → Option β} {m A B C : List ElS} {u v : ElS} {a b : Int}
variable {α : Type} (key : α → Int)
variable {key}
variable {α : Type}
variable {β : Type} {Q : β → Prop} {K : List ElS → Option β} {m A B C : List ElS} {u v : ElS} {a b : Int}
variable {α : Type} (key : α → Int)
variable {key}
variable {α : Type}
variable {β : Type} {Q : β → Prop} {K : List ElS → Option β} {m A B C : List ElS} {u v : ElS} {a b : Int}
variable {α : Type} (key : α → Int)
variable {key}
variable {α : Type}
variable {β : Type} {Q : β → Prop} {K : List ElS → Option β} {m A B C : List ElS} {u v : ElS} {a b : Int}
variable {α : Type} (key : α → Int)
variable {key}
variable {α : Type}
variable {β : Type} {Q : β → Prop} {K : List ElS → Option β} {m A B C : List ElS} {u v : ElS} {a b : Int}
variable {α : Type} (key : α → Int)
variable {key}
variable {α : Type}
variable {β : Type} {Q : β → Prop} {K : List ElS → Option β} {m A B C : List ElS} {u v : ElS} {a b : Int}
variable {key : Int → Int} {n : Nat} {o : List Int}
variable {key : Int → Int} {n : Nat} {o : List Int}
variable {key : Int → Int} {n : Nat} {o : List Int}
variable {key : Int → Int} {n : Nat} {o : List Int}
variable {key : Int → Int} {n : Nat} {o : List Int}
variable {key : Int → Int} {n : Nat} {o : List Int}
variable {key : Int → Int} {n : Nat} {o : List Int}
variable {key : Int → Int} {n : Nat} {o : List Int}
variable {key : Int → Int} {n : Nat} {o : List Int}
variable {key : Int → Int} {n : Nat} {o : List Int}
variable {key : Int → Int} {n : Nat} {o : List Int}
variable {key : Int → Int} {n : Nat} {o : List Int}
variable {key : Int → Int} {n : Nat} {o : List Int}
variable {key : Int → Int} {n : Nat} {o : List Int}
variable {key : Int → Int} {n : Nat} {o : List Int}
variable {key : Int → Int} {n : Nat} {o : List Int}
variable {m : Int} {ps : List Int}
variable {key : Int → Int} {n : Nat} {o : List Int}
variable {m : Int} {ps : List Int}
variable {key : Int → Int} {n : Nat} {o : List Int}
variable {m : Int} {ps : List Int}
variable {key : Int → Int} {n : Nat} {o : List Int}
variable {m : Int} {ps : List Int}
variable {key : Int → Int} {n : Nat} {o : List Int}
variable {m : Int} {ps : List Int}
variable {key : Int → Int} {n : Nat} {o : List Int}
variable {m : Int} {ps : List Int}
variable {key : Int → Int} {n : Nat} {o : List Int}
variable {m : Int} {ps : List Int}
theorem rem_sumS (m all : Int) (hall : 0 < all) : ∀ ps : List Int, (ps.map fun p => m * p % all).sum = m * ps.sum - all * (ps.map fun p => m * p / all).sum
 | [] => by simp
 | p :: ps => by
  have ih := rem_sumS m all hall ps
  simp only [List.map_cons, List.sum_cons, ih]
  have := Int.emod_add_mul_ediv (m * p) all
  rw [Int.mul_add, Int.mul_add]; omega
end
section
variable {α : Type} (key : α → Int)
variable {α : Type} (key : α → Int)
variable {α : Type} (key : α → Int)
variable {key}
variable {α : Type} (key : α → Int)
variable {key}
variable {α : Type} (key : α → Int)
variable {key}
variable {α : Type} (key : α → Int)
variable {key}
variable {α : Type} (key : α → Int)
variable {key}
variable {α : Type} (key : α → Int)
variable {key}
variable {α : Type} (key : α → Int)
variable {key}
variable {α : Type}
variable {α : Type} (key : α → Int)
variable {key}
variable {α : Type}
variable {α : Type} (key : α → Int)
variable {key}
variable {α : Type}
variable {β : Type} {Q : β → Prop} {K : List ElS → Option β} {m A B C : List ElS} {u v : ElS} {a b : Int}
variable {α : Type} (key : α → Int)
variable {key}
variable {α : Type}
variable {β : Type} {Q : β → Prop} {K : List ElS → Option β} {m A B C : List ElS} {u v : ElS} {a b : Int}
variable {α : Type} (key : α → Int)
variable {key}
variable {α : Type}
variable {β : Type} {Q : β → Prop} {K : List ElS → Option β} {m A B C : List ElS} {u v : ElS} {a b : Int}
variable {α : Type} (key : α → Int)
variable {key}
variable {α : Type}
variable {β : Type} {Q : β → Prop} {K : List ElS → Option β} {m A B C : List ElS} {u v : ElS} {a b : Int}
variable {α : Type} (key : α → Int)
variable {key}
variable {α : Type}
variable {β : Type} {Q : β → Prop} {K : List ElS → Option β} {m A B C : List ElS} {u v : ElS} {a b : Int}
variable {α : Type} (key : α → Int)
variable {key}
variable {α : Type}
variable {β : Type} {Q : β → Prop} {K : List ElS → Option β} {m A B C : List ElS} {u v : ElS} {a b : Int}
variable {key : Int → Int} {n : Nat} {o : List Int}
variable {key : Int → Int} {n : Nat} {o : List Int}
variable {key : Int → Int} {n : Nat} {o : List Int}
variable {key : Int → Int} {n : Nat} {o : List Int}
variable {key : Int → Int} {n : Nat} {o : List Int}
variable {key : Int → Int} {n : Nat} {o : List Int}
variable {key : Int → Int} {n : Nat} {o : List Int}
variable {key : Int → Int} {n : Nat} {o : List Int}
variable {key : Int → Int} {n : Nat} {o : List Int}
variable {key : Int → Int} {n : Nat} {o : List Int}
variable {key : Int → Int} {n : Nat} {o : List Int}
variable {key : Int → Int} {n : Nat} {o : List Int}
variable {key : Int → Int} {n : Nat} {o : List Int}
variable {key : Int → Int} {n : Nat} {o : List Int}
variable {key : Int → Int} {n : Nat} {o : List Int}
variable {key : Int → Int} {n : Nat} {o : List Int}
variable {m : Int} {ps : List Int}
variable {key : Int → Int} {n : Nat} {o : List Int}
variable {m : Int} {ps : List Int}
variable {key : Int → Int} {n : Nat} {o : List Int}
variable {m : Int} {ps : List Int}
variable {key : Int → Int} {n : Nat} {o : List Int}
variable {m : Int} {ps : List Int}
variable {key : Int → Int} {n : Nat} {o : List Int}
variable {m : Int} {ps : List Int}
variable {key : Int → Int} {n : Nat} {o : List Int}
variable {m : Int} {ps : List Int}
variable {key : Int → Int} {n : Nat} {o : List Int}
variable {m : Int} {ps : List Int}
theorem rng_succS (n : Nat) : rngS (n + 1) = rngS n ++ [(n : Int)] := by simp [rngS, List.range_succ]
end
section
variable {α : Type} (key : α → Int)
variable {α : Type} (key : α → Int)
variable {α : Type} (key : α → Int)
variable {key}
variable {α : Type} (key : α → Int)
variable {key}
variable {α : Type} (key : α → Int)
variable {key}
variable {α : Type} (key : α → Int)
variable {key}
variable {α : Type} (key : α → Int)
variable {key}
variable {α : Type} (key : α → Int)
variable {key}
variable {α : Type} (key : α → Int)
variable {key}
variable {α : Type}
variable {α : Type} (key : α → Int)
variable {key}
variable {α : Type}
variable {α : Type} (key : α → Int)
variable {key}
variable {α : Type}
variable {β : Type} {Q : β → Prop} {K : List ElS → Option β} {m A B C : List ElS} {u v : ElS} {a b : Int}
variable {α : Type} (key : α → Int)
variable {key}
variable {α : Type}
variable {β : Type} {Q : β → Prop} {K : List ElS → Option β} {m A B C : List ElS} {u v : ElS} {a b : Int}
variable {α : Type} (key : α → Int)
variable {key}
variable {α : Type}
variable {β : Type} {Q : β → Prop} {K : List ElS → Option β} {m A B C : List ElS} {u v : ElS} {a b : Int}
variable {α : Type} (key : α → Int)
variable {key}
variable {α : Type}
variable {β : Type} {Q : β → Prop} {K : List ElS → Option β} {m A B C : List ElS} {u v : ElS} {a b : Int}
variable {α : Type} (key : α → Int)
variable {key}
variable {α : Type}
variable {β : Type} {Q : β → Prop} {K : List ElS → Option β} {m A B C : List ElS} {u v : ElS} {a b : Int}
variable {α : Type} (key : α → Int)
variable {key}
variable {α : Type}
variable {β : Type} {Q : β → Prop} {K : List ElS → Option β} {m A B C : List ElS} {u v : ElS} {a b : Int}
variable {key : Int → Int} {n : Nat} {o : List Int}
variable {key : Int → Int} {n : Nat} {o : List Int}
variable {key : Int → Int} {n : Nat} {o : List Int}
variable {key : Int → Int} {n : Nat} {o : List Int}
variable {key : Int → Int} {n : Nat} {o : List Int}
variable {key : Int → Int} {n : Nat} {o : List Int}
variable {key : Int → Int} {n : Nat} {o : List Int}
variable {key : Int → Int} {n : Nat} {o : List Int}
variable {key : Int → Int} {n : Nat} {o : List Int}
variable {key : Int → Int} {n : Nat} {o : List Int}
variable {key : Int → Int} {n : Nat} {o : List Int}
variable {key : Int → Int} {n : Nat} {o : List Int}
variable {key : Int → Int} {n : Nat} {o : List Int}
variable {key : Int → Int} {n : Nat} {o : List Int}
variable {key : Int → Int} {n : Nat} {o : List Int}
variable {key : Int → Int} {n : Nat} {o : List Int}
variable {m : Int} {ps : List Int}
variable {key : Int → Int} {n : Nat} {o : List Int}
variable {m : Int} {ps : List Int}
variable {key : Int → Int} {n : Nat} {o : List Int}
variable {m : Int} {ps : List Int}
variable {key : Int → Int} {n : Nat} {o : List Int}
variable {m : Int} {ps : List Int}
variable {key : Int → Int} {n : Nat} {o : List Int}
variable {m : Int} {ps : List Int}
variable {key : Int → Int} {n : Nat} {o : List Int}
variable {m : Int} {ps : List Int}
variable {key : Int → Int} {n : Nat} {o : List Int}
variable {m : Int} {ps : List Int}
theorem rng_mapS {β : Type} (ps : List Int) (F : Int → β) : (rngS ps.length).map (fun i => F (ps.getD i.toNat 0)) = ps.map F := by
 apply List.ext_getElem (by simp [rng_lenS])
 intro i h1 h2
 rw [List.length_map, rng_lenS] at h1
 simp only [List.getElem_map, rng_getS, Int.toNat_natCast]
 rw [List.getD_eq_getElem?_getD, List.getElem?_eq_getElem h1]; rfl
end
section
variable {α : Type} (key : α → Int)
variable {α : Type} (key : α → Int)
variable {α : Type} (key : α → Int)
variable {key}
variable {α : Type} (key : α → Int)
variable {key}
variable {α : Type} (key : α → Int)
variable {key}
variable {α : Type} (key : α → Int)
variable {key}
variable {α : Type} (key : α → Int)
variable {key}
variable {α : Type} (key : α → Int)
variable {key}
variable {α : Type} (key : α → Int)
variable {key}
variable {α : Type}
variable {α : Type} (key : α → Int)
variable {key}
variable {α : Type}
variable {α : Type} (key : α → Int)
variable {key}
variable {α : Type}
variable {β : Type} {Q : β → Prop} {K : List ElS → Option β} {m A B C : List ElS} {u v : ElS} {a b : Int}
variable {α : Type} (key : α → Int)
variable {key}
variable {α : Type}
variable {β : Type} {Q : β → Prop} {K : List ElS → Option β} {m A B C : List ElS} {u v : ElS} {a b : Int}
variable {α : Type} (key : α → Int)
variable {key}
variable {α : Type}
variable {β : Type} {Q : β → Prop} {K : List ElS → Option β} {m A B C : List ElS} {u v : ElS} {a b : Int}
variable {α : Type} (key : α → Int)
variable {key}
variable {α : Type}
variable {β : Type} {Q : β → Prop} {K : List ElS → Option β} {m A B C : List ElS} {u v : ElS} {a b : Int}
variable {α : Type} (key : α → Int)
variable {key}
variable {α : Type}
variable {β : Type} {Q : β → Prop} {K : List ElS → Option β} {m A B C : List ElS} {u v : ElS} {a b : Int}
variable {α : Type} (key : α → Int)
variable {key}
variable {α : Type}
variable {β : Type} {Q : β → Prop} {K : List ElS → Option β} {m A B C : List ElS} {u v : ElS} {a b : Int}
variable {key : Int → Int} {n : Nat} {o : List Int}
variable {key : Int → Int} {n : Nat} {o : List Int}
variable {key : Int → Int} {n : Nat} {o : List Int}
variable {key : Int → Int} {n : Nat} {o : List Int}
variable {key : Int → Int} {n : Nat} {o : List Int}
variable {key : Int → Int} {n : Nat} {o : List Int}
variable {key : Int → Int} {n : Nat} {o : List Int}
variable {key : Int → Int} {n : Nat} {o : List Int}
variable {key : Int → Int} {n : Nat} {o : List Int}
variable {key : Int → Int} {n : Nat} {o : List Int}
variable {key : Int → Int} {n : Nat} {o : List Int}
variable {key : Int → Int} {n : Nat} {o : List Int}
variable {key : Int → Int} {n : Nat} {o : List Int}
variable {key : Int → Int} {n : Nat} {o : List Int}
variable {key : Int → Int} {n : Nat} {o : List Int}
variable {key : Int → Int} {n : Nat} {o : List Int}
variable {m : Int} {ps : List Int}
variable {key : Int → Int} {n : Nat} {o : List Int}
variable {m : Int} {ps : List Int}
variable {key : Int → Int} {n : Nat} {o : List Int}
variable {m : Int} {ps : List Int}
variable {key : Int → Int} {n : Nat} {o : List Int}
variable {m : Int} {ps : List Int}
variable {key : Int → Int} {n : Nat} {o : List Int}
variable {m : Int} {ps : List Int}
variable {key : Int → Int} {n : Nat} {o : List Int}
variable {m : Int} {ps : List Int}
variable {key : Int → Int} {n : Nat} {o : List Int}
variable {m : Int} {ps : List Int}
theorem nz_boundS (all : Int) : ∀ (l : List Int), (∀ r ∈ l, 0 ≤ r ∧ r < all) → 0 ≤ l.sum ∧ l.sum ≤ (l.countP fun r => decide (0 < r)) * (all - 1)
 | [], _ => by simp
 | r :: l, h => by
  have h1 := h r (by simp)
  have ih := nz_boundS all l fun x hx => h x (by simp [hx])
  rw [List.countP_cons, List.sum_cons]
  by_cases h0 : 0 < r
  ·have e : decide (0 < r) = true := decide_eq_true h0
   rw [e, if_pos rfl]
   rw [show (((l.countP fun r => decide (0 < r)) + 1 : Nat) : Int) = ((l.countP fun r => decide (0 < r) : Nat) : Int) + 1 by omega, Int.add_mul]
   omega
  ·have e : decide (0 < r) = false := decide_eq_false h0
   rw [e]; simp only [Bool.false_eq_true, if_false, Nat.add_zero]; omega
end
section
variable {α : Type} (key : α → Int)
variable {α : Type} (key : α → Int)
variable {α : Type} (key : α → Int)
variable {key}
variable {α : Type} (key : α → Int)
variable {key}
variable {α : Type} (key : α → Int)
variable {key}
variable {α : Type} (key : α → Int)
variable {key}
variable {α : Type} (key : α → Int)
variable {key}
variable {α : Type} (key : α → Int)
variable {key}
variable {α : Type} (key : α → Int)
variable {key}
variable {α : Type}
variable {α : Type} (key : α → Int)
variable {key}
variable {α : Type}
variable {α : Type} (key : α → Int)
variable {key}
variable {α : Type}
variable {β : Type} {Q : β → Prop} {K : List ElS → Option β} {m A B C : List ElS} {u v : ElS} {a b : Int}
variable {α : Type} (key : α → Int)
variable {key}
variable {α : Type}
variable {β : Type} {Q : β → Prop} {K : List ElS → Option β} {m A B C : List ElS} {u v : ElS} {a b : Int}
variable {α : Type} (key : α → Int)
variable {key}
variable {α : Type}
variable {β : Type} {Q : β → Prop} {K : List ElS → Option β} {m A B C : List ElS} {u v : ElS} {a b : Int}
variable {α : Type} (key : α → Int)
variable {key}
variable {α : Type}
variable {β : Type} {Q : β → Prop} {K : List ElS → Option β} {m A B C : List ElS} {u v : ElS} {a b : Int}
variable {α : Type} (key : α → Int)
variable {key}
variable {α : Type}
variable {β : Type} {Q : β → Prop} {K : List ElS → Option β} {m A B C : List ElS} {u v : ElS} {a b : Int}
variable {α : Type} (key : α → Int)
variable {key}
variable {α : Type}
variable {β : Type} {Q : β → Prop} {K : List ElS → Option β} {m A B C : List ElS} {u v : ElS} {a b : Int}
variable {key : Int → Int} {n : Nat} {o : List Int}
variable {key : Int → Int} {n : Nat} {o : List Int}
variable {key : Int → Int} {n : Nat} {o : List Int}
variable {key : Int → Int} {n : Nat} {o : List Int}
variable {key : Int → Int} {n : Nat} {o : List Int}
variable {key : Int → Int} {n : Nat} {o : List Int}
variable {key : Int → Int} {n : Nat} {o : List Int}
variable {key : Int → Int} {n : Nat} {o : List Int}
variable {key : Int → Int} {n : Nat} {o : List Int}
variable {key : Int → Int} {n : Nat} {o : List Int}
variable {key : Int → Int} {n : Nat} {o : List Int}
variable {key : Int → Int} {n : Nat} {o : List Int}
variable {key : Int → Int} {n : Nat} {o : List Int}
variable {key : Int → Int} {n : Nat} {o : List Int}
variable {key : Int → Int} {n : Nat} {o : List Int}
variable {key : Int → Int} {n : Nat} {o : List Int}
variable {m : Int} {ps : List Int}
variable {key : Int → Int} {n : Nat} {o : List Int}
variable {m : Int} {ps : List Int}
variable {key : Int → Int} {n : Nat} {o : List Int}
variable {m : Int} {ps : List Int}
variable {key : Int → Int} {n : Nat} {o : List Int}
variable {m : Int} {ps : List Int}
variable {key : Int → Int} {n : Nat} {o : List Int}
variable {m : Int} {ps : List Int}
variable {key : Int → Int} {n : Nat} {o : List Int}
variable {m : Int} {ps : List Int}
variable {key : Int → Int} {n : Nat} {o : List Int}
variable {m : Int} {ps : List Int}
variable {m : Int} {ps : List Int}
theorem rem_boundS (g : GoodS m ps) (i : Int) : 0 ≤ remSS m ps i ∧ remSS m ps i < ps.sum := ⟨Int.emod_nonneg _ (by have := g.s; omega), Int.emod_lt_of_pos _ g.s⟩
end
section
variable {α : Type} (key : α → Int)
variable {α : Type} (key : α → Int)
variable {α : Type} (key : α → Int)
variable {key}
variable {α : Type} (key : α → Int)
variable {key}
variable {α : Type} (key : α → Int)
variable {key}
variable {α : Type} (key : α → Int)
variable {key}
variable {α : Type} (key : α → Int)
variable {key}
variable {α : Type} (key : α → Int)
variable {key}
variable {α : Type} (key : α → Int)
variable {key}
variable {α : Type}
variable {α : Type} (key : α → Int)
variable {key}
variable {α : Type}
variable {α : Type} (key : α → Int)
variable {key}
variable {α : Type}
variable {β : Type} {Q : β → Prop} {K : List ElS → Option β} {m A B C : List ElS} {u v : ElS} {a b : Int}
variable {α : Type} (key : α → Int)
variable {key}
variable {α : Type}
variable {β : Type} {Q : β → Prop} {K : List ElS → Option β} {m A B C : List ElS} {u v : ElS} {a b : Int}
variable {α : Type} (key : α → Int)
variable {key}
variable {α : Type}
variable {β : Type} {Q : β → Prop} {K : List ElS → Option β} {m A B C : List ElS} {u v : ElS} {a b : Int}
variable {α : Type} (key : α → Int)
variable {key}
variable {α : Type}
variable {β : Type} {Q : β → Prop} {K : List ElS → Option β} {m A B C : List ElS} {u v : ElS} {a b : Int}
variable {α : Type} (key : α → Int)
variable {key}
variable {α : Type}
variable {β : Type} {Q : β → Prop} {K : List ElS → Option β} {m A B C : List ElS} {u v : ElS} {a b : Int}
variable {α : Type} (key : α → Int)
variable {key}
variable {α : Type}
variable {β : Type} {Q : β → Prop} {K : List ElS → Option β} {m A B C : List ElS} {u v : ElS} {a b : Int}
variable {key : Int → Int} {n : Nat} {o : List Int}
variable {key : Int → Int} {n : Nat} {o : List Int}
variable {key : Int → Int} {n : Nat} {o : List Int}
variable {key : Int → Int} {n : Nat} {o : List Int}
variable {key : Int → Int} {n : Nat} {o : List Int}
variable {key : Int → Int} {n : Nat} {o : List Int}
variable {key : Int → Int} {n : Nat} {o : List Int}
variable {key : Int → Int} {n : Nat} {o : List Int}
variable {key : Int → Int} {n : Nat} {o : List Int}
variable {key : Int → Int} {n : Nat} {o : List Int}
variable {key : Int → Int} {n : Nat} {o : List Int}
variable {key : Int → Int} {n : Nat} {o : List Int}
variable {key : Int → Int} {n : Nat} {o : List Int}
variable {key : Int → Int} {n : Nat} {o : List Int}
variable {key : Int → Int} {n : Nat} {o : List Int}
variable {key : Int → Int} {n : Nat} {o : List Int}
variable {m : Int} {ps : List Int}
variable {key : Int → Int} {n : Nat} {o : List Int}
variable {m : Int} {ps : List Int}
variable {key : Int → Int} {n : Nat} {o : List Int}
variable {m : Int} {ps : List Int}
variable {key : Int → Int} {n : Nat} {o : List Int}
variable {m : Int} {ps : List Int}
variable {key : Int → Int} {n : Nat} {o : List Int}
variable {m : Int} {ps : List Int}
variable {key : Int → Int} {n : Nat} {o : List Int}
variable {m : Int} {ps : List Int}
variable {key : Int → Int} {n : Nat} {o : List Int}
variable {m : Int} {ps : List Int}
variable {m : Int} {ps : List Int}
variable {m : Int} {ps : List Int}
theorem quo_boundS (g : GoodS m ps) (i : Int) : 0 ≤ quoSS m ps i ∧ quoSS m ps i ≤ 1000000000000 := by
 have h := g.prod i
 exact ⟨Int.ediv_nonneg h.1 (by have := g.s; omega), Int.le_trans (Int.ediv_le_self _ h.1) h.2⟩
end
section
variable {α : Type} (key : α → Int)
variable {α : Type} (key : α → Int)
variable {α : Type} (key : α → Int)
variable {key}
variable {α : Type} (key : α → Int)
variable {key}
variable {α : Type} (key : α → Int)
variable {key}
variable {α : Type} (key : α → Int)
variable {key}
variable {α : Type} (key : α → Int)
variable {key}
variable {α : Type} (key : α → Int)
variable {key}
variable {α : Type} (key : α → Int)
variable {key}
variable {α : Type}
variable {α : Type} (key : α → Int)
variable {key}
variable {α : Type}
variable {α : Type} (key : α → Int)
variable {key}
variable {α : Type}
variable {β : Type} {Q : β → Prop} {K : List ElS → Option β} {m A B C : List ElS} {u v : ElS} {a b : Int}
variable {α : Type} (key : α → Int)
variable {key}
variable {α : Type}
variable {β : Type} {Q : β → Prop} {K : List ElS → Option β} {m A B C : List ElS} {u v : ElS} {a b : Int}
variable {α : Type} (key : α → Int)
variable {key}
variable {α : Type}
variable {β : Type} {Q : β → Prop} {K : List ElS → Option β} {m A B C : List ElS} {u v : ElS} {a b : Int}
variable {α : Type} (key : α → Int)
variable {key}
variable {α : Type}
variable {β : Type} {Q : β → Prop} {K : List ElS → Option β} {m A B C : List ElS} {u v : ElS} {a b : Int}
variable {α : Type} (key : α → Int)
variable {key}
variable {α : Type}
variable {β : Type} {Q : β → Prop} {K : List ElS → Option β} {m A B C : List ElS} {u v : ElS} {a b : Int}
variable {α : Type} (key : α → Int)
variable {key}
variable {α : Type}
variable {β : Type} {Q : β → Prop} {K : List ElS → Option β} {m A B C : List ElS} {u v : ElS} {a b : Int}
variable {key : Int → Int} {n : Nat} {o : List Int}
variable {key : Int → Int} {n : Nat} {o : List Int}
variable {key : Int → Int} {n : Nat} {o : List Int}
variable {key : Int → Int} {n : Nat} {o : List Int}
variable {key : Int → Int} {n : Nat} {o : List Int}
variable {key : Int → Int} {n : Nat} {o : List Int}
variable {key : Int → Int} {n : Nat} {o : List Int}
variable {key : Int → Int} {n : Nat} {o : List Int}
variable {key : Int → Int} {n : Nat} {o : List Int}
variable {key : Int → Int} {n : Nat} {o : List Int}
variable {key : Int → Int} {n : Nat} {o : List Int}
variable {key : Int → Int} {n : Nat} {o : List Int}
variable {key : Int → Int} {n : Nat} {o : List Int}
variable {key : Int → Int} {n : Nat} {o : List Int}
variable {key : Int → Int} {n : Nat} {o : List Int}
variable {key : Int → Int} {n : Nat} {o : List Int}
variable {m : Int} {ps : List Int}
variable {key : Int → Int} {n : Nat} {o : List Int}
variable {m : Int} {ps : List Int}
variable {key : Int → Int} {n : Nat} {o : List Int}
variable {m : Int} {ps : List Int}
variable {key : Int → Int} {n : Nat} {o : List Int}
variable {m : Int} {ps : List Int}
variable {key : Int → Int} {n : Nat} {o : List Int}
variable {m : Int} {ps : List Int}
variable {key : Int → Int} {n : Nat} {o : List Int}
variable {m : Int} {ps : List Int}
variable {key : Int → Int} {n : Nat} {o : List Int}
variable {m : Int} {ps : List Int}
variable {m : Int} {ps : List Int}
variable {m : Int} {ps : List Int}
variable {m : Int} {ps : List Int}
noncomputable def nzSS (m : Int) (ps : List Int) : Nat := (rngS ps.length).countP fun j => decide (0 < remSS m ps j)
end
section
variable {α : Type} (key : α → Int)
variable {α : Type} (key : α → Int)
variable {α : Type} (key : α → Int)
variable {key}
variable {α : Type} (key : α → Int)
variable {key}
variable {α : Type} (key : α → Int)
variable {key}
variable {α : Type} (key : α → Int)
variable {key}
variable {α : Type} (key : α → Int)
variable {key}
variable {α : Type} (key : α → Int)
variable {key}
variable {α : Type} (key : α → Int)
variable {key}
variable {α : Type}
variable {α : Type} (key : α → Int)
variable {key}
variable {α : Type}
variable {α : Type} (key : α → Int)
variable {key}
variable {α : Type}
variable {β : Type} {Q : β → Prop} {K : List ElS → Option β} {m A B C : List ElS} {u v : ElS} {a b : Int}
variable {α : Type} (key : α → Int)
variable {key}
variable {α : Type}
variable {β : Type} {Q : β → Prop} {K : List ElS → Option β} {m A B C : List ElS} {u v : ElS} {a b : Int}
variable {α : Type} (key : α → Int)
variable {key}
variable {α : Type}
variable {β : Type} {Q : β → Prop} {K : List ElS → Option β} {m A B C : List ElS} {u v : ElS} {a b : Int}
variable {α : Type} (key : α → Int)
variable {key}
variable {α : Type}
variable {β : Type} {Q : β → Prop} {K : List ElS → Option β} {m A B C : List ElS} {u v : ElS} {a b : Int}
variable {α : Type} (key : α → Int)
variable {key}
variable {α : Type}
variable {β : Type} {Q : β → Prop} {K : List ElS → Option β} {m A B C : List ElS} {u v : ElS} {a b : Int}
variable {α : Type} (key : α → Int)
variable {key}
variable {α : Type}
variable {β : Type} {Q : β → Prop} {K : List ElS → Option β} {m A B C : List ElS} {u v : ElS} {a b : Int}
variable {key : Int → Int} {n : Nat} {o : List Int}
variable {key : Int → Int} {n : Nat} {o : List Int}
variable {key : Int → Int} {n : Nat} {o : List Int}
variable {key : Int → Int} {n : Nat} {o : List Int}
variable {key : Int → Int} {n : Nat} {o : List Int}
variable {key : Int → Int} {n : Nat} {o : List Int}
variable {key : Int → Int} {n : Nat} {o : List Int}
variable {key : Int → Int} {n : Nat} {o : List Int}
variable {key : Int → Int} {n : Nat} {o : List Int}
variable {key : Int → Int} {n : Nat} {o : List Int}
variable {key : Int → Int} {n : Nat} {o : List Int}
variable {key : Int → Int} {n : Nat} {o : List Int}
variable {key : Int → Int} {n : Nat} {o : List Int}
variable {key : Int → Int} {n : Nat} {o : List Int}
variable {key : Int → Int} {n : Nat} {o : List Int}
variable {key : Int → Int} {n : Nat} {o : List Int}
variable {m : Int} {ps : List Int}
variable {key : Int → Int} {n : Nat} {o : List Int}
variable {m : Int} {ps : List Int}
variable {key : Int → Int} {n : Nat} {o : List Int}
variable {m : Int} {ps : List Int}
variable {key : Int → Int} {n : Nat} {o : List Int}
variable {m : Int} {ps : List Int}
variable {key : Int → Int} {n : Nat} {o : List Int}
variable {m : Int} {ps : List Int}
variable {key : Int → Int} {n : Nat} {o : List Int}
variable {m : Int} {ps : List Int}
variable {key : Int → Int} {n : Nat} {o : List Int}
variable {m : Int} {ps : List Int}
variable {m : Int} {ps : List Int}
variable {m : Int} {ps : List Int}
variable {m : Int} {ps : List Int}
variable {m : Int} {ps : List Int}
theorem left_sumS (m : Int) (ps : List Int) (hs : 0 < ps.sum) : ps.sum * leftSS m ps = ((rngS ps.length).map (remSS m ps)).sum := by
 have e1 : (rngS ps.length).map (remSS m ps) = ps.map fun p => m * p % ps.sum := rng_mapS ps fun p => m * p % ps.sum
 have e2 : (rngS ps.length).map (quoSS m ps) = ps.map fun p => m * p / ps.sum := rng_mapS ps fun p => m * p / ps.sum
 unfold leftSS
 rw [e1, e2, rem_sumS m ps.sum hs ps, Int.mul_sub, Int.mul_comm m ps.sum]
end
end Go.Proofs.YticdblhibbaojaaDoor
