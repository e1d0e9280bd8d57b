/- Laws of plain functions, part 3. -/
import Derived.Test.YticdblhibbaojaaDoorShY2
set_option maxRecDepth 8000
namespace Go.Proofs.YticdblhibbaojaaDoor
open Go.RowKit
open Classical
section
variable {α : Type} (key : α → Int)
variable {α : Type} (key : α → Int)
variable {α : Type} (key : α → Int)
variable {key}
variable {α : Type} (key : α → Int)
variable {key}
variable {α : Type} (key : α → Int)
variable {key}
variable {α : Type} (key : α → Int)
variable {key}
variable {α : Type} (key : α → Int)
variable {key}
variable {α : Type} (key : α → Int)
variable {key}
variable {α : Type} (key : α → Int)
variable {key}
variable {α : Type}
variable {α : Type} (key : α → Int)
variable {key}
variable {α : Type}
variable {α : Type} (key : α → Int)
variable {key}
variable {α : Type}
variable {β : Type} {Q : β → Prop} {K : List ElS → Option β} {m A B C : List ElS} {u v : ElS} {a b : Int}
variable {α : Type} (key : α → Int)
variable {key}
variable {α : Type}
variable {β : Type} {Q : β → Prop} {K : List ElS → Option β} {m A B C : List ElS} {u v : ElS} {a b : Int}
variable {α : Type} (key : α → Int)
variable {key}
variable {α : Type}
variable {β : Type} {Q : β → Prop} {K : List ElS → Option β} {m A B C : List ElS} {u v : ElS} {a b : Int}
variable {α : Type} (key : α → Int)
variable {key}
variable {α : Type}
variable {β : Type} {Q : β → Prop} {K : List ElS → Option β} {m A B C : List ElS} {u v : ElS} {a b : Int}
variable {α : Type} (key : α → Int)
variable {key}
variable {α : Type}
variable {β : Type} {Q : β → Prop} {K : List ElS → Option β} {m A B C : List ElS} {u v : ElS} {a b : Int}
variable {α : Type} (key : α → Int)
variable {key}
variable {α : Type}
variable {β : Type} {Q : β → Prop} {K : List ElS → Option β} {m A B C : List ElS} {u v : ElS} {a b : Int}
variable {key : Int → Int} {n : Nat} {o : List Int}
variable {key : Int → Int} {n : Nat} {o : List Int}
variable {key : Int → Int} {n : Nat} {o : List Int}
variable {key : Int → Int} {n : Nat} {o : List Int}
variable {key : Int → Int} {n : Nat} {o : List Int}
variable {key : Int → Int} {n : Nat} {o : List Int}
variable {key : Int → Int} {n : Nat} {o : List Int}
variable {key : Int → Int} {n : Nat} {o : List Int}
variable {key : Int → Int} {n : Nat} {o : List Int}
variable {key : Int → Int} {n : Nat} {o : List Int}
variable {key : Int → Int} {n : Nat} {o : List Int}
variable {key : Int → Int} {n : Nat} {o : List Int}
variable {key : Int → Int} {n : Nat} {o : List Int}
variable {key : Int → Int} {n : Nat} {o : List Int}
variable {key : Int → Int} {n : Nat} {o : List Int}
variable {key : Int → Int} {n : Nat} {o : List Int}
variable {m : Int} {ps : List Int}
variable {key : Int → Int} {n : Nat} {o : List Int}
variable {m : Int} {ps : List Int}
variable {key : Int → Int} {n : Nat} {o : List Int}
variable {m : Int} {ps : List Int}
variable {key : Int → Int} {n : Nat} {o : List Int}
variable {m : Int} {ps : List Int}
variable {key : Int → Int} {n : Nat} {o : List Int}
variable {m : Int} {ps : List Int}
variable {key : Int → Int} {n : Nat} {o : List Int}
variable {m : Int} {ps : List Int}
variable {key : Int → Int} {n : Nat} {o : List Int}
variable {m : Int} {ps : List Int}
variable {m : Int} {ps : List Int}
variable {m : Int} {ps : List Int}
variable {m : Int} {ps : List Int}
variable {m : Int} {ps : List Int}
variable {m : Int} {ps : List Int}
theorem left_boundS (g : GoodS m ps) : 0 ≤ leftSS m ps ∧ leftSS m ps ≤ nzSS m ps ∧ (nzSS m ps : Int) ≤ ps.length := by
 have h1 := left_sumS m ps g.s
 have h2 := nz_boundS ps.sum ((rngS ps.length).map (remSS m ps)) fun r hr => by obtain ⟨i, _, rfl⟩ := List.mem_map.1 hr; exact rem_boundS g i
 rw [← h1, List.countP_map] at h2
 have h3 : (List.countP ((fun r => decide (0 < r)) ∘ remSS m ps) (rngS ps.length)) = nzSS m ps := rfl
 rw [h3] at h2
 have hs := g.s
 refine ⟨?_, ?_, ?_⟩
 ·by_cases h : 0 ≤ leftSS m ps
  ·exact h
  ·have : ps.sum * leftSS m ps < 0 := Int.mul_neg_of_pos_of_neg hs (by omega)
   omega
 ·have h4 : (nzSS m ps : Int) * (ps.sum - 1) ≤ ps.sum * (nzSS m ps : Int) := by
   rw [Int.mul_sub, Int.mul_comm]; omega
  exact Int.le_of_mul_le_mul_left (Int.le_trans h2.2 h4) hs
 ·have : nzSS m ps ≤ (rngS ps.length).length := List.countP_le_length
  rw [rng_lenS] at this; omega
end
section
variable {α : Type} (key : α → Int)
variable {α : Type} (key : α → Int)
variable {α : Type} (key : α → Int)
variable {key}
variable {α : Type} (key : α → Int)
variable {key}
variable {α : Type} (key : α → Int)
variable {key}
variable {α : Type} (key : α → Int)
variable {key}
variable {α : Type} (key : α → Int)
variable {key}
variable {α : Type} (key : α → Int)
variable {key}
variable {α : Type} (key : α → Int)
variable {key}
variable {α : Type}
variable {α : Type} (key : α → Int)
variable {key}
variable {α : Type}
variable {α : Type} (key : α → Int)
variable {key}
variable {α : Type}
variable {β : Type} {Q : β → Prop} {K : List ElS → Option β} {m A B C : List ElS} {u v : ElS} {a b : Int}
variable {α : Type} (key : α → Int)
variable {key}
variable {α : Type}
variable {β : Type} {Q : β → Prop} {K : List ElS → Option β} {m A B C : List ElS} {u v : ElS} {a b : Int}
variable {α : Type} (key : α → Int)
variable {key}
variable {α : Type}
variable {β : Type} {Q : β → Prop} {K : List ElS → Option β} {m A B C : List ElS} {u v : ElS} {a b : Int}
variable {α : Type} (key : α → Int)
variable {key}
variable {α : Type}
variable {β : Type} {Q : β → Prop} {K : List ElS → Option β} {m A B C : List ElS} {u v : ElS} {a b : Int}
variable {α : Type} (key : α → Int)
variable {key}
variable {α : Type}
variable {β : Type} {Q : β → Prop} {K : List ElS → Option β} {m A B C : List ElS} {u v : ElS} {a b : Int}
variable {α : Type} (key : α → Int)
variable {key}
variable {α : Type}
variable {β : Type} {Q : β → Prop} {K : List ElS → Option β} {m A B C : List ElS} {u v : ElS} {a b : Int}
variable {key : Int → Int} {n : Nat} {o : List Int}
variable {key : Int → Int} {n : Nat} {o : List Int}
variable {key : Int → Int} {n : Nat} {o : List Int}
variable {key : Int → Int} {n : Nat} {o : List Int}
variable {key : Int → Int} {n : Nat} {o : List Int}
variable {key : Int → Int} {n : Nat} {o : List Int}
variable {key : Int → Int} {n : Nat} {o : List Int}
variable {key : Int → Int} {n : Nat} {o : List Int}
variable {key : Int → Int} {n : Nat} {o : List Int}
variable {key : Int → Int} {n : Nat} {o : List Int}
variable {key : Int → Int} {n : Nat} {o : List Int}
variable {key : Int → Int} {n : Nat} {o : List Int}
variable {key : Int → Int} {n : Nat} {o : List Int}
variable {key : Int → Int} {n : Nat} {o : List Int}
variable {key : Int → Int} {n : Nat} {o : List Int}
variable {key : Int → Int} {n : Nat} {o : List Int}
variable {m : Int} {ps : List Int}
variable {key : Int → Int} {n : Nat} {o : List Int}
variable {m : Int} {ps : List Int}
variable {key : Int → Int} {n : Nat} {o : List Int}
variable {m : Int} {ps : List Int}
variable {key : Int → Int} {n : Nat} {o : List Int}
variable {m : Int} {ps : List Int}
variable {key : Int → Int} {n : Nat} {o : List Int}
variable {m : Int} {ps : List Int}
variable {key : Int → Int} {n : Nat} {o : List Int}
variable {m : Int} {ps : List Int}
variable {key : Int → Int} {n : Nat} {o : List Int}
variable {m : Int} {ps : List Int}
variable {m : Int} {ps : List Int}
variable {m : Int} {ps : List Int}
variable {m : Int} {ps : List Int}
variable {m : Int} {ps : List Int}
variable {m : Int} {ps : List Int}
variable {m : Int} {ps : List Int}
noncomputable def shareSS (m : Int) (ps : List Int) : List Int := (rngS ps.length).map fun i => quoSS m ps i + if rankS (keySS m ps) ps.length i < (leftSS m ps).toNat then 1 else 0
end
section
variable {α : Type} (key : α → Int)
variable {α : Type} (key : α → Int)
variable {α : Type} (key : α → Int)
variable {key}
variable {α : Type} (key : α → Int)
variable {key}
variable {α : Type} (key : α → Int)
variable {key}
variable {α : Type} (key : α → Int)
variable {key}
variable {α : Type} (key : α → Int)
variable {key}
variable {α : Type} (key : α → Int)
variable {key}
variable {α : Type} (key : α → Int)
variable {key}
variable {α : Type}
variable {α : Type} (key : α → Int)
variable {key}
variable {α : Type}
variable {α : Type} (key : α → Int)
variable {key}
variable {α : Type}
variable {β : Type} {Q : β → Prop} {K : List ElS → Option β} {m A B C : List ElS} {u v : ElS} {a b : Int}
variable {α : Type} (key : α → Int)
variable {key}
variable {α : Type}
variable {β : Type} {Q : β → Prop} {K : List ElS → Option β} {m A B C : List ElS} {u v : ElS} {a b : Int}
variable {α : Type} (key : α → Int)
variable {key}
variable {α : Type}
variable {β : Type} {Q : β → Prop} {K : List ElS → Option β} {m A B C : List ElS} {u v : ElS} {a b : Int}
variable {α : Type} (key : α → Int)
variable {key}
variable {α : Type}
variable {β : Type} {Q : β → Prop} {K : List ElS → Option β} {m A B C : List ElS} {u v : ElS} {a b : Int}
variable {α : Type} (key : α → Int)
variable {key}
variable {α : Type}
variable {β : Type} {Q : β → Prop} {K : List ElS → Option β} {m A B C : List ElS} {u v : ElS} {a b : Int}
variable {α : Type} (key : α → Int)
variable {key}
variable {α : Type}
variable {β : Type} {Q : β → Prop} {K : List ElS → Option β} {m A B C : List ElS} {u v : ElS} {a b : Int}
variable {key : Int → Int} {n : Nat} {o : List Int}
variable {key : Int → Int} {n : Nat} {o : List Int}
variable {key : Int → Int} {n : Nat} {o : List Int}
variable {key : Int → Int} {n : Nat} {o : List Int}
variable {key : Int → Int} {n : Nat} {o : List Int}
variable {key : Int → Int} {n : Nat} {o : List Int}
variable {key : Int → Int} {n : Nat} {o : List Int}
variable {key : Int → Int} {n : Nat} {o : List Int}
variable {key : Int → Int} {n : Nat} {o : List Int}
variable {key : Int → Int} {n : Nat} {o : List Int}
variable {key : Int → Int} {n : Nat} {o : List Int}
variable {key : Int → Int} {n : Nat} {o : List Int}
variable {key : Int → Int} {n : Nat} {o : List Int}
variable {key : Int → Int} {n : Nat} {o : List Int}
variable {key : Int → Int} {n : Nat} {o : List Int}
variable {key : Int → Int} {n : Nat} {o : List Int}
variable {m : Int} {ps : List Int}
variable {key : Int → Int} {n : Nat} {o : List Int}
variable {m : Int} {ps : List Int}
variable {key : Int → Int} {n : Nat} {o : List Int}
variable {m : Int} {ps : List Int}
variable {key : Int → Int} {n : Nat} {o : List Int}
variable {m : Int} {ps : List Int}
variable {key : Int → Int} {n : Nat} {o : List Int}
variable {m : Int} {ps : List Int}
variable {key : Int → Int} {n : Nat} {o : List Int}
variable {m : Int} {ps : List Int}
variable {key : Int → Int} {n : Nat} {o : List Int}
variable {m : Int} {ps : List Int}
variable {m : Int} {ps : List Int}
variable {m : Int} {ps : List Int}
variable {m : Int} {ps : List Int}
variable {m : Int} {ps : List Int}
variable {m : Int} {ps : List Int}
variable {m : Int} {ps : List Int}
variable {m : Int} {ps : List Int}
theorem share_lenS (m : Int) (ps : List Int) : (shareSS m ps).length = ps.length := by simp [shareSS, rng_lenS]
end
section
variable {α : Type} (key : α → Int)
variable {α : Type} (key : α → Int)
variable {α : Type} (key : α → Int)
variable {key}
variable {α : Type} (key : α → Int)
variable {key}
variable {α : Type} (key : α → Int)
variable {key}
variable {α : Type} (key : α → Int)
variable {key}
variable {α : Type} (key : α → Int)
variable {key}
variable {α : Type} (key : α → Int)
variable {key}
variable {α : Type} (key : α → Int)
variable {key}
variable {α : Type}
variable {α : Type} (key : α → Int)
variable {key}
variable {α : Type}
variable {α : Type} (key : α → Int)
variable {key}
variable {α : Type}
variable {β : Type} {Q : β → Prop} {K : List ElS → Option β} {m A B C : List ElS} {u v : ElS} {a b : Int}
variable {α : Type} (key : α → Int)
variable {key}
variable {α : Type}
variable {β : Type} {Q : β → Prop} {K : List ElS → Option β} {m A B C : List ElS} {u v : ElS} {a b : Int}
variable {α : Type} (key : α → Int)
variable {key}
variable {α : Type}
variable {β : Type} {Q : β → Prop} {K : List ElS → Option β} {m A B C : List ElS} {u v : ElS} {a b : Int}
variable {α : Type} (key : α → Int)
variable {key}
variable {α : Type}
variable {β : Type} {Q : β → Prop} {K : List ElS → Option β} {m A B C : List ElS} {u v : ElS} {a b : Int}
variable {α : Type} (key : α → Int)
variable {key}
variable {α : Type}
variable {β : Type} {Q : β → Prop} {K : List ElS → Option β} {m A B C : List ElS} {u v : ElS} {a b : Int}
variable {α : Type} (key : α → Int)
variable {key}
variable {α : Type}
variable {β : Type} {Q : β → Prop} {K : List ElS → Option β} {m A B C : List ElS} {u v : ElS} {a b : Int}
variable {key : Int → Int} {n : Nat} {o : List Int}
variable {key : Int → Int} {n : Nat} {o : List Int}
variable {key : Int → Int} {n : Nat} {o : List Int}
variable {key : Int → Int} {n : Nat} {o : List Int}
variable {key : Int → Int} {n : Nat} {o : List Int}
variable {key : Int → Int} {n : Nat} {o : List Int}
variable {key : Int → Int} {n : Nat} {o : List Int}
variable {key : Int → Int} {n : Nat} {o : List Int}
variable {key : Int → Int} {n : Nat} {o : List Int}
variable {key : Int → Int} {n : Nat} {o : List Int}
variable {key : Int → Int} {n : Nat} {o : List Int}
variable {key : Int → Int} {n : Nat} {o : List Int}
variable {key : Int → Int} {n : Nat} {o : List Int}
variable {key : Int → Int} {n : Nat} {o : List Int}
variable {key : Int → Int} {n : Nat} {o : List Int}
variable {key : Int → Int} {n : Nat} {o : List Int}
variable {m : Int} {ps : List Int}
variable {key : Int → Int} {n : Nat} {o : List Int}
variable {m : Int} {ps : List Int}
variable {key : Int → Int} {n : Nat} {o : List Int}
variable {m : Int} {ps : List Int}
variable {key : Int → Int} {n : Nat} {o : List Int}
variable {m : Int} {ps : List Int}
variable {key : Int → Int} {n : Nat} {o : List Int}
variable {m : Int} {ps : List Int}
variable {key : Int → Int} {n : Nat} {o : List Int}
variable {m : Int} {ps : List Int}
variable {key : Int → Int} {n : Nat} {o : List Int}
variable {m : Int} {ps : List Int}
variable {m : Int} {ps : List Int}
variable {m : Int} {ps : List Int}
variable {m : Int} {ps : List Int}
variable {m : Int} {ps : List Int}
variable {m : Int} {ps : List Int}
variable {m : Int} {ps : List Int}
variable {m : Int} {ps : List Int}
variable {m : Int} {ps : List Int}
theorem share_atS {i : Nat} (h : i < (shareSS m ps).length) : (shareSS m ps)[i] = quoSS m ps i + if rankS (keySS m ps) ps.length i < (leftSS m ps).toNat then 1 else 0 := by
 simp only [shareSS, List.getElem_map, rng_getS]
end
section
variable {α : Type} (key : α → Int)
variable {α : Type} (key : α → Int)
variable {α : Type} (key : α → Int)
variable {key}
variable {α : Type} (key : α → Int)
variable {key}
variable {α : Type} (key : α → Int)
variable {key}
variable {α : Type} (key : α → Int)
variable {key}
variable {α : Type} (key : α → Int)
variable {key}
variable {α : Type} (key : α → Int)
variable {key}
variable {α : Type} (key : α → Int)
variable {key}
variable {α : Type}
variable {α : Type} (key : α → Int)
variable {key}
variable {α : Type}
variable {α : Type} (key : α → Int)
variable {key}
variable {α : Type}
variable {β : Type} {Q : β → Prop} {K : List ElS → Option β} {m A B C : List ElS} {u v : ElS} {a b : Int}
variable {α : Type} (key : α → Int)
variable {key}
variable {α : Type}
variable {β : Type} {Q : β → Prop} {K : List ElS → Option β} {m A B C : List ElS} {u v : ElS} {a b : Int}
variable {α : Type} (key : α → Int)
variable {key}
variable {α : Type}
variable {β : Type} {Q : β → Prop} {K : List ElS → Option β} {m A B C : List ElS} {u v : ElS} {a b : Int}
variable {α : Type} (key : α → Int)
variable {key}
variable {α : Type}
variable {β : Type} {Q : β → Prop} {K : List ElS → Option β} {m A B C : List ElS} {u v : ElS} {a b : Int}
variable {α : Type} (key : α → Int)
variable {key}
variable {α : Type}
variable {β : Type} {Q : β → Prop} {K : List ElS → Option β} {m A B C : List ElS} {u v : ElS} {a b : Int}
variable {α : Type} (key : α → Int)
variable {key}
variable {α : Type}
variable {β : Type} {Q : β → Prop} {K : List ElS → Option β} {m A B C : List ElS} {u v : ElS} {a b : Int}
variable {key : Int → Int} {n : Nat} {o : List Int}
variable {key : Int → Int} {n : Nat} {o : List Int}
variable {key : Int → Int} {n : Nat} {o : List Int}
variable {key : Int → Int} {n : Nat} {o : List Int}
variable {key : Int → Int} {n : Nat} {o : List Int}
variable {key : Int → Int} {n : Nat} {o : List Int}
variable {key : Int → Int} {n : Nat} {o : List Int}
variable {key : Int → Int} {n : Nat} {o : List Int}
variable {key : Int → Int} {n : Nat} {o : List Int}
variable {key : Int → Int} {n : Nat} {o : List Int}
variable {key : Int → Int} {n : Nat} {o : List Int}
variable {key : Int → Int} {n : Nat} {o : List Int}
variable {key : Int → Int} {n : Nat} {o : List Int}
variable {key : Int → Int} {n : Nat} {o : List Int}
variable {key : Int → Int} {n : Nat} {o : List Int}
variable {key : Int → Int} {n : Nat} {o : List Int}
variable {m : Int} {ps : List Int}
variable {key : Int → Int} {n : Nat} {o : List Int}
variable {m : Int} {ps : List Int}
variable {key : Int → Int} {n : Nat} {o : List Int}
variable {m : Int} {ps : List Int}
variable {key : Int → Int} {n : Nat} {o : List Int}
variable {m : Int} {ps : List Int}
variable {key : Int → Int} {n : Nat} {o : List Int}
variable {m : Int} {ps : List Int}
variable {key : Int → Int} {n : Nat} {o : List Int}
variable {m : Int} {ps : List Int}
variable {key : Int → Int} {n : Nat} {o : List Int}
variable {m : Int} {ps : List Int}
variable {m : Int} {ps : List Int}
variable {m : Int} {ps : List Int}
variable {m : Int} {ps : List Int}
variable {m : Int} {ps : List Int}
variable {m : Int} {ps : List Int}
variable {m : Int} {ps : List Int}
variable {m : Int} {ps : List Int}
variable {m : Int} {ps : List Int}
variable {m : Int} {ps : List Int}
theorem sums_boundS (g : GoodS m ps) : ∀ i : Nat, 0 ≤ ((rngS i).map (quoSS m ps)).sum ∧ ((rngS i).map (quoSS m ps)).sum ≤ 1000000000000 * i
 | 0 => by simp [rngS]
 | i + 1 => by
  have ih := sums_boundS g i
  have := quo_boundS g i
  rw [rng_succS, List.map_append, List.sum_append]
  simp only [List.map_cons, List.map_nil, List.sum_cons, List.sum_nil]
  omega
end
section
variable {α : Type} (key : α → Int)
variable {α : Type} (key : α → Int)
variable {α : Type} (key : α → Int)
variable {key}
variable {α : Type} (key : α → Int)
variable {key}
variable {α : Type} (key : α → Int)
variable {key}
variable {α : Type} (key : α → Int)
variable {key}
variable {α : Type} (key : α → Int)
variable {key}
variable {α : Type} (key : α → Int)
variable {key}
variable {α : Type} (key : α → Int)
variable {key}
variable {α : Type}
variable {α : Type} (key : α → Int)
variable {key}
variable {α : Type}
variable {α : Type} (key : α → Int)
variable {key}
variable {α : Type}
variable {β : Type} {Q : β → Prop} {K : List ElS → Option β} {m A B C : List ElS} {u v : ElS} {a b : Int}
variable {α : Type} (key : α → Int)
variable {key}
variable {α : Type}
variable {β : Type} {Q : β → Prop} {K : List ElS → Option β} {m A B C : List ElS} {u v : ElS} {a b : Int}
variable {α : Type} (key : α → Int)
variable {key}
variable {α : Type}
variable {β : Type} {Q : β → Prop} {K : List ElS → Option β} {m A B C : List ElS} {u v : ElS} {a b : Int}
variable {α : Type} (key : α → Int)
variable {key}
variable {α : Type}
variable {β : Type} {Q : β → Prop} {K : List ElS → Option β} {m A B C : List ElS} {u v : ElS} {a b : Int}
variable {α : Type} (key : α → Int)
variable {key}
variable {α : Type}
variable {β : Type} {Q : β → Prop} {K : List ElS → Option β} {m A B C : List ElS} {u v : ElS} {a b : Int}
variable {α : Type} (key : α → Int)
variable {key}
variable {α : Type}
variable {β : Type} {Q : β → Prop} {K : List ElS → Option β} {m A B C : List ElS} {u v : ElS} {a b : Int}
variable {key : Int → Int} {n : Nat} {o : List Int}
variable {key : Int → Int} {n : Nat} {o : List Int}
variable {key : Int → Int} {n : Nat} {o : List Int}
variable {key : Int → Int} {n : Nat} {o : List Int}
variable {key : Int → Int} {n : Nat} {o : List Int}
variable {key : Int → Int} {n : Nat} {o : List Int}
variable {key : Int → Int} {n : Nat} {o : List Int}
variable {key : Int → Int} {n : Nat} {o : List Int}
variable {key : Int → Int} {n : Nat} {o : List Int}
variable {key : Int → Int} {n : Nat} {o : List Int}
variable {key : Int → Int} {n : Nat} {o : List Int}
variable {key : Int → Int} {n : Nat} {o : List Int}
variable {key : Int → Int} {n : Nat} {o : List Int}
variable {key : Int → Int} {n : Nat} {o : List Int}
variable {key : Int → Int} {n : Nat} {o : List Int}
variable {key : Int → Int} {n : Nat} {o : List Int}
variable {m : Int} {ps : List Int}
variable {key : Int → Int} {n : Nat} {o : List Int}
variable {m : Int} {ps : List Int}
variable {key : Int → Int} {n : Nat} {o : List Int}
variable {m : Int} {ps : List Int}
variable {key : Int → Int} {n : Nat} {o : List Int}
variable {m : Int} {ps : List Int}
variable {key : Int → Int} {n : Nat} {o : List Int}
variable {m : Int} {ps : List Int}
variable {key : Int → Int} {n : Nat} {o : List Int}
variable {m : Int} {ps : List Int}
variable {key : Int → Int} {n : Nat} {o : List Int}
variable {m : Int} {ps : List Int}
variable {m : Int} {ps : List Int}
variable {m : Int} {ps : List Int}
variable {m : Int} {ps : List Int}
variable {m : Int} {ps : List Int}
variable {m : Int} {ps : List Int}
variable {m : Int} {ps : List Int}
variable {m : Int} {ps : List Int}
variable {m : Int} {ps : List Int}
variable {m : Int} {ps : List Int}
variable {m : Int} {ps : List Int}
theorem sum_takeS (ps : List Int) {i : Nat} (h : i < ps.length) : (ps.take (i + 1)).sum = (ps.take i).sum + ps[i] := by
 rw [List.take_succ_eq_append_getElem h, List.sum_append]; simp
end
section
variable {α : Type} (key : α → Int)
variable {α : Type} (key : α → Int)
variable {α : Type} (key : α → Int)
variable {key}
variable {α : Type} (key : α → Int)
variable {key}
variable {α : Type} (key : α → Int)
variable {key}
variable {α : Type} (key : α → Int)
variable {key}
variable {α : Type} (key : α → Int)
variable {key}
variable {α : Type} (key : α → Int)
variable {key}
variable {α : Type} (key : α → Int)
variable {key}
variable {α : Type}
variable {α : Type} (key : α → Int)
variable {key}
variable {α : Type}
variable {α : Type} (key : α → Int)
variable {key}
variable {α : Type}
variable {β : Type} {Q : β → Prop} {K : List ElS → Option β} {m A B C : List ElS} {u v : ElS} {a b : Int}
variable {α : Type} (key : α → Int)
variable {key}
variable {α : Type}
variable {β : Type} {Q : β → Prop} {K : List ElS → Option β} {m A B C : List ElS} {u v : ElS} {a b : Int}
variable {α : Type} (key : α → Int)
variable {key}
variable {α : Type}
variable {β : Type} {Q : β → Prop} {K : List ElS → Option β} {m A B C : List ElS} {u v : ElS} {a b : Int}
variable {α : Type} (key : α → Int)
variable {key}
variable {α : Type}
variable {β : Type} {Q : β → Prop} {K : List ElS → Option β} {m A B C : List ElS} {u v : ElS} {a b : Int}
variable {α : Type} (key : α → Int)
variable {key}
variable {α : Type}
variable {β : Type} {Q : β → Prop} {K : List ElS → Option β} {m A B C : List ElS} {u v : ElS} {a b : Int}
variable {α : Type} (key : α → Int)
variable {key}
variable {α : Type}
variable {β : Type} {Q : β → Prop} {K : List ElS → Option β} {m A B C : List ElS} {u v : ElS} {a b : Int}
variable {key : Int → Int} {n : Nat} {o : List Int}
variable {key : Int → Int} {n : Nat} {o : List Int}
variable {key : Int → Int} {n : Nat} {o : List Int}
variable {key : Int → Int} {n : Nat} {o : List Int}
variable {key : Int → Int} {n : Nat} {o : List Int}
variable {key : Int → Int} {n : Nat} {o : List Int}
variable {key : Int → Int} {n : Nat} {o : List Int}
variable {key : Int → Int} {n : Nat} {o : List Int}
variable {key : Int → Int} {n : Nat} {o : List Int}
variable {key : Int → Int} {n : Nat} {o : List Int}
variable {key : Int → Int} {n : Nat} {o : List Int}
variable {key : Int → Int} {n : Nat} {o : List Int}
variable {key : Int → Int} {n : Nat} {o : List Int}
variable {key : Int → Int} {n : Nat} {o : List Int}
variable {key : Int → Int} {n : Nat} {o : List Int}
variable {key : Int → Int} {n : Nat} {o : List Int}
variable {m : Int} {ps : List Int}
variable {key : Int → Int} {n : Nat} {o : List Int}
variable {m : Int} {ps : List Int}
variable {key : Int → Int} {n : Nat} {o : List Int}
variable {m : Int} {ps : List Int}
variable {key : Int → Int} {n : Nat} {o : List Int}
variable {m : Int} {ps : List Int}
variable {key : Int → Int} {n : Nat} {o : List Int}
variable {m : Int} {ps : List Int}
variable {key : Int → Int} {n : Nat} {o : List Int}
variable {m : Int} {ps : List Int}
variable {key : Int → Int} {n : Nat} {o : List Int}
variable {m : Int} {ps : List Int}
variable {m : Int} {ps : List Int}
variable {m : Int} {ps : List Int}
variable {m : Int} {ps : List Int}
variable {m : Int} {ps : List Int}
variable {m : Int} {ps : List Int}
variable {m : Int} {ps : List Int}
variable {m : Int} {ps : List Int}
variable {m : Int} {ps : List Int}
variable {m : Int} {ps : List Int}
variable {m : Int} {ps : List Int}
variable {m : Int} {ps : List Int}
theorem s7S (g : GoodS m ps) : f8 m ps = some (shareSS m ps, 0) := by
 have hl := g.l
 have hsb := g.sum
 have hm0 := g.m0; have hm1 := g.m1
 refine Yes.eq ?_
 unfold f8
 refine Yes.bind (Yes.mono (Q' := fun r => r = ps.sum) ?_ fun r hr => ?_)
 ·refine Yes.upto ps.length (by omega) (fun i s => s = (ps.take i).sum) rfl (fun i s k hi hI hk => ?_) (fun s k hI => ?_)
  ·have hx := g.p _ (List.getElem_mem hi)
   have hb := sum_boundS (ps := ps.take i) fun x hx => g.p x (List.mem_of_mem_take hx)
   rw [List.length_take] at hb
   refine qtakeS (by simp; omega) (Yes.bind (Yes.bind (Yes.idx rfl hi (Yes.some ?_))))
   rw [min64_eqS, max64_eqS, show min (max ps[i] 0) 1000 = ps[i] by omega, w64_id (by omega) (by omega)]
   exact hk _ (by rw [sum_takeS ps hi, hI])
  ·exact qskipS (by simp) (Yes.some (by rw [hI, List.take_length]))
 subst hr
 refine Yes.jn ?_
 have h21 : ([m] : List Int).all (btwS 0 1000000000) = true := by simp [btwS]; omega
 have h22 : ps.all (btwS 0 1000) = true := List.all_eq_true.2 fun x hx => btw_iffS.2 (g.p x hx)
 rw [s21S _ _ _ (by simp), s21S _ _ _ (by omega), h21, h22]
 refine Yes.bind (Yes.some (qskipS rfl (qskipS (by simp; omega) (Yes.bind (Yes.bind (Yes.some (qskipS rfl (Yes.some (qskipS ?_ ?_)))))))))
 ·have := g.s; simp; omega
 refine qbindS (List.replicate ps.length 0) (by unfold mks; rw [if_pos ⟨by omega, by omega, by omega⟩]; simp) ?_
 refine Yes.bind (Yes.mono (Q' := fun r => r = ((rngS ps.length).map (quoSS m ps), leftSS m ps, rngS ps.length)) ?_ fun r hr => ?_)
 ·refine Yes.lp (fun s => ∃ i : Nat, s.2.2.2 = i ∧ i ≤ ps.length ∧ s.1 = (rngS i).map (quoSS m ps) ∧ s.2.1 = m - ((rngS i).map (quoSS m ps)).sum ∧ s.2.2.1.length = ps.length ∧ ∀ j (h : j < s.2.2.1.length), j < i → s.2.2.1[j] = (j : Int)) (fun s => ps.length - s.2.2.2.toNat)
   ⟨0, rfl, Nat.zero_le _, rfl, by simp [rngS], by simp, fun _ _ h => absurd h (Nat.not_lt_zero _)⟩ (by simp only; omega) ?_
  rintro ⟨xs, l, od, i'⟩ k ⟨i, hi, hle, hx, hlft, hol, hod⟩ hk
  simp only at hi hx hlft hol hod
  subst hi
  refine Yes.cond (fun h => ?_) (fun h => Yes.some ?_)
  ·have hlt : i < ps.length := by simp at h; omega
   have hat : ps[i] = ps.getD (i : Int).toNat 0 := by rw [Int.toNat_natCast, List.getD_eq_getElem?_getD, List.getElem?_eq_getElem hlt]; rfl
   have hp := g.prod (i : Int)
   have hq := quo_boundS g (i : Int)
   have hsum := sums_boundS g i
   refine Yes.bind (Yes.bind (Yes.idx rfl hlt ?_))
   rw [hat, w64_id (n := m * _) (by omega) (by omega)]
   refine qbindS (quoSS m ps i) (quo_nnS hp.1 (by omega) g.s) ?_
   have hxl : xs.length = i := by rw [hx]; simp [rng_lenS]
   refine Yes.bind (Yes.apnd (by simp; omega) (by simp; omega) (Yes.bind (Yes.idx rfl (by omega) (Yes.bind (Yes.idx (n := i) rfl (by simp; omega) (Yes.some ?_))))))
   have he : (xs ++ [quoSS m ps i])[i]'(by simp; omega) = quoSS m ps i := by rw [List.getElem_append_right (by omega)]; simp [hxl]
   rw [he, w64_id (n := l - quoSS m ps i) (by omega) (by omega), w64_id (n := (i : Int) + 1) (by omega) (by omega)]
   refine hk _ ⟨i + 1, by simp, hlt, ?_, ?_, by simp [hol], fun j hj hji => ?_⟩ (by simp only; omega)
   ·rw [rng_succS, List.map_append, ← hx]; rfl
   ·simp only; rw [rng_succS, List.map_append, List.sum_append, hlft]; simp; omega
   ·simp only [Int.toNat_natCast] at hj ⊢
    rw [List.getElem_set]
    split
    ·rename_i e; rw [e]
    ·rename_i e
     exact hod j (by simpa using hj) (by omega)
  ·have : i = ps.length := by simp at h; omega
   subst this
   rw [hx, hlft]
   have : od = rngS ps.length := List.ext_getElem (by rw [hol, rng_lenS]) fun j h1 h2 => by rw [hod j h1 (by omega), rng_getS]
   rw [this]; rfl
 subst hr
 simp only
 refine Yes.bind (Yes.mono (s22S g) fun o ho => ?_)
 obtain ⟨ho1, ho2⟩ := ho
 have hlb := left_boundS g
 have hol : o.length = ps.length := by rw [← (ord_permS ho1).length_eq, rng_lenS]
 refine Yes.bind (Yes.mono (Q' := fun r => r = shareSS m ps) ?_ fun r hr => by rw [hr]; exact Yes.some rfl)
 refine qbindS (o.take (leftSS m ps).toNat) (by unfold cut; rw [if_pos ⟨by omega, hlb.1, by omega⟩]; rfl) ?_
 refine Yes.upto (o.take (leftSS m ps).toNat).length (by rw [List.length_take]; omega) (fun j s => s.length = ps.length ∧ ∀ i (h : i < s.length), s[i] = quoSS m ps i + (((o.take (leftSS m ps).toNat).take j).count (i : Int) : Nat)) ⟨by simp [rng_lenS], fun i h => by simp [rng_getS]⟩ (fun j s k hj hI hk => ?_) (fun s k hI => ?_)
 ·obtain ⟨hsl, hI⟩ := hI
  have hmem : (o.take (leftSS m ps).toNat)[j] ∈ rngS ps.length := (ord_permS ho1).mem_iff.2 (List.mem_of_mem_take (List.getElem_mem hj))
  obtain ⟨h0, h1⟩ := mem_rngS.1 hmem
  obtain ⟨x, hx⟩ : ∃ x, x = (o.take (leftSS m ps).toNat)[j] := ⟨_, rfl⟩
  rw [← hx] at h0 h1
  have hq := quo_boundS g x
  have hxn : x.toNat < s.length := by omega
  have hcnt : ((o.take (leftSS m ps).toNat).take j).count ((x.toNat : Nat) : Int) ≤ 10 := by
   refine Nat.le_trans List.count_le_length ?_
   rw [List.length_take, List.length_take]; omega
  refine qtakeS (decide_eq_true (by omega)) (Yes.bind (Yes.bind (Yes.idx rfl hj ?_)))
  rw [← hx]
  have hxe : x = ((x.toNat : Nat) : Int) := by omega
  refine Yes.bind (Yes.idx (n := x.toNat) hxe hxn (Yes.bind (Yes.idx (n := x.toNat) hxe hxn (Yes.some (hk _ ⟨by simp [hsl], fun i hi => ?_⟩)))))
  rw [List.take_succ_eq_append_getElem hj, ← hx, List.count_append, List.getElem_set]
  have e0 := hI x.toNat hxn
  rw [show ((x.toNat : Nat) : Int) = x by omega] at e0 hcnt
  split
  ·rename_i e
   subst e
   rw [e0, show ((x.toNat : Nat) : Int) = x by omega, w64_id (by omega) (by omega)]
   simp; omega
  ·rename_i e
   have hne : ¬ x = (i : Int) := fun h => e (by omega)
   rw [hI i (by simpa using hi)]
   simp [hne]
 ·obtain ⟨hsl, hI⟩ := hI
  refine qskipS (by simp) (Yes.some ?_)
  refine List.ext_getElem (by rw [hsl, share_lenS]) fun i h1 h2 => ?_
  have h3 : i < ps.length := by rw [← hsl]; exact h1
  rw [hI i h1, share_atS h2, List.take_length, ord_takeS ho1 ho2 (by omega)]
  split <;> rfl
end
theorem zskip {α : Type} {Q : α → Prop} {c : Bool} {X Y : Option α} (hc : c = false) (h : Yes Y Q) : Yes (bif c then X else Y) Q := by rw [hc]; exact h
theorem ztake {α : Type} {Q : α → Prop} {c : Bool} {X Y : Option α} (hc : c = true) (h : Yes X Q) : Yes (bif c then X else Y) Q := by rw [hc]; exact h
theorem zbind {α β : Type} {Q : β → Prop} {x : Option α} {f : α → Option β} (a : α) (h : x = some a) (k : Yes (f a) Q) : Yes (x.bind f) Q := by rw [h]; exact k
theorem zidx {α : Type} {xs : List α} {i : Nat} (h : i < xs.length) : idx xs (i : Int) = some xs[i] := by unfold idx; rw [if_pos (Int.natCast_nonneg i)]; exact List.getElem?_eq_getElem h
theorem zrem {a b : Int} (ha : 0 ≤ a) (hb : 0 < b) : ∃ r, rem64 a b = some r ∧ 0 ≤ r ∧ r < b := by
 unfold rem64
 rw [if_neg (by omega), Int.tmod_eq_emod_of_nonneg ha]
 exact ⟨_, rfl, Int.emod_nonneg _ (by omega), Int.emod_lt_of_pos _ hb⟩
theorem zw64 {n : Int} (h1 : -1000000000000 ≤ n) (h2 : n ≤ 1000000000000) : w64 n = n := w64_id (by omega) (by omega)
theorem zu8 (c : UInt8) : 0 ≤ ((c.toNat : Nat) : Int) ∧ ((c.toNat : Nat) : Int) ≤ 255 := by have := c.toNat_lt; omega
theorem zapnd8 {xs : List Int} {y : Int} (h : xs.length ≤ 1000) : apnd 8 xs [y] = some (xs ++ [y]) := Yes.eq (Yes.apnd (by simp; omega) (by simp; omega) rfl)
end Go.Proofs.YticdblhibbaojaaDoor
