/- slices.Grow of nil: an own slice of nothing, with room. No program is named here. -/
import Derived.Test.YtkfdjkkbnfohjaaDoorShort
import Derived.Lib.AppendZerosOnto
namespace Go.Proofs.YtkfdjkkbnfohjaaDoor
open Go.RowKit Go.Lib

theorem OS.handn {α : Type} [GoT α] {j i : Nat} {g0 g : Gh} {w0 w : World} {t : TypeId} {xs : List α} {v : Value} (hfr : Fr g0 w0 g w) (h : OS (j + 1) g w t xs v) (hr : RV g.m w xs v) : ∃ g', Ext g0 w0 g' w ∧ OS i g' w t xs v ∧ RV g'.m w xs v := by
 rcases h with ⟨h1, h2⟩ | ⟨b, c, cs, hv, ho, hm, hh, hc, hcm, hcs⟩
 ·exact ⟨_, hfr.fin, .inl ⟨h1, h2⟩, by subst h2; exact h1 ▸ RV_nil⟩
 ·have hb : ¬ b < w0.heap.size := fun hb => by have := hfr.o b hb; omega
  refine ⟨{ m := g.m, o := updN (fun b => if b < w0.heap.size then g0.o b else 0) b i }, ⟨hfr.below, hfr.m, fun b' hb' => ?_⟩, .inr ⟨b, c, cs, hv, by simp [updN], hm, hh, hc, hcm, hcs⟩, hr⟩
  rw [show ({ m := g.m, o := updN (fun b => if b < w0.heap.size then g0.o b else 0) b i } : Gh).o b' = updN (fun b => if b < w0.heap.size then g0.o b else 0) b i b' from rfl, updN_ne _ _ (show b' ≠ b from fun h => hb (h ▸ hb'))]
  simp [hb']
section
variable {P : Program} {e : Env} {w : World} {g : Gh} {K : Value → World → Prop} {x y z : Operand}
end
section
variable {P : Program} {N : Nat} {w : World} {g : Gh}
end
end Go.Proofs.YtkfdjkkbnfohjaaDoor
