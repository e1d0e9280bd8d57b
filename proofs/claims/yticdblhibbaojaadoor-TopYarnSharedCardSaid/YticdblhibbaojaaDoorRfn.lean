/- The statement that ranges over a function. No program is named here. -/
import Derived.Test.YticdblhibbaojaaDoorIter
import Derived.RangeFuncNested
namespace Go.Proofs.YticdblhibbaojaaDoor
open Go.RowKit

theorem ext_alloc (i : Nat) (g : Gh) (w : World) (o : Obj) : Ext g w { m := updN g.m w.heap.size 0, o := updN g.o w.heap.size i } (w.alloc o) :=
 ⟨(Below.refl _ w).alloc (Nat.le_refl _) _, fun b hb => updN_ne _ _ (by omega), fun b hb => updN_ne _ _ (by omega)⟩
theorem MkF.push {g g' : Gh} {w w' : World} {ds : List Deferred} {D : Nat} (h0 : MkF g w ds) (h : MkF g' w' ds) (hD : w.heap.size ≤ D) (hb : HB 9 g' w' D (.deferred (some []))) : MkF g' w' ({ target := .collected D, args := #[] } :: ds) := by
 refine ⟨fun d hd => ?_, ?_⟩
 ·rcases List.mem_cons.1 hd with rfl | hd
  ·exact ⟨D, rfl, hb⟩
  ·exact h.mks d hd
 ·show (_ :: _).Nodup
  refine List.nodup_cons.2 ⟨fun hm => ?_, h.nd⟩
  obtain ⟨d, hd, he⟩ := List.mem_map.1 hm
  obtain ⟨D', rfl, h1⟩ := h0.mks d hd
  have hlt := lt_of_heap h1.2
  injection he with he
  omega

end Go.Proofs.YticdblhibbaojaaDoor
