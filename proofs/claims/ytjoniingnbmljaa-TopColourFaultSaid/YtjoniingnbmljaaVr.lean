/- Variables that a draw makes and stores to, several of them. No program is named here. -/
import Derived.Test.YtjoniingnbmljaaCt
namespace Go.Proofs.Ytjoniingnbmljaa
open Go.RowKit
structure Vd where
 tag:Nat
 A0:Value→Fact
 A1:Value→Fact
 e0:∀ {v g w g' w'},Ext g w g' w'→A0 v g w→A0 v g' w'
 e1:∀ {v g w g' w'},Ext g w g' w'→A1 v g w→A1 v g' w'
 s0:∀ {v k g w g' w'},tag ≠ k→Stp k g w g' w'→A0 v g w→A0 v g' w'
 s1:∀ {v k g w g' w'},tag ≠ k→Stp k g w g' w'→A1 v g w→A1 v g' w'
section
variable {n0:Nat} {vs:List Vd} {g g':Gh} {w w':World}
variable {β:Type} [GoT β]
variable {P:Program} {N:Nat} {e:Env}
end
section
variable {α:Type} [GoT α] {i:Nat} {g g1:Gh} {w w':World} {t:TypeId} {xs:List α} {v:Value}
theorem OM.unlendV (h:OM i g1 w' t xs v) (hp:Plain α) (hx:Ext (Go.Proofs.Ytjoniingnbmljaa.lent g w) w g1 w'):∃ g2,Ext g w g2 w'∧RV g2.m w' xs v:=by
 rcases h with ⟨rfl,rfl⟩ | ⟨b,c,cs,rfl,hc,ho,hm,hh,hsz,hf⟩
 ·exact ⟨_,Go.Proofs.Ytjoniingnbmljaa.unlend hx,RV_nil⟩
 have hcs:xs.length * GoT.k α ≤ cs.size:=hsz
 have hx2:Ext g w { m:=fun c=>if c < w.heap.size then g.m c else if c=b then xs.length * GoT.k α else g1.m c,o:=g1.o } w':=⟨hx.below,fun b hb=>by simp [hb],hx.o⟩
 refine ⟨_,hx2,RV_list_mk rfl hc fun _=>⟨b,0,rfl,hh.lt,?_,(hf.plain hp).row fun j v hj=>?_⟩⟩
 ·rw [Nat.zero_add]
  show _ ≤ if b < w.heap.size then g.m b else if b=b then xs.length * GoT.k α else g1.m b
  split
  ·rename_i hb
   obtain ⟨fr,hh,_⟩:=hh
   rw [hx.below.block b hb] at hh
   have h1:=hx.m b hb
   have h2:=allM_cells (m:=g.m) hh
   simp only [Go.Proofs.Ytjoniingnbmljaa.lent] at h1
   omega
  ·rw [if_pos rfl]; exact Nat.le_refl _
 ·rw [List.getElem?_take] at hj
  split at hj
  ·rw [hh.cell, Nat.zero_add]
   simpa using hj
  ·cases hj
end
end Go.Proofs.Ytjoniingnbmljaa
