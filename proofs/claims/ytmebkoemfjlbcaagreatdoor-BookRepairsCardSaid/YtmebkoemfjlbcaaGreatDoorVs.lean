/- An own variable that holds an array of slices of the function's own, any of which is appended to. No program is named here. -/
import Derived.Test.YtmebkoemfjlbcaaGreatDoorWb
import Derived.Test.YtmebkoemfjlbcaaGreatDoorWr
namespace Go.Proofs.YtmebkoemfjlbcaaGreatDoor
open Go.RowKit

section
variable {P:Program} {e:Env} {w w':World} {g g':Gh} {K:Value→World→Prop} {x y:Operand}
end
/-! ### The array -/
section
variable {β:Type} [GoT β] {n i j q:Nat} {g g':Gh} {w w':World} {et t:TypeId} {xs:Vector (List β) n} {p:Value}
def VSF (q:Nat) (i j:Nat) (g:Gh) (w:World) (et t:TypeId) (xs:Vector (List β) n) (p:Value) (cs:Array Value):Prop:=
 (∃ b,p=.pointer (some ⟨b,0,none⟩)∧g.o b=i∧w.heap[b]?=some (.cells cs t (0,0)))∧cs.size=n ∧
 (∀ k (h:k < n),k ≠ q→∃ v,cs[k]?=some v∧OS j g w et xs[k] v)∧∀ k k' b v v',k ≠ q→k' ≠ q→k ≠ k'→cs[k]?=some v→cs[k']?=some v'→v.ownBlock=some b→v'.ownBlock ≠ some b
theorem VSF.ext {cs:Array Value} (h:VSF q i j g w et t xs p cs) (k:Ext g w g' w'):VSF q i j g' w' et t xs p cs:=by
 obtain ⟨⟨b,hp,ho,hh⟩,h1,h2,h3⟩:=h
 exact ⟨⟨b,hp,(k.o b (lt_of_heap hh)).trans ho,(k.below.block b (lt_of_heap hh)).trans hh⟩,h1,fun k' hk hq=>let ⟨v,a1,a2⟩:=h2 k' hk hq; ⟨v,a1,a2.ext k⟩,h3⟩
theorem VSF.stp {s:Nat} {cs:Array Value} (h:VSF q i j g w et t xs p cs) (k:Stp s g w g' w') (hi:Nat.beq i s=false) (hj:Nat.beq j s=false:=by rfl):VSF q i j g' w' et t xs p cs:=by
 obtain ⟨⟨b,hp,ho,hh⟩,h1,h2,h3⟩:=h
 have hij:g.o b ≠ s:=by rw [ho]; intro he; rw [he] at hi; simp at hi
 exact ⟨⟨b,hp,(k.o b (lt_of_heap hh) hij).trans ho,(k.block b (lt_of_heap hh) hij).trans hh⟩,h1,fun k' hk hq=>let ⟨v,a1,a2⟩:=h2 k' hk hq; ⟨v,a1,a2.stp k hj⟩,h3⟩
def VS (i j:Nat) (g:Gh) (w:World) (et t:TypeId) (xs:Vector (List β) n) (p:Value):Prop:=∃ cs,VSF n i j g w et t xs p cs
theorem VS.ext (h:VS i j g w et t xs p) (k:Ext g w g' w'):VS i j g' w' et t xs p:=let ⟨cs,h⟩:=h; ⟨cs,h.ext k⟩
theorem VS.stp {s:Nat} (h:VS i j g w et t xs p) (k:Stp s g w g' w') (hi:Nat.beq i s=false) (hj:Nat.beq j s=false:=by rfl):VS i j g' w' et t xs p:=let ⟨cs,h⟩:=h; ⟨cs,h.stp k hi hj⟩
theorem CB.vs {cs:Array Value} (h:CB i g w t p cs) (hz:cs.toList=List.replicate n (.slice none 0 0)) (hx:xs.toList=List.replicate n []):VS i j g w et t xs p:=by
 obtain ⟨b,hp,ho,hh⟩:=h
 have hn:cs.size=n:=by rw [← Array.length_toList,hz,List.length_replicate]
 have hz2:∀ k,k < n→cs[k]?=some (.slice none 0 0):=fun k hk=>by rw [← Array.getElem?_toList,hz,List.getElem?_replicate,if_pos hk]
 have hx2:∀ k (h:k < n),xs[k]=[]:=fun k hk=>by
  have h1:xs.toList[k]?=some []:=by rw [hx,List.getElem?_replicate,if_pos hk]
  obtain ⟨_,h2⟩:=List.getElem?_eq_some_iff.1 h1
  simpa using h2
 refine ⟨cs,⟨b,hp,ho,hh⟩,hn,fun k hk _=>⟨_,hz2 k hk,by rw [hx2 k hk]; exact OS.nil⟩,fun k k' b' v v' h1 _ _ e1 _ h2=>?_⟩
 have hk:k < n:=by rw [← hn]; exact (Array.getElem?_eq_some_iff.1 e1).1
 rw [hz2 k hk] at e1
 injection e1 with e1
 rw [← e1] at h2
 cases h2
variable {P:Program} {e:Env} {K:Value→World→Prop} {x y:Operand}
theorem VSF.apart {cs : Array Value} {k : Nat} {v v' : Value} (h : VSF n i j g w et t xs p cs) (hk : k < n) (hv : cs[k]? = some v) (hij : Nat.beq i j = false) (hos : OS j g w et xs[k] v) (ha : Apart1 g w g' w' v v') :
  VSF k i j g' w' et t xs p cs∧∀ k' u b,k' ≠ k→cs[k']?=some u→u.ownBlock=some b→v'.ownBlock ≠ some b:=by
 obtain ⟨⟨b,hp,ho,hh⟩,h1,h2,h3⟩:=h
 have hne:∀ b' ,(g.o b'=i→v.ownBlock ≠ some b'):=fun b' hb' hvb=>by
  rcases hos with ⟨e1,_⟩ | ⟨b2,c,cs2,hval,hob,_⟩
  ·rw [e1] at hvb; cases hvb
  ·rw [hval] at hvb
   have:b2=b':=by simpa [Value.ownBlock] using hvb
   subst this
   rw [hb'] at hob
   rw [hob] at hij; simp at hij
 obtain ⟨q1,q2,q3,q4⟩:=ha b (lt_of_heap hh) (hne b ho)
 have hoth:∀ k' (hk':k' < n),k' ≠ k→∃ u,cs[k']?=some u∧OS j g' w' et xs[k'] u∧∀ b',u.ownBlock=some b'→v'.ownBlock ≠ some b':=fun k' hk' hkk=>by
  obtain ⟨u,a1,a2⟩:=h2 k' hk' (by omega)
  refine ⟨u,a1,?_,fun b' hb'=>?_⟩
  ·rcases a2 with h | ⟨b2, c, cs2, hval, hob, hmb, hh2, hr⟩
   ·exact .inl h
   ·have hub : u.ownBlock = some b2 := by rw [hval]; rfl
    have hvn:v.ownBlock ≠ some b2:=h3 k' k b2 u v (by omega) (by omega) hkk a1 hv hub
    obtain ⟨z1,z2,z3,_⟩:=ha b2 (lt_of_heap hh2) hvn
    exact .inr ⟨b2,c,cs2,hval,z2.trans hob,z3.trans hmb,z1.trans hh2,hr⟩
  ·rcases a2 with h | ⟨b2, c, cs2, hval, hob, hmb, hh2, hr⟩
   ·rw [h.1] at hb'; cases hb'
   ·have hub : u.ownBlock = some b2 := by rw [hval]; rfl
    have e3:b2=b':=by rw [hub] at hb'; injection hb'
    subst e3
    have hvn:v.ownBlock ≠ some b2:=h3 k' k b2 u v (by omega) (by omega) hkk a1 hv hub
    exact (ha b2 (lt_of_heap hh2) hvn).2.2.2
 refine ⟨⟨⟨b,hp,q2.trans ho,q1.trans hh⟩,h1,fun k' hk' hkk=>let ⟨u,a1,a2,_⟩:=hoth k' hk' hkk; ⟨u,a1,a2⟩,fun k1 k2 b' v1 v2 e1 e2 e3 e4 e5 e6=>?_⟩,fun k' u b' hkk a1 hb'=>?_⟩
 ·have s1 : k1 < n := by rw [← h1]; exact (Array.getElem?_eq_some_iff.1 e4).1
  have s2:k2 < n:=by rw [← h1]; exact (Array.getElem?_eq_some_iff.1 e5).1
  exact h3 k1 k2 b' v1 v2 (by omega) (by omega) e3 e4 e5 e6
 ·have s1 : k' < n := by rw [← h1]; exact (Array.getElem?_eq_some_iff.1 a1).1
  obtain ⟨u2,a2,_,a4⟩:=hoth k' s1 hkk
  rw [a1] at a2
  injection a2 with a2
  subst a2
  exact a4 b' hb'
theorem VS.ist {B:Nat} (h:VS i j g w et t xs p) (hx:IStp B g w g' w') (h1:Nat.beq i 0=false:=by rfl) (h2:Nat.beq j 0=false:=by rfl):VS i j g' w' et t xs p:=h.stp hx.st h1 h2
end
end Go.Proofs.YtmebkoemfjlbcaaGreatDoor
