/- Contracts of the library's shelf as this logic's contracts. No program is named here. -/
import Derived.Test.YtjjbobaoifflpaaGreatDoorOwm
import Derived.Shelf.Slices.CompactI
namespace Go.Proofs.YtjjbobaoifflpaaGreatDoor
open Go.RowKit Go.Sort

theorem Co {m : Nat → Nat} {w : World} : ∀ {xs : List Int} {cs : List Value}, Tt m w xs cs → cs = xs.map (Value.int .i64)
 | [],cs,h=>h
 | x :: xs,cs,h=>by
  obtain ⟨c1,c2,rfl,h1,h2⟩:=h
  have h1':c1=[.int .i64 x]:=h1
  rw [h1',Co h2]; rfl
theorem O8 {w:World} {b:Nat} {cs:Array Value} {t:TypeId} {xs:List Int} (hh:CF w b cs t) (hs:xs.length ≤ cs.size) (hx:cs.toList.take xs.length=xs.map (Value.int .i64)):Holds (Value.int .i64) w b 0 xs.toArray:=fun j hj=>by
 have hj':j < xs.length:=by simpa using hj
 have hb:=hh
 obtain ⟨fr,hfr,hok⟩:=hh
 refine ⟨?_,?_⟩
 ·rw [Nat.zero_add, hb.cell]
  have h1:(cs.toList.take xs.length)[j]?=some (.int .i64 xs[j]):=by rw [hx,List.getElem?_map,List.getElem?_eq_getElem hj']; rfl
  rw [List.getElem?_take,if_pos hj',Array.getElem?_toList] at h1
  rw [h1,getElem!_pos _ j hj]; simp
 ·have := hok.not (j := j) (by omega)
  simp [World.frozen?,hfr] at this ⊢
  omega
theorem Pz {i:Nat} {g:Gh} {w:World} {b q:Nat} {d:Array Int} (ho:g.o b=i) (hm:g.m b=0):Stp i g w g (putRow (Value.int .i64) (Sort.ahead w q) b 0 d):=by
 have hother:∀ b',b' ≠ b→(putRow (Value.int .i64) (Sort.ahead w q) b 0 d).heap[b']?=w.heap[b']?:=fun b' hb=>by
  show (mapBlock (Sort.ahead w q) b (putCells (Value.int .i64) 0 d)).heap[b']?=_
  unfold mapBlock
  rw [Array.getElem?_modify]
  simp [Ne.symm hb,Sort.ahead]
 refine ⟨rfl,rfl,rfl,⟨by rw [size_putRow]; exact Nat.le_refl _,fun _ _=>Nat.le_refl _,fun b' hb' j hj=>?_⟩,fun b' hb' hne=>hother b' fun h=>hne (h ▸ ho),fun _ _ _=>rfl,fun _ _ _=>rfl⟩
 by_cases hbb:b'=b
 ·subst hbb; rw [hm] at hj; omega
 ·simp only [World.cell?,hother b' hbb]
def Nt (P:Program) (f:FuncId):Prop:=
 (∀ (blk off cap : Nat) (zs : List Int) (w : World), Holds (Value.int .i64) w blk off zs.toArray → zs.length ≤ 9223372036854775807 → zs.length ≤ cap →
  Calls P f #[.slice (some ⟨blk,off,none⟩) zs.length cap] w fun e w'=>e=.returned (.slice (some ⟨blk,off,none⟩) (Lib.compact zs).length cap)∧∃ q,w'=putRow (Value.int .i64) (Sort.ahead w q) blk off (Lib.compact zs ++ List.replicate (zs.length - (Lib.compact zs).length) 0).toArray) ∧
 ∀ (a:Option Addr) (cap:Nat) (w:World),Calls P f #[.slice a 0 cap] w fun e w'=>e=.returned (.slice a 0 cap)∧w'=w
def Dr (xs:List Int):Option Int:=if xs.length ≤ 9223372036854775807 then some ((Lib.compact xs).length:Int) else none
theorem F6 {P:Program} {f:FuncId} (hc:Nt P f) {i:Nat} {g:Gh} {w:World} {t:TypeId} {xs:List Int} {v:Value} (hv:OM i g w t xs v) {r:Int} (h:Dr xs=some r):FnM P f #[v] i g w fun _ _ u=>∃ a c,u=.slice a r.toNat c:=by
 unfold Dr at h
 split at h
 case isFalse=>cases h
 rename_i hl
 injection h with h; subst h
 rcases hv with ⟨rfl,rfl⟩ | ⟨b,c,cs,rfl,hlc,ho,hm,hh,hsz,hf⟩
 ·refine Calls.mono (hc.2 none 0 w) ?_
  rintro e w' ⟨rfl,rfl⟩
  exact ⟨_,rfl,g,(Ext.refl g _).stp,none,0,rfl⟩
 ·have hk : GoT.k Int = 1 := rfl
  rw [hk,Nat.mul_one] at hsz hf
  refine Calls.mono (hc.1 b 0 c xs w (O8 hh hsz (Co hf)) hl hlc) ?_
  rintro e w' ⟨rfl,q,rfl⟩
  exact ⟨_,rfl,g,Pz ho hm,_,c,rfl⟩
section
variable {P:Program} {e:Env} {w:World} {x:Operand}
theorem E4 {t et : TypeId} {a : Option Addr} {n c : Nat} (ht : P.underlying t = some (.slice et)) (hx : ev e x = .slice a n c) :
  Pur P (.call { callee:=.builtin .len,args:=#[x],argTypes:=#[t] }) e (.int .i64 (n:Int)):=fun _ _ _ _ _ _=>by
 simp [execOp,resolve,invoke,builtin,Builtin.len_,hx,run_underlying ht,goInt]
end
end Go.Proofs.YtjjbobaoifflpaaGreatDoor
