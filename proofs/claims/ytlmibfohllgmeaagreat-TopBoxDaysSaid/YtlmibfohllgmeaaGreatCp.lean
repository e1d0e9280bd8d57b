/- The builtin copy into a slice that the function owns; a variable that holds an own slice that is appended to; full products of unsigned numbers. No program is named here. -/
import Derived.Test.YtlmibfohllgmeaaGreatVr
namespace Go.Proofs.YtlmibfohllgmeaaGreat
open Go.RowKit

/-! ### A variable that holds an own slice that begins its block -/
def BXA {α:Type} [GoT α] (i j:Nat) (g:Gh) (w:World) (et bt:TypeId) (xs:List α) (p:Value):Prop:=∃ q:Fv,OB i g w bt q p∧OA j g w et xs q.v
def BXF {α:Type} [GoT α] (i j:Nat) (g:Gh) (w:World) (et bt:TypeId) (q:Fv) (u:Value) (xs:List α) (p:Value):Prop:=OB i g w bt q p∧OM j g w et xs u
def BXAF {α:Type} [GoT α] (i j:Nat) (g:Gh) (w:World) (et bt:TypeId) (q:Fv) (u:Value) (xs:List α) (p:Value):Prop:=OB i g w bt q p∧OA j g w et xs u
section
variable {α:Type} [GoT α] {i j k:Nat} {g g':Gh} {w w':World} {et bt:TypeId} {xs:List α} {p:Value} {q:Fv} {u:Value}
theorem BXA.stp (h:BXA i j g w et bt xs p) (hx:Stp k g w g' w') (h1:Nat.beq i k=false) (h2:Nat.beq j k=false:=by rfl):BXA i j g' w' et bt xs p:=let ⟨q,k1,k2⟩:=h; ⟨q,k1.stp hx h1,k2.stp hx h2⟩
theorem BXF.stp (h:BXF i j g w et bt q u xs p) (hx:Stp k g w g' w') (h1:Nat.beq i k=false) (h2:Nat.beq j k=false:=by rfl):BXF i j g' w' et bt q u xs p:=⟨h.1.stp hx h1,h.2.stp hx h2⟩
theorem BXAF.stp (h:BXAF i j g w et bt q u xs p) (hx:Stp k g w g' w') (h1:Nat.beq i k=false) (h2:Nat.beq j k=false:=by rfl):BXAF i j g' w' et bt q u xs p:=⟨h.1.stp hx h1,h.2.stp hx h2⟩
end

/-! ### copy -/
section
variable {P:Program} {e:Env} {w:World} {g:Gh} {K:Value→World→Prop} {x y:Operand}
end

/-! ### Handing out -/
/-! ### Unsigned numbers -/
section
variable {P:Program} {e:Env} {w:World} {K:Value→World→Prop} {x y:Operand}
end
/-! ### Unsigned numbers of 64 bits as data -/
structure U64 where
 n:Int
 deriving DecidableEq,Inhabited
instance {k:Nat}:OfNat U64 k:=⟨⟨k⟩⟩
instance : GoT U64 where
 k:=1
 agg:=false
 rep _ _ x cs:=cs=[.int .u64 x.n]
 len h:=by subst h; rfl
 one h:=by subst h; simp [Value.oneCell']
 mono _ h:=h
 k1 _:=rfl
section
variable {P:Program} {e:Env} {x y:Operand}
end
/-! ### Slices that stay written and appended to, through calls -/
section
variable {α:Type} [GoT α] {i j:Nat} {g0 g:Gh} {w0 w:World} {t:TypeId} {xs xs0:List α} {v:Value}
theorem OA.enter (h:OA i g w t xs v):OA 1 { m:=g.m,o:=fun b=>if g.o b=i then 1 else 0 } w t xs v:=by
 rcases h with h | ⟨b,c,cs,hp,ho,hm,hh,h1,h2,h3,hf⟩
 ·exact .inl h
 ·exact .inr ⟨b,c,cs,hp,by simp [ho],hm,hh,h1,h2,h3,hf⟩
end

/-! ### Texts as keys of maps -/
/-! ### Appends to an own slice of what is shared -/
section
variable {γ:Type} [GoT γ] {P:Program} {w:World} {g:Gh} {e:Env} {K:Value→World→Prop} {x y:Operand} {i j:Nat} {et:TypeId}
end
/-! ### Numbers of 32 bits -/
section
variable {P:Program} {e:Env} {x y:Operand}
end
end Go.Proofs.YtlmibfohllgmeaaGreat
