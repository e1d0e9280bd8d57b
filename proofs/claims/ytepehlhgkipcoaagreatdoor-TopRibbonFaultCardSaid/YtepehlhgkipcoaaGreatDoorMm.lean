/- Values that the function owns with all that they lead to: from and to own slices; struct values; what calls hand out. No program is named here. -/
import Derived.Test.YtepehlhgkipcoaaGreatDoorOy
namespace Go.Proofs.YtepehlhgkipcoaaGreatDoor
open Go.RowKit

def OVb {α:Type} [GoT α] (A:Ow α) (i:Nat) (g:Gh) (w:World) (t:TypeId) (x:α) (b:Nat):Prop:=∃ s,OV A i g w t x b s∧A.ok s
section
variable {α β γ:Type} [GoT α] [GoT β] [GoT γ] {A:Ow α} {B:Ow β} {i j b:Nat} {g g':Gh} {w w':World} {t:TypeId} {x:α} {s:A.S} {v:Value}
theorem OVb.ext (h:OVb A i g w t x b) (k:Ext g w g' w'):OVb A i g' w' t x b:=let ⟨s,h1,h2⟩:=h; ⟨s,h1.ext k,h2⟩
theorem Mr : ∀ l : List (Ow.sh α).S, l.flatMap (Ow.sh α).bl = []
 | []=>rfl
 | s :: l=>by rw [List.flatMap_cons,Mr l]; rfl
theorem RV.ow {u:β} {v:Value} (h:RV g.m w u v) (i:Nat):OW (Ow.sh β) i g w u () v:=let ⟨cs,h1,h2⟩:=h; ⟨cs,h2,h1,List.nodup_nil,fun c hc=>by cases hc⟩
structure Wn (A : Ow α) (i : Nat) (g : Gh) (w : World) (x : α) (s : A.S) (cs : List Value) : Prop where
 ow:A.ow s g.m w x cs
 nd:(A.bl s).Nodup
 tg:∀ c ∈ A.bl s,g.o c=i∧g.m c=0
theorem Wn.mk_ {cs:List Value} (h:Wn A i g w x s cs):OW A i g w x s (toV (GoT.agg α) cs):=⟨cs,rfl,h.ow,h.nd,h.tg⟩
theorem Wn.shl {y:β} {c2:List Value} (h:GoT.rep g.m w y c2) (j:Nat):Wn (Ow.sh β) j g w y () c2:=⟨h,List.nodup_nil,fun c hc=>by cases hc⟩
theorem Wn.struct {α:Type} {to:α→β} {x:α} {s:B.S} {cs:List Value} (h:Wn B i g w (to x) s cs):@Wn α (GoT.struct α to) (Ow.struct to B) i g w x s cs:=
 @Wn.mk α (GoT.struct α to) (Ow.struct to B) i g w x s cs h.ow h.nd h.tg
theorem Wn.fl {cs:List Value} (h:Wn A i g w x s cs):Wn A i g w x s (cs ++ []):=by rw [List.append_nil]; exact h
theorem Wn.nil (et:TypeId) (A:Ow α) (i:Nat) (g:Gh) (w:World):Wn (Ow.list et A) i g w [] .nil [.slice none 0 0]:=⟨⟨rfl,rfl⟩,List.nodup_nil,fun c hc=>by cases hc⟩
/-! ### What calls hand out -/
theorem S7 {ss:List Unit} {i:Nat}:ss.set i ()=ss:=by
 apply List.ext_getElem (by simp)
 intro j h1 h2; rfl
theorem Vl {σ:Type} {ss:List σ} {i:Nat} {d:σ} (h:i < ss.length):ss.set i (ss.getD i d)=ss:=by
 rw [List.getD_eq_getElem?_getD,List.getElem?_eq_getElem h]; exact List.set_getElem_self h
end
/-! ### In regions that draw their order -/
section
variable {α β γ:Type} [GoT α] [GoT β] [GoT γ] {A:Ow α} {B:Ow β} {E:Ow γ} {P:Program} {e:Env} {w:World} {g:Gh} {x y:Operand} {i b b1 off:Nat} {t t2:TypeId} {a0 a1:α} {s:A.S}
theorem Gp.at_ {α β:Type} [GoT α] [GoT β] {o off:Nat} {f:α→β} {s:α→β→α} (h:Gp o f s) (ho:off=o):Gp off f s:=ho ▸ h
end
end Go.Proofs.YtepehlhgkipcoaaGreatDoor
/- Appends to a slice that lies in an own variable, in regions that draw their order. No program is named here. -/
namespace Go.Proofs.YtepehlhgkipcoaaGreatDoor
open Go.RowKit

section
variable {P:Program} {e:Env} {w:World} {g:Gh} {K:Value→World→Prop} {x y:Operand}
end
def AS {α:Type} [GoT α] (i:Nat) (et:TypeId) (xs r:List α) (u:Value) (g:Gh) (w:World):Prop:=
 (RV g.m w xs u∧OS i g w et xs u) ∨ ∃ b c,u=.slice (some ⟨b,0,none⟩) xs.length c∧RV g.m w r (.slice (some ⟨b,0,none⟩) r.length c)∧OS i g w et r (.slice (some ⟨b,0,none⟩) r.length c)
section
variable {α:Type} [GoT α] {i:Nat} {et:TypeId} {xs r:List α} {u:Value} {g g':Gh} {w w':World}
theorem AS.ext (h:AS i et xs r u g w) (k:Ext g w g' w'):AS i et xs r u g' w':=by
 rcases h with ⟨h1,h2⟩ | ⟨b,c,h0,h1,h2⟩
 ·exact .inl ⟨h1.ext k,h2.ext k⟩
 ·exact .inr ⟨b,c,h0,h1.ext k,h2.ext k⟩
variable {P:Program} {N:Nat}
end
theorem Hl {P:Program} {e:Env} {x:Operand} {b d off:Nat} {s:TypeId} {i:Nat} (hf:∀ (a:Addr) w,(Instr.fieldAt s (.pointer (some a)) i).run P w=.ok (.pointer (some (a.add d))) w) (hx:ev e x=.pointer (some ⟨b,off,none⟩)):Pur P (.fieldAddr s x i) e (.pointer (some ⟨b,off + d,none⟩)):=
 Zc hf hx ⟨_,_,rfl⟩
end Go.Proofs.YtepehlhgkipcoaaGreatDoor
/- Maps that lie in variables and behind pointers; pointers as data. No program is named here. -/
namespace Go.Proofs.YtepehlhgkipcoaaGreatDoor
open Go.RowKit
/-! ### Pointers as data -/
structure Ptr (α : Type) where
 x:α
theorem PT.one {α:Type} [GoT α] {m:Nat→Nat} {w:World} {x:α} {v:Value} (h:PT m w x v):v.oneCell'=true:=by
 obtain ⟨b,o,cs,rfl,_⟩:=h; simp [Value.oneCell']
instance {α : Type} [GoT α] : GoT (Ptr α) where
 k:=1
 agg:=false
 rep m w p cs:=∃ v,cs=[v]∧PT m w p.x v
 len h:=by obtain ⟨v,rfl,_⟩:=h; rfl
 one h:=by obtain ⟨v,rfl,h⟩:=h; simpa using h.one
 mono k h:=by obtain ⟨v,rfl,h⟩:=h; exact ⟨v,rfl,h.ch k⟩
 k1 _:=rfl
structure MapRef where
 deriving DecidableEq,Inhabited
instance : GoT MapRef where
 k:=1
 agg:=false
 rep _ _ _ cs:=∃ b,cs=[.map b]
 len h:=by obtain ⟨b,rfl⟩:=h; rfl
 one h:=by obtain ⟨b,rfl⟩:=h; simp [Value.oneCell']
 mono _ h:=h
 k1 _:=rfl
/-! ### A cell that stays -/
def FC (m:Nat→Nat) (w:World) (off:Nat) (v p:Value):Prop:=∃ b o,p=.pointer (some ⟨b,o,none⟩)∧b < w.heap.size∧o + off < m b∧w.cell? ⟨b,o + off,none⟩=some v
section
variable {m m':Nat→Nat} {w w':World} {g g':Gh} {off:Nat} {v p:Value}
theorem FC.ch (h:FC m w off v p) (k:Ch m w m' w'):FC m' w' off v p:=by
 obtain ⟨b,o,rfl,hb,hm,hc⟩:=h
 exact ⟨b,o,rfl,Nat.lt_of_lt_of_le hb k.size,Nat.lt_of_lt_of_le hm (k.marks b hb),(k.cells b hb _ hm).trans hc⟩
theorem FC.ext (h:FC g.m w off v p) (k:Ext g w g' w'):FC g'.m w' off v p:=h.ch k.ch
end
section
variable {P:Program} {e:Env} {w:World} {g:Gh} {K:Value→World→Prop} {x y:Operand} {off:Nat} {u p:Value} {t:TypeId}
end
/-! ### Maps in variables -/
section
variable {κ ν:Type} [GoT ν] {enc:κ→Value} {i j k:Nat} {g g':Gh} {w w':World} {bt:TypeId} {xs:List (κ × ν)} {p v:Value}
theorem mp_one (h:MP enc i g w xs v):v.oneCell'=true:=by obtain ⟨b,es,cl,rfl,_⟩:=h; simp [Value.oneCell']
def BM (enc:κ→Value) (i j:Nat) (g:Gh) (w:World) (bt:TypeId) (xs:List (κ × ν)) (p:Value):Prop:=∃ q:Fv,OB i g w bt q p∧MP enc j g w xs q.v
theorem BM.ext (h:BM enc i j g w bt xs p) (hx:Ext g w g' w'):BM enc i j g' w' bt xs p:=let ⟨q,h1,h2⟩:=h; ⟨q,h1.ext hx,h2.ext hx⟩
end
end Go.Proofs.YtepehlhgkipcoaaGreatDoor
