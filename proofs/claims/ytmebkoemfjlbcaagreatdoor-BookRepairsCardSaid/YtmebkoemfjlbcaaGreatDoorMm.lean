/- Values that the function owns with all that they lead to: from and to own slices; struct values; what calls hand out. No program is named here. -/
import Derived.Test.YtmebkoemfjlbcaaGreatDoorOy
namespace Go.Proofs.YtmebkoemfjlbcaaGreatDoor
open Go.RowKit

def OVb {α:Type} [GoT α] (A:Ow α) (i:Nat) (g:Gh) (w:World) (t:TypeId) (x:α) (b:Nat):Prop:=∃ s,OV A i g w t x b s∧A.ok s
section
variable {α β γ:Type} [GoT α] [GoT β] [GoT γ] {A:Ow α} {B:Ow β} {i j b:Nat} {g g':Gh} {w w':World} {t:TypeId} {x:α} {s:A.S} {v:Value}
theorem OVb.ext (h:OVb A i g w t x b) (k:Ext g w g' w'):OVb A i g' w' t x b:=let ⟨s,h1,h2⟩:=h; ⟨s,h1.ext k,h2⟩
theorem OVb.stp (h:OVb A i g w t x b) (k:Stp j g w g' w') (hne:Nat.beq i j=false):OVb A i g' w' t x b:=let ⟨s,h1,h2⟩:=h; ⟨s,h1.stp k hne,h2⟩
theorem OVb.ist {n:Nat} (h:OVb A i g w t x b) (k:IStp n g w g' w') (hi:Nat.beq i 0=false:=by rfl):OVb A i g' w' t x b:=h.stp k.st hi
theorem sh_flat : ∀ l : List (Ow.sh α).S, l.flatMap (Ow.sh α).bl = []
 | []=>rfl
 | s :: l=>by rw [List.flatMap_cons,sh_flat l]; rfl
theorem OA.toW {et:TypeId} {xs:List α} (h:OA i g w et xs v):OWx (Ow.list et (Ow.sh α)) i g w xs v:=by
 rcases h with ⟨rfl,rfl⟩ | ⟨b,c,cs,rfl,ho,hm,hh,h1,h2,h3,hf⟩
 ·exact ⟨.nil,⟨_,rfl,⟨rfl,rfl⟩,List.nodup_nil,fun c hc=>by cases hc⟩,trivial⟩
 ·have hbl : (Ow.list et (Ow.sh α)).bl (.at b c (List.replicate xs.length ())) = [b] := congrArg (List.cons b) (sh_flat (α := α) _)
  refine ⟨.at b c (List.replicate xs.length ()),⟨_,rfl,⟨rfl,h1,h2,cs,hh,h3,flat_rows hf⟩,by rw [hbl]; simp,fun x hx=>?_⟩,fun _ _=>trivial⟩
  rw [hbl,List.mem_singleton] at hx
  rw [hx]; exact ⟨ho,hm⟩
theorem RV.ow {u:β} {v:Value} (h:RV g.m w u v) (i:Nat):OW (Ow.sh β) i g w u () v:=let ⟨cs,h1,h2⟩:=h; ⟨cs,h2,h1,List.nodup_nil,fun c hc=>by cases hc⟩
structure Wn (A : Ow α) (i : Nat) (g : Gh) (w : World) (x : α) (s : A.S) (cs : List Value) : Prop where
 ow:A.ow s g.m w x cs
 nd:(A.bl s).Nodup
 tg:∀ c ∈ A.bl s,g.o c=i∧g.m c=0
theorem Wn.pair {x:α} {y:β} {s:A.S} {t:B.S} {c1 c2:List Value} (h1:Wn A i g w x s c1) (h2:Wn B j g w y t c2) (hij:Nat.beq i j=false):∃ g',Stp i g w g' w∧g'.m=g.m∧Wn (Ow.pair A B) j g' w (x,y) (s,t) (c1 ++ c2):=by
 have hne:i ≠ j:=fun e=>by rw [e] at hij; simp at hij
 have hd:∀ c,c ∈ A.bl s→c ∉ B.bl t:=fun c a1 a2=>hne ((h1.tg c a1).1.symm.trans (h2.tg c a2).1)
 refine ⟨retB (A.bl s) j g,retB_stp (fun c hc=>(h1.tg c hc).1) j,rfl,⟨c1,c2,rfl,h1.ow,h2.ow⟩,List.nodup_append.2 ⟨h1.nd,h2.nd,fun a ha b hb e=>hd a ha (e ▸ hb)⟩,fun c hc=>?_⟩
 rcases List.mem_append.1 hc with hc | hc
 ·exact ⟨if_pos hc,(h1.tg c hc).2⟩
 ·exact ⟨by show (if _ then _ else _)=_; rw [if_neg fun h=>hd c h hc]; exact (h2.tg c hc).1,(h2.tg c hc).2⟩
theorem Wn.shl {y:β} {c2:List Value} (h:GoT.rep g.m w y c2) (j:Nat):Wn (Ow.sh β) j g w y () c2:=⟨h,List.nodup_nil,fun c hc=>by cases hc⟩
theorem Wn.stp {k:Nat} {cs:List Value} (h:Wn A i g w x s cs) (hk:Stp k g w g' w') (hne:Nat.beq i k=false):Wn A i g' w' x s cs:=by
 have hij:i ≠ k:=fun e=>by rw [e] at hne; simp at hne
 have hn:∀ c,g.o c=i→g.o c ≠ k:=fun c e=>by rw [e]; exact hij
 exact ⟨A.mono hk.ch (fun c hc=>hk.block c (A.lt h.ow c hc) (hn c (h.tg c hc).1)) h.ow,h.nd,fun c hc=>⟨(hk.o c (A.lt h.ow c hc) (hn c (h.tg c hc).1)).trans (h.tg c hc).1,(hk.m c (A.lt h.ow c hc) (hn c (h.tg c hc).1)).trans (h.tg c hc).2⟩⟩
theorem Wn.struct {α:Type} {to:α→β} {x:α} {s:B.S} {cs:List Value} (h:Wn B i g w (to x) s cs):@Wn α (GoT.struct α to) (Ow.struct to B) i g w x s cs:=
 @Wn.mk α (GoT.struct α to) (Ow.struct to B) i g w x s cs h.ow h.nd h.tg
theorem Wn.fl {cs:List Value} (h:Wn A i g w x s cs):Wn A i g w x s (cs ++ []):=by rw [List.append_nil]; exact h
theorem Wn.nil (et:TypeId) (A:Ow α) (i:Nat) (g:Gh) (w:World):Wn (Ow.list et A) i g w [] .nil [.slice none 0 0]:=⟨⟨rfl,rfl⟩,List.nodup_nil,fun c hc=>by cases hc⟩
/-! ### What calls hand out -/
end
/-! ### In regions that draw their order -/
section
variable {α β γ:Type} [GoT α] [GoT β] [GoT γ] {A:Ow α} {B:Ow β} {E:Ow γ} {P:Program} {e:Env} {w:World} {g:Gh} {x y:Operand} {i b b1 off:Nat} {t t2:TypeId} {a0 a1:α} {s:A.S}
theorem D_storeR0 {α : Type} [GoT α] {t t2 : TypeId} {i : Nat} {p v : Value} {a0 a1 : α} (hs : ∀ w, (sizeOf t).run P w = .ok (GoT.k α) w) (hx : ev e x = p) (hp : OB i g w t2 a0 p ∨ OB i g w t2 a1 p) (hy : ev e y = v) (hv : RV g.m w a1 v) :
  Doe P (.store t x y) e w fun _ w'=>∃ g',(boxRel i (fun g w=>OB i g w t2 a0 p) (fun g w=>OB i g w t2 a1 p)).rel g w g' w'∧OB i g' w' t2 a1 p:=by
 rcases hp with hp | hp
 ·exact D_storeO hs hx hp hy hv fun g' w' hst hb=>⟨g',⟨hst,fun _=>hb,fun _=>.inr hb⟩,hb⟩
 ·exact D_storeO hs hx hp hy hv fun g' w' hst hb=>⟨g',⟨hst,fun _=>hb,fun _=>.inr hb⟩,hb⟩
end
end Go.Proofs.YtmebkoemfjlbcaaGreatDoor
/- Appends to a slice that lies in an own variable, in regions that draw their order. No program is named here. -/
namespace Go.Proofs.YtmebkoemfjlbcaaGreatDoor
open Go.RowKit

section
variable {P:Program} {e:Env} {w:World} {g:Gh} {K:Value→World→Prop} {x y:Operand}
end
theorem FlatR.split {α : Type} [GoT α] {m : Nat → Nat} {w : World} : ∀ {xs ys : List α} {cs : List Value}, FlatR m w (xs ++ ys) cs → ∃ o1 o2, cs = o1 ++ o2 ∧ FlatR m w xs o1 ∧ FlatR m w ys o2
 | [],_,cs,h=>⟨[],cs,rfl,rfl,h⟩
 | _ :: _,_,_,⟨c1,_,rfl,h1,h2⟩=>by
  obtain ⟨o1,o2,rfl,k1,k2⟩:=FlatR.split h2
  exact ⟨c1 ++ o1,o2,by rw [List.append_assoc],⟨c1,o1,rfl,h1,k1⟩,k2⟩

def AS {α:Type} [GoT α] (i:Nat) (et:TypeId) (xs r:List α) (u:Value) (g:Gh) (w:World):Prop:=
 (RV g.m w xs u∧OS i g w et xs u) ∨ ∃ b c,u=.slice (some ⟨b,0,none⟩) xs.length c∧RV g.m w r (.slice (some ⟨b,0,none⟩) r.length c)∧OS i g w et r (.slice (some ⟨b,0,none⟩) r.length c)
section
variable {α:Type} [GoT α] {i:Nat} {et:TypeId} {xs r:List α} {u:Value} {g g':Gh} {w w':World}
theorem AS.ext (h:AS i et xs r u g w) (k:Ext g w g' w'):AS i et xs r u g' w':=by
 rcases h with ⟨h1,h2⟩ | ⟨b,c,h0,h1,h2⟩
 ·exact .inl ⟨h1.ext k,h2.ext k⟩
 ·exact .inr ⟨b,c,h0,h1.ext k,h2.ext k⟩
variable {P:Program} {N:Nat}
end
end Go.Proofs.YtmebkoemfjlbcaaGreatDoor
/- Maps that lie in variables and behind pointers; pointers as data. No program is named here. -/
namespace Go.Proofs.YtmebkoemfjlbcaaGreatDoor
open Go.RowKit
/-! ### Pointers as data -/
structure Ptr (α : Type) where
 x:α
theorem PT.one {α:Type} [GoT α] {m:Nat→Nat} {w:World} {x:α} {v:Value} (h:PT m w x v):v.oneCell'=true:=by
 obtain ⟨b,o,cs,rfl,_⟩:=h; simp [Value.oneCell']
instance {α : Type} [GoT α] : GoT (Ptr α) where
 k:=1
 agg:=false
 rep m w p cs:=∃ v,cs=[v]∧PT m w p.x v
 len h:=by obtain ⟨v,rfl,_⟩:=h; rfl
 one h:=by obtain ⟨v,rfl,h⟩:=h; simpa using h.one
 mono k h:=by obtain ⟨v,rfl,h⟩:=h; exact ⟨v,rfl,h.ch k⟩
 k1 _:=rfl
structure MapRef where
 deriving DecidableEq,Inhabited
instance : GoT MapRef where
 k:=1
 agg:=false
 rep _ _ _ cs:=∃ b,cs=[.map b]
 len h:=by obtain ⟨b,rfl⟩:=h; rfl
 one h:=by obtain ⟨b,rfl⟩:=h; simp [Value.oneCell']
 mono _ h:=h
 k1 _:=rfl
/-! ### A cell that stays -/
def FC (m:Nat→Nat) (w:World) (off:Nat) (v p:Value):Prop:=∃ b o,p=.pointer (some ⟨b,o,none⟩)∧b < w.heap.size∧o + off < m b∧w.cell? ⟨b,o + off,none⟩=some v
section
variable {m m':Nat→Nat} {w w':World} {g g':Gh} {off:Nat} {v p:Value}
theorem FC.ch (h:FC m w off v p) (k:Ch m w m' w'):FC m' w' off v p:=by
 obtain ⟨b,o,rfl,hb,hm,hc⟩:=h
 exact ⟨b,o,rfl,Nat.lt_of_lt_of_le hb k.size,Nat.lt_of_lt_of_le hm (k.marks b hb),(k.cells b hb _ hm).trans hc⟩
theorem FC.ext (h:FC g.m w off v p) (k:Ext g w g' w'):FC g'.m w' off v p:=h.ch k.ch
theorem FC.stp {i:Nat} (h:FC g.m w off v p) (k:Stp i g w g' w'):FC g'.m w' off v p:=h.ch k.ch
theorem FC.ist {B:Nat} (h:FC g.m w off v p) (k:IStp B g w g' w'):FC g'.m w' off v p:=h.ch k.st.ch
end
section
variable {P:Program} {e:Env} {w:World} {g:Gh} {K:Value→World→Prop} {x y:Operand} {off:Nat} {u p:Value} {t:TypeId}
end
/-! ### Maps in variables -/
section
variable {κ ν:Type} [GoT ν] {enc:κ→Value} {i j k:Nat} {g g':Gh} {w w':World} {bt:TypeId} {xs:List (κ × ν)} {p v:Value}
theorem mp_one (h:MP enc i g w xs v):v.oneCell'=true:=by obtain ⟨b,es,cl,rfl,_⟩:=h; simp [Value.oneCell']
def BM (enc:κ→Value) (i j:Nat) (g:Gh) (w:World) (bt:TypeId) (xs:List (κ × ν)) (p:Value):Prop:=∃ q:Fv,OB i g w bt q p∧MP enc j g w xs q.v
theorem BM.ext (h:BM enc i j g w bt xs p) (hx:Ext g w g' w'):BM enc i j g' w' bt xs p:=let ⟨q,h1,h2⟩:=h; ⟨q,h1.ext hx,h2.ext hx⟩
theorem BM.stp (h:BM enc i j g w bt xs p) (hx:Stp k g w g' w') (h1:Nat.beq i k=false) (h2:Nat.beq j k=false:=by rfl):BM enc i j g' w' bt xs p:=let ⟨q,k1,k2⟩:=h; ⟨q,k1.stp hx h1,k2.stp hx h2⟩
theorem BM.ist {B:Nat} (h:BM enc i j g w bt xs p) (hx:IStp B g w g' w') (h1:Nat.beq i 0=false:=by rfl) (h2:Nat.beq j 0=false:=by rfl):BM enc i j g' w' bt xs p:=let ⟨q,k1,k2⟩:=h; ⟨q,k1.stp hx.st h1,k2.stp hx.st h2⟩
end
end Go.Proofs.YtmebkoemfjlbcaaGreatDoor
