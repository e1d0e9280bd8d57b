/- Values that the function owns with all that they lead to: from and to own slices; struct values; what calls hand out. No program is named here. -/
import Derived.Test.YtplaipkjhlkjgaaOy
namespace Go.Proofs.Ytplaipkjhlkjgaa
open Go.RowKit

def OVb {α:Type} [GoT α] (A:Ow α) (i:Nat) (g:Gh) (w:World) (t:TypeId) (x:α) (b:Nat):Prop:=∃ s,OV A i g w t x b s∧A.ok s
section
variable {α β γ:Type} [GoT α] [GoT β] [GoT γ] {A:Ow α} {B:Ow β} {i j b:Nat} {g g':Gh} {w w':World} {t:TypeId} {x:α} {s:A.S} {v:Value}
theorem OVb.ext (h:OVb A i g w t x b) (k:Ext g w g' w'):OVb A i g' w' t x b:=let ⟨s,h1,h2⟩:=h; ⟨s,h1.ext k,h2⟩
theorem OVb.stp (h:OVb A i g w t x b) (k:Stp j g w g' w') (hne:Nat.beq i j=false):OVb A i g' w' t x b:=let ⟨s,h1,h2⟩:=h; ⟨s,h1.stp k hne,h2⟩
theorem sh_flat : ∀ l : List (Ow.sh α).S, l.flatMap (Ow.sh α).bl = []
 | []=>rfl
 | s :: l=>by rw [List.flatMap_cons,sh_flat l]; rfl
theorem OA.toW {et:TypeId} {xs:List α} (h:OA i g w et xs v):OWx (Ow.list et (Ow.sh α)) i g w xs v:=by
 rcases h with ⟨rfl,rfl⟩ | ⟨b,c,cs,rfl,ho,hm,hh,h1,h2,h3,hf⟩
 ·exact ⟨.nil,⟨_,rfl,⟨rfl,rfl⟩,List.nodup_nil,fun c hc=>by cases hc⟩,trivial⟩
 ·have hbl : (Ow.list et (Ow.sh α)).bl (.at b c (List.replicate xs.length ())) = [b] := congrArg (List.cons b) (sh_flat (α := α) _)
  refine ⟨.at b c (List.replicate xs.length ()),⟨_,rfl,⟨rfl,h1,h2,cs,hh,h3,Eb hf⟩,by rw [hbl]; simp,fun x hx=>?_⟩,fun _ _=>trivial⟩
  rw [hbl,List.mem_singleton] at hx
  rw [hx]; exact ⟨ho,hm⟩
theorem RV.ow {u:β} {v:Value} (h:RV g.m w u v) (i:Nat):OW (Ow.sh β) i g w u () v:=let ⟨cs,h1,h2⟩:=h; ⟨cs,h2,h1,List.nodup_nil,fun c hc=>by cases hc⟩
structure Wn (A : Ow α) (i : Nat) (g : Gh) (w : World) (x : α) (s : A.S) (cs : List Value) : Prop where
 ow:A.ow s g.m w x cs
 nd:(A.bl s).Nodup
 tg:∀ c ∈ A.bl s,g.o c=i∧g.m c=0
theorem OW.wn (h:OW A i g w x s v):Wn A i g w x s v.cells.toList:=by
 have hc:=h.cells
 obtain ⟨cs,h1,h4,h5,h6⟩:=h
 exact ⟨hc,h5,h6⟩
theorem Wn.mk_ {cs:List Value} (h:Wn A i g w x s cs):OW A i g w x s (toV (GoT.agg α) cs):=⟨cs,rfl,h.ow,h.nd,h.tg⟩
theorem Wn.shp {x:α} {y:β} {t:B.S} {c1 c2:List Value} (h1:GoT.rep g.m w x c1) (h2:Wn B j g w y t c2):Wn (Ow.pair (Ow.sh α) B) j g w (x,y) ((),t) (c1 ++ c2):=
 ⟨⟨c1,c2,rfl,h1,h2.ow⟩,h2.nd,h2.tg⟩
theorem Wn.shl {y:β} {c2:List Value} (h:GoT.rep g.m w y c2) (j:Nat):Wn (Ow.sh β) j g w y () c2:=⟨h,List.nodup_nil,fun c hc=>by cases hc⟩
theorem Wn.stp {k:Nat} {cs:List Value} (h:Wn A i g w x s cs) (hk:Stp k g w g' w') (hne:Nat.beq i k=false):Wn A i g' w' x s cs:=by
 have hij:i ≠ k:=fun e=>by rw [e] at hne; simp at hne
 have hn:∀ c,g.o c=i→g.o c ≠ k:=fun c e=>by rw [e]; exact hij
 exact ⟨A.mono hk.ch (fun c hc=>hk.block c (A.lt h.ow c hc) (hn c (h.tg c hc).1)) h.ow,h.nd,fun c hc=>⟨(hk.o c (A.lt h.ow c hc) (hn c (h.tg c hc).1)).trans (h.tg c hc).1,(hk.m c (A.lt h.ow c hc) (hn c (h.tg c hc).1)).trans (h.tg c hc).2⟩⟩
theorem Wn.struct {α:Type} {to:α→β} {x:α} {s:B.S} {cs:List Value} (h:Wn B i g w (to x) s cs):@Wn α (GoT.struct α to) (Ow.struct to B) i g w x s cs:=
 @Wn.mk α (GoT.struct α to) (Ow.struct to B) i g w x s cs h.ow h.nd h.tg
theorem Wn.fl {cs:List Value} (h:Wn A i g w x s cs):Wn A i g w x s (cs ++ []):=by rw [List.append_nil]; exact h
theorem Wn.nil (et:TypeId) (A:Ow α) (i:Nat) (g:Gh) (w:World):Wn (Ow.list et A) i g w [] .nil [.slice none 0 0]:=⟨⟨rfl,rfl⟩,List.nodup_nil,fun c hc=>by cases hc⟩
theorem OW.csz (h:OW A i g w x s v):v.cells.size=GoT.k α:=by have:=A.len h.cells; simpa using this
/-! ### What calls hand out -/
def Ow.free (A:Ow α):Prop:=∀ {s:A.S} {m m':Nat→Nat} {w:World} {x:α} {cs:List Value},A.ok s→A.ow s m w x cs→A.ow s m' w x cs
theorem free_sh (h:Dy α):(Ow.sh α).free:=fun _ hw=>h _ _ _ _ _ _ hw
theorem Eg (h : A.free) {m m' : Nat → Nat} {w : World} : ∀ {ss : List A.S} {xs : List α} {cs : List Value}, (∀ s ∈ ss, A.ok s) → Rows A m w ss xs cs → Rows A m' w ss xs cs
 | [],_,_,_,h'=>h'
 | _ :: _,_,_,hok,⟨x,xs',c1,c2,h1,h2,h3,h4⟩=>⟨x,xs',c1,c2,h1,h2,h (hok _ (by simp)) h3,Eg h (fun s hs=>hok s (by simp [hs])) h4⟩
theorem free_list (et:TypeId) (h:A.free):(Ow.list et A).free:=fun {s m m' w x cs} hok hw=>by
 cases s with
 | nil=>exact hw
 | hole=>exact hok.elim
 | sh=>exact hok.elim
 | «at» bb cc ss=>obtain ⟨q1,q2,q3,carr,q4,q5,q6⟩:=hw; exact ⟨q1,q2,q3,carr,q4,q5,Eg h hok q6⟩
theorem free_pair (h1:A.free) (h2:B.free):(Ow.pair A B).free:=fun hok hw=>by obtain ⟨c1,c2,e,a1,a2⟩:=hw; exact ⟨c1,c2,e,h1 hok.1 a1,h2 hok.2 a2⟩
theorem free_struct {α:Type} {to:α→β} (h:B.free):@Ow.free α (GoT.struct α to) (Ow.struct to B):=fun hok hw=>h hok hw
theorem OWx.unlend (hf:A.free) {g1:Gh} (hx:Ext (lent g w) w g1 w') (h:OWx A i g1 w' x v):OWx A i { m:=fun b=>if b < w.heap.size then g.m b else g1.m b,o:=g1.o } w' x v:=by
 obtain ⟨s,⟨cs,h1,h4,h5,h6⟩,hok⟩:=h
 refine ⟨s,⟨cs,h1,hf hok h4,h5,fun c hc=>⟨(h6 c hc).1,?_⟩⟩,hok⟩
 show (if c < w.heap.size then g.m c else g1.m c)=0
 split
 ·rename_i hlt
  have a1:=hx.m c hlt
  have a2:=(h6 c hc).2
  have a3:=allM_le w g.m c
  have a4:(Go.Proofs.Ytplaipkjhlkjgaa.lent g w).m c=allM w g.m c:=rfl
  omega
 ·exact (h6 c hc).2
theorem Fp {ss:List Unit} {i:Nat}:ss.set i ()=ss:=by
 apply List.ext_getElem (by simp)
 intro j h1 h2; rfl
end
/-! ### In regions that draw their order -/
section
variable {α β γ:Type} [GoT α] [GoT β] [GoT γ] {A:Ow α} {B:Ow β} {E:Ow γ} {P:Program} {e:Env} {w:World} {g:Gh} {x y:Operand} {i b b1 off:Nat} {t t2:TypeId} {a0 a1:α} {s:A.S}
theorem up_owx {a:α} {v:Value}:Up Dv (fun g w=>OWx A i g w a v):=fun _ _ _ _ hx h=>h.ext hx
end
end Go.Proofs.Ytplaipkjhlkjgaa
/- Appends to a slice that lies in an own variable, in regions that draw their order. No program is named here. -/
namespace Go.Proofs.Ytplaipkjhlkjgaa
open Go.RowKit

section
variable {P:Program} {e:Env} {w:World} {g:Gh} {K:Value→World→Prop} {x y:Operand}
end
theorem Tq.split {α : Type} [GoT α] {m : Nat → Nat} {w : World} : ∀ {xs ys : List α} {cs : List Value}, Tq m w (xs ++ ys) cs → ∃ o1 o2, cs = o1 ++ o2 ∧ Tq m w xs o1 ∧ Tq m w ys o2
 | [],_,cs,h=>⟨[],cs,rfl,rfl,h⟩
 | _ :: _,_,_,⟨c1,_,rfl,h1,h2⟩=>by
  obtain ⟨o1,o2,rfl,k1,k2⟩:=Tq.split h2
  exact ⟨c1 ++ o1,o2,by rw [List.append_assoc],⟨c1,o1,rfl,h1,k1⟩,k2⟩

def AS {α:Type} [GoT α] (i:Nat) (et:TypeId) (xs r:List α) (u:Value) (g:Gh) (w:World):Prop:=
 (RV g.m w xs u∧OS i g w et xs u) ∨ ∃ b c,u=.slice (some ⟨b,0,none⟩) xs.length c∧RV g.m w r (.slice (some ⟨b,0,none⟩) r.length c)∧OS i g w et r (.slice (some ⟨b,0,none⟩) r.length c)
section
variable {α:Type} [GoT α] {i:Nat} {et:TypeId} {xs r:List α} {u:Value} {g g':Gh} {w w':World}
theorem AS.ext (h:AS i et xs r u g w) (k:Ext g w g' w'):AS i et xs r u g' w':=by
 rcases h with ⟨h1,h2⟩ | ⟨b,c,h0,h1,h2⟩
 ·exact .inl ⟨h1.ext k,h2.ext k⟩
 ·exact .inr ⟨b,c,h0,h1.ext k,h2.ext k⟩
variable {P:Program} {N:Nat}
end
theorem Lg {P:Program} {e:Env} {x:Operand} {b d off:Nat} {s:TypeId} {i:Nat} (hf:∀ (a:Addr) w,(Instr.fieldAt s (.pointer (some a)) i).run P w=.ok (.pointer (some (a.add d))) w) (hx:ev e x=.pointer (some ⟨b,off,none⟩)):Pur P (.fieldAddr s x i) e (.pointer (some ⟨b,off + d,none⟩)):=
 Zc hf hx ⟨_,_,rfl⟩
end Go.Proofs.Ytplaipkjhlkjgaa
/- Maps that lie in variables and behind pointers; pointers as data. No program is named here. -/
namespace Go.Proofs.Ytplaipkjhlkjgaa
open Go.RowKit
/-! ### Pointers as data -/
structure Ptr (α : Type) where
 x:α
theorem PT.one {α:Type} [GoT α] {m:Nat→Nat} {w:World} {x:α} {v:Value} (h:PT m w x v):v.oneCell'=true:=by
 obtain ⟨b,o,cs,rfl,_⟩:=h; simp [Value.oneCell']
instance {α : Type} [GoT α] : GoT (Ptr α) where
 k:=1
 agg:=false
 rep m w p cs:=∃ v,cs=[v]∧PT m w p.x v
 len h:=by obtain ⟨v,rfl,_⟩:=h; rfl
 one h:=by obtain ⟨v,rfl,h⟩:=h; simpa using h.one
 mono k h:=by obtain ⟨v,rfl,h⟩:=h; exact ⟨v,rfl,h.ch k⟩
 k1 _:=rfl
structure MapRef where
 deriving DecidableEq,Inhabited
instance : GoT MapRef where
 k:=1
 agg:=false
 rep _ _ _ cs:=∃ b,cs=[.map b]
 len h:=by obtain ⟨b,rfl⟩:=h; rfl
 one h:=by obtain ⟨b,rfl⟩:=h; simp [Value.oneCell']
 mono _ h:=h
 k1 _:=rfl
/-! ### A cell that stays -/
def FC (m:Nat→Nat) (w:World) (off:Nat) (v p:Value):Prop:=∃ b o,p=.pointer (some ⟨b,o,none⟩)∧b < w.heap.size∧o + off < m b∧w.cell? ⟨b,o + off,none⟩=some v
section
variable {m m':Nat→Nat} {w w':World} {g g':Gh} {off:Nat} {v p:Value}
theorem FC.ch (h:FC m w off v p) (k:Ch m w m' w'):FC m' w' off v p:=by
 obtain ⟨b,o,rfl,hb,hm,hc⟩:=h
 exact ⟨b,o,rfl,Nat.lt_of_lt_of_le hb k.size,Nat.lt_of_lt_of_le hm (k.marks b hb),(k.cells b hb _ hm).trans hc⟩
theorem FC.ext (h:FC g.m w off v p) (k:Ext g w g' w'):FC g'.m w' off v p:=h.ch k.ch
theorem FC.stp {i:Nat} (h:FC g.m w off v p) (k:Stp i g w g' w'):FC g'.m w' off v p:=h.ch k.ch
end
section
variable {P:Program} {e:Env} {w:World} {g:Gh} {K:Value→World→Prop} {x y:Operand} {off:Nat} {u p:Value} {t:TypeId}
end
/-! ### Maps in variables -/
section
variable {κ ν:Type} [GoT ν] {enc:κ→Value} {i j k:Nat} {g g':Gh} {w w':World} {bt:TypeId} {xs:List (κ × ν)} {p v:Value}
theorem mp_one (h:MP enc i g w xs v):v.oneCell'=true:=by obtain ⟨b,es,cl,rfl,_⟩:=h; simp [Value.oneCell']
def BM (enc:κ→Value) (i j:Nat) (g:Gh) (w:World) (bt:TypeId) (xs:List (κ × ν)) (p:Value):Prop:=∃ q:Fv,OB i g w bt q p∧MP enc j g w xs q.v
theorem BM.ext (h:BM enc i j g w bt xs p) (hx:Ext g w g' w'):BM enc i j g' w' bt xs p:=let ⟨q,h1,h2⟩:=h; ⟨q,h1.ext hx,h2.ext hx⟩
theorem BM.stp (h:BM enc i j g w bt xs p) (hx:Stp k g w g' w') (h1:Nat.beq i k=false) (h2:Nat.beq j k=false:=by rfl):BM enc i j g' w' bt xs p:=let ⟨q,k1,k2⟩:=h; ⟨q,k1.stp hx h1,k2.stp hx h2⟩
end
end Go.Proofs.Ytplaipkjhlkjgaa
