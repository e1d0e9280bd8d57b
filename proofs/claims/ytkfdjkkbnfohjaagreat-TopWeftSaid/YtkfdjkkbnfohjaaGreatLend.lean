/- What is lent for a call; maps that are only read; cells of arrays by a number that varies; more of makeSlice. No program is named here. -/
import Derived.Test.YtkfdjkkbnfohjaaGreatOa
import Derived.Test.YtkfdjkkbnfohjaaGreatKey
namespace Go.Proofs.YtkfdjkkbnfohjaaGreat
open Go.RowKit

/-! ### Lending: all that there is may be read for the time of a call -/
section
variable {α:Type} [GoT α] {i:Nat} {g g':Gh} {w w':World} {t:TypeId} {x:α} {xs:List α} {p v:Value}
end
section
variable {P:Program} {e:Env} {w:World} {g:Gh} {K:Value→World→Prop} {x y z:Operand}
end

/-! ### Maps that are only read -/
section
variable {κ ν:Type} [GoT ν] {enc:κ→Value}
def MR (enc:κ→Value) (g:Gh) (w:World) (m:List (κ × ν)) (v:Value):Prop:=(v=.map none∧m=[]) ∨ ∃ i,MP enc i g w m v
def MQ (enc:κ→Value) (n:Nat) (g:Gh) (w:World) (m:List (κ × ν)) (v:Value):Prop:=(v=.map none∧m=[]) ∨ (MP enc 0 g w m v∧∀ b,v=.map (some b)→b < n)
variable {g g':Gh} {w w':World} {m:List (κ × ν)} {v:Value} {i n:Nat}
theorem MR.nil:MR enc g w ([]:List (κ × ν)) (.map none):=.inl ⟨rfl,rfl⟩
theorem MP.r (h:MP enc i g w m v):MR enc g w m v:=.inr ⟨_,h⟩
theorem MQ.r (h:MQ enc n g w m v):MR enc g w m v:=h.imp id fun h=>⟨_,h.1⟩
theorem MP.lt {b:Nat} (h:MP enc i g w m (.map (some b))):b < w.heap.size:=by
 obtain ⟨b',es,cl,hv,_,hh,_⟩:=h
 injection hv with hv; injection hv with hv; subst hv
 exact lt_of_heap hh
theorem MQ.enter {g0 gI:Gh} {wI:World} (h:MR enc gI wI m v) (hm:g0.m=gI.m) (hfr:Fr gI wI g0 wI):MQ enc wI.heap.size g0 wI m v:=by
 rcases h with h | ⟨i,h⟩
 ·exact .inl h
 refine .inr ⟨?_,fun b hb=>by subst hb; exact h.lt⟩
 obtain ⟨b,es,cl,hv,ho,hh,h1,h2,h3⟩:=h
 exact ⟨b,es,cl,hv,hfr.o b (lt_of_heap hh),hh,h1,h2,hm ▸ h3⟩
theorem MQ.stp {j:Nat} (h:MQ enc n g w m v) (k:Stp (j + 1) g w g' w'):MQ enc n g' w' m v:=h.imp id fun h=>⟨h.1.stp k (by cases j <;> rfl),h.2⟩
variable {P:Program} {e:Env} {K:Value→World→Prop} {x y z:Operand} [DecidableEq κ]
end

/-! ### Cells of an array, by a number that varies -/
section
variable {β:Type} [GoT β] {n:Nat}
def vset {β:Type} {n:Nat} (v:Vector β n) (i:Int) (y:β):Vector β n:=v.setIfInBounds i.toNat y
def vat {β:Type} {n:Nat} (i:Nat) (h:i < n) (v:Vector β n):β:=v[i]
omit [GoT β] in
theorem vat_idx {v:Vector β n} {i:Int} {a:β} (h:idx v.toList i=some a):∃ hi:i.toNat < n,vat i.toNat hi v=a:=let ⟨_,hi,h⟩:=vec_idx h; ⟨hi,h⟩
theorem SubS.dyn {i:Int} (hi:i.toNat < n):SubS (α:=Vector β n) (i.toNat * GoT.k β) (vat i.toNat hi) (fun v y=>vset v i y):=by
 have h:=SubS.vec (β:=β) hi
 refine ⟨h.1,fun m w x y cs cy hx hy=>?_⟩
 have:=h.2 m w x y cs cy hx hy
 have he:vset x i y=x.set i.toNat y hi:=by
  unfold vset
  apply Vector.ext
  intro j hj
  simp [Vector.getElem_setIfInBounds,Vector.getElem_set]
 show GoT.rep m w (vset x i y) _
 rw [he]; exact this
variable {P:Program} {e:Env} {w:World} {g:Gh} {K:Value→World→Prop} {a1:Operand}
theorem D_loadD {α β : Type} [GoT α] [GoT β] {i off : Nat} {f : α → β} {t t2 : TypeId} {p : Value} {a : α} {b : β} (hsub : Sub off f) (he : f a = b) (ha : ∀ w, (isAgg t).run P w = .ok (GoT.agg β) w) (hs : ∀ w, (sizeOf t).run P w = .ok (GoT.k β) w) (hx : ev e a1 = fPtr p off) (hp : OB i g w t2 a p)
  (h:∀ v,RV g.m w b v→K v w):Doe P (.load t a1) e w K:=by
 subst he; exact D_loadF hsub ha hs hx hp h
theorem L_loadOD {α β : Type} [GoT α] [GoT β] {i off : Nat} {f : α → β} {P : Program} {g0 : Gh} {w0 : World} {t t2 : TypeId} {x : Operand} {p : Value} {a : α} {b : β} {K : Prop} (hsub : Sub off f) (he : f a = b) (ha : ∀ w, (isAgg t).run P w = .ok (GoT.agg β) w) (hs : ∀ w, (sizeOf t).run P w = .ok (GoT.k β) w) (hp : OB i g0 w0 t2 a p)
  (k:∀ v,RV g0.m w0 b v→(∀ (e:Env) (g:Gh) (w:World),(Ch g0.m w0 g.m w∧∀ b,b < w0.heap.size→g0.o b=i→w.heap[b]?=w0.heap[b]?)→ev e x=fPtr p off→∀ d ty pos af gd,(execOp (ev e) ⟨d,.load t x,ty,pos,af,gd⟩).run P w=.ok (.value v) w)→K):K:=by
 subst he; exact L_loadO hsub ha hs hp k
theorem P_indexAddrA2 {α : Type} [GoT α] {t et : TypeId} {p : Value} {v : Vector α n} {k : IntKind} {i : Int} {a : α} {x y : Operand} {o1 off : Nat} (hoff : off = o1 + i.toNat * GoT.k α) (ht : P.underlying t = some (.array n et)) (hs : ∀ w, (sizeOf et).run P w = .ok (GoT.k α) w) (hx : ev e x = fPtr p o1) (hp : ∃ b o, p = .pointer (some ⟨b, o, none⟩)) (hy : ev e y = .int k i) (hi : idx v.toList i = some a) :
  Pur P (.indexAddr t x y) e (fPtr p off):=by
 have h:=P_indexAddrA (P:=P) (e:=e) ht hs hx (by obtain ⟨b,o,rfl⟩:=hp; exact ⟨b,o + o1,rfl⟩) hy hi
 have:fPtr (fPtr p o1) (i.toNat * GoT.k α)=fPtr p off:=by
  obtain ⟨b,o,rfl⟩:=hp
  simp [fPtr,hoff,Nat.add_assoc]
 rw [← this]; exact h
end
def vmod {β:Type} {n:Nat} (v:Vector β n) (i:Int) (h:β→β):Vector β n:=if hi:i.toNat < n then v.set i.toNat (h v[i.toNat]) else v
theorem SubS.dynC {β γ : Type} [GoT β] [GoT γ] {n : Nat} {i : Int} (hi : i.toNat < n) {o off : Nat} {f : β → γ} {s : β → γ → β} (h2 : SubS o f s) (ho : off = i.toNat * GoT.k β + o) :
  SubS (α:=Vector β n) off (fun v=>f (vat i.toNat hi v)) (fun v y=>vmod v i (fun b=>s b y)):=by
 have h:=SubS.comp (SubS.vec (β:=β) hi) h2 ho
 refine ⟨h.1,fun m w x y cs cy hx hy=>?_⟩
 have:=h.2 m w x y cs cy hx hy
 show GoT.rep m w (vmod x i (fun b=>s b y)) _
 unfold vmod
 rw [dif_pos hi]
 exact this

theorem P_nilCk {P:Program} {e:Env} {x:Operand} {a:Addr} {p:Value} (hx:ev e x=p) (hp:p=.pointer (some a)):Pur P (.nilCheck x) e p:=by subst hp; exact P_nilCheck hx
/-! ### A pointer to an element, or nil -/
section
variable {P:Program} {e:Env} {x y:Operand}
end

theorem vset_vset {β:Type} {n:Nat} (v:Vector β n) (i:Int) (y:β):vset (vset v i y) i y=vset v i y:=by
 unfold vset
 apply Vector.ext
 intro j hj
 simp [Vector.getElem_setIfInBounds]
/-! ### A variable that a draw makes and stores to -/
section
variable {α:Type} [GoT α] {i:Nat} {t2:TypeId} {a0 a1:α} {g g':Gh} {w w':World}
variable {P:Program} {N:Nat}
end

/-! ### A variable that holds an own slice -/
def BX {α:Type} [GoT α] (i j:Nat) (g:Gh) (w:World) (et bt:TypeId) (xs:List α) (p:Value):Prop:=∃ q:Fv,OB i g w bt q p∧OM j g w et xs q.v
section
variable {α:Type} [GoT α] {i j k:Nat} {g g':Gh} {w w':World} {et bt:TypeId} {xs:List α} {p:Value}
theorem BX.stp (h:BX i j g w et bt xs p) (hx:Stp k g w g' w') (h1:Nat.beq i k=false) (h2:Nat.beq j k=false:=by rfl):BX i j g' w' et bt xs p:=let ⟨q,k1,k2⟩:=h; ⟨q,k1.stp hx h1,k2.stp hx h2⟩
variable {P:Program} {e:Env} {K:Value→World→Prop} {x y:Operand}
end
section
variable {P:Program} {e:Env} {w:World} {g:Gh} {K:Value→World→Prop} {x y z:Operand}
end

/-! ### makeSlice, of structs too -/
section
variable {P:Program} {e:Env} {w:World} {g:Gh} {K:Value→World→Prop} {x y z:Operand}
end
/-! ### bits.Len of small numbers -/
section
variable {P:Program} {e:Env} {x y:Operand}
end
end Go.Proofs.YtkfdjkkbnfohjaaGreat
