/- Maps that lie in variables and behind pointers; pointers as data. No program is named here. -/
import Derived.Test.YtmpjooneiaiffaaAs
namespace Go.Proofs.Ytmpjooneiaiffaa
open Go.RowKit
/-! ### Pointers as data -/
structure Ptr (α : Type) where
 x:α
theorem PT.one {α:Type} [GoT α] {m:Nat→Nat} {w:World} {x:α} {v:Value} (h:PT m w x v):v.oneCell'=true:=by
 obtain ⟨b,o,cs,rfl,_⟩:=h; simp [Value.oneCell']
instance {α : Type} [GoT α] : GoT (Ptr α) where
 k:=1
 agg:=false
 rep m w p cs:=∃ v,cs=[v]∧PT m w p.x v
 len h:=by obtain ⟨v,rfl,_⟩:=h; rfl
 one h:=by obtain ⟨v,rfl,h⟩:=h; simpa using h.one
 mono k h:=by obtain ⟨v,rfl,h⟩:=h; exact ⟨v,rfl,h.ch k⟩
 k1 _:=rfl
theorem RV_ptr {α:Type} [GoT α] {m:Nat→Nat} {w:World} {p:Ptr α} {v:Value}:RV m w p v ↔ PT m w p.x v:=
 ⟨fun ⟨cs,⟨u,h1,h2⟩,hv⟩=>by subst h1; subst hv; exact h2,fun h=>⟨[v],⟨v,rfl,h⟩,rfl⟩⟩
structure Mp where
 deriving DecidableEq,Inhabited
instance : GoT Mp where
 k:=1
 agg:=false
 rep _ _ _ cs:=∃ b,cs=[.map b]
 len h:=by obtain ⟨b,rfl⟩:=h; rfl
 one h:=by obtain ⟨b,rfl⟩:=h; simp [Value.oneCell']
 mono _ h:=h
 k1 _:=rfl
/-! ### A cell that stays -/
def FC (m:Nat→Nat) (w:World) (off:Nat) (v p:Value):Prop:=∃ b o,p=.pointer (some ⟨b,o,none⟩)∧b < w.heap.size∧o + off < m b∧w.cell? ⟨b,o + off,none⟩=some v
section
variable {m m':Nat→Nat} {w w':World} {g g':Gh} {off:Nat} {v p:Value}
theorem FC.ch (h:FC m w off v p) (k:Ch m w m' w'):FC m' w' off v p:=by
 obtain ⟨b,o,rfl,hb,hm,hc⟩:=h
 exact ⟨b,o,rfl,Nat.lt_of_lt_of_le hb k.size,Nat.lt_of_lt_of_le hm (k.marks b hb),(k.cells b hb _ hm).trans hc⟩
theorem FC.ext (h:FC g.m w off v p) (k:Ext g w g' w'):FC g'.m w' off v p:=h.ch k.ch
theorem FC.stp {i:Nat} (h:FC g.m w off v p) (k:Stp i g w g' w'):FC g'.m w' off v p:=h.ch k.ch
theorem FC.ist {B:Nat} (h:FC g.m w off v p) (k:Bn B g w g' w'):FC g'.m w' off v p:=h.ch k.st.ch
theorem PT.fc {q:Fv} (h:PT m w q p):FC m w 0 q.v p:=by
 obtain ⟨b,o,cs,rfl,hb,hm,hr,hc⟩:=h
 have hr':cs=[q.v]:=hr
 subst hr'
 exact ⟨b,o,rfl,hb,hm,hc 0 _ rfl⟩
theorem PT.ptrOf {α:Type} [GoT α] {q:Fv} {x:α} {c:Value} (h:PT m w q c) (k:PT m w x q.v):PT m w (⟨x⟩:Ptr α) c:=by
 obtain ⟨b,o,cs,rfl,hb,hm,hr,hc⟩:=h
 exact ⟨b,o,cs,rfl,hb,hm,⟨q.v,hr,k⟩,hc⟩
end
section
variable {P:Program} {e:Env} {w:World} {g:Gh} {K:Value→World→Prop} {x y:Operand} {off:Nat} {u p:Value} {t:TypeId}
theorem fc_run (ha:∀ w,(isAgg t).run P w=.ok false w) (hs:∀ w,(sizeOf t).run P w=.ok 1 w) (hu:u.oneCell'=true) {m:Nat→Nat} (hf:FC m w off u p):∀ a,Gn p off=.pointer (some a)→(loadVar t a).run P w=.ok u w:=by
 obtain ⟨b,o,rfl,hb,hm,hc⟩:=hf
 intro a he
 have he':a=⟨b,o + off,none⟩:=by simpa [Gn] using he.symm
 subst he'
 have:=Hd (P:=P) (α:=Fv) (t:=t) (a:=⟨u,hu⟩) (b:=b) (off:=o + off) (cs:=[u]) (w:=w) ha hs (m:=m) rfl (fun j c hj=>by
  cases j with
  | zero=>simp at hj; subst hj; exact hc
  | succ j=>simp at hj)
 simpa [toV,show GoT.agg Fv=false from rfl] using this
theorem Sb {g0 : Gh} {w0 : World} (ha : ∀ w, (isAgg t).run P w = .ok false w) (hs : ∀ w, (sizeOf t).run P w = .ok 1 w) (hu : u.oneCell' = true) (hf : FC g0.m w0 off u p) :
  ∀ (e:Env) (g:Gh) (w:World),Ch g0.m w0 g.m w→ev e x=Gn p off→∀ d ty pos af gd,(execOp (ev e) ⟨d,.load t x,ty,pos,af,gd⟩).run P w=.ok (.value u) w:=fun e g w hx he d ty pos af gd=>by
 obtain ⟨b,o,hp,_⟩:=id hf
 have h1:=fc_run (P:=P) ha hs hu (hf.ch hx) ⟨b,o + off,none⟩ (by rw [hp]; rfl)
 have he2:ev e x=.pointer (some ⟨b,o + off,none⟩):=by rw [he,hp]; rfl
 simp [execOp,he2,Instr.loadAt,Instr.sureAddr,h1]
theorem D_loadFC (ha:∀ w,(isAgg t).run P w=.ok false w) (hs:∀ w,(sizeOf t).run P w=.ok 1 w) (hu:u.oneCell'=true) (hx:ev e x=Gn p off) (hf:FC g.m w off u p) (h:K u w):Doe P (.load t x) e w K:=fun d ty pos af gd=>by
 have:=Sb (P:=P) (x:=x) ha hs hu hf e g w (Ch.refl _ _) hx d ty pos af gd
 unfold doE
 rw [this]; exact h
theorem D_loadFC0 (ha:∀ w,(isAgg t).run P w=.ok false w) (hs:∀ w,(sizeOf t).run P w=.ok 1 w) (hu:u.oneCell'=true) (hx:ev e x=p) (hf:FC g.m w 0 u p) (h:K u w):Doe P (.load t x) e w K:=
 D_loadFC ha hs hu (hx.trans (fPtr0 (let ⟨b,o,hp,_⟩:=hf; ⟨b,o,hp⟩)).symm) hf h
theorem L_loadFC0 {g0 : Gh} {w0 : World} (ha : ∀ w, (isAgg t).run P w = .ok false w) (hs : ∀ w, (sizeOf t).run P w = .ok 1 w) (hu : u.oneCell' = true) (hf : FC g0.m w0 0 u p) :
  ∀ (e:Env) (g:Gh) (w:World),Ch g0.m w0 g.m w→ev e x=p→∀ d ty pos af gd,(execOp (ev e) ⟨d,.load t x,ty,pos,af,gd⟩).run P w=.ok (.value u) w:=fun e g w hx he=>
 Sb ha hs hu hf e g w hx (he.trans (fPtr0 (let ⟨b,o,hp,_⟩:=hf; ⟨b,o,hp⟩)).symm)
theorem D_boxF {α:Type} [GoT α] {v:Value} {a:α} (hx:ev e x=v) (hv:RV g.m w a v) (hc:v.cells.toList[off]?=some u) (h:∀ g' w' p,Ext g w g' w'→PT g'.m w' a p→FC g'.m w' off u p→K p w'):Doe P (.box t x) e w K:=fun d ty pos af gd=>by
 have hl:off < v.cells.size:=by have:=(List.getElem?_eq_some_iff.1 hc).1; simpa using this
 have hrun:(execOp (ev e) ⟨d,.box t x,ty,pos,af,gd⟩).run P w=.ok (.value (.pointer (some ⟨w.heap.size,0,none⟩))) (w.alloc (.cells v.cells t)):=by
  simp [execOp,hx,Instr.box,newVar,newRow,Result.andThen]
 unfold doE; rw [hrun]
 refine h _ _ _ (My g w _ t) (pt_new hv.cells) ⟨w.heap.size,0,rfl,by simp,?_,?_⟩
 ·show 0 + off < Hy g.m w.heap.size v.cells.size w.heap.size
  rw [Qd]; omega
 ·rw [Nat.zero_add,Ui,← Array.getElem?_toList]; exact hc
end
/-! ### Maps in variables -/
section
variable {κ ν:Type} [GoT ν] {enc:κ→Value} {i j k:Nat} {g g':Gh} {w w':World} {bt:TypeId} {xs:List (κ × ν)} {p v:Value}
theorem Xy (h:MP enc i g w xs v):v.oneCell'=true:=by obtain ⟨b,es,cl,rfl,_⟩:=h; simp [Value.oneCell']
theorem Ov (h:MP enc i g w xs v):v.cells=#[v]:=by obtain ⟨b,es,cl,rfl,_⟩:=h; rfl
theorem MP.ref {m:Nat→Nat} (h:MP enc i g w xs v):RV m w' (⟨⟩:Mp) v:=by obtain ⟨b,es,cl,rfl,_⟩:=h; exact ⟨_,⟨some b,rfl⟩,rfl⟩
def BM (enc:κ→Value) (i j:Nat) (g:Gh) (w:World) (bt:TypeId) (xs:List (κ × ν)) (p:Value):Prop:=∃ q:Fv,OB i g w bt q p∧MP enc j g w xs q.v
theorem BM.stp (h:BM enc i j g w bt xs p) (hx:Stp k g w g' w') (h1:Nat.beq i k=false) (h2:Nat.beq j k=false:=by rfl):BM enc i j g' w' bt xs p:=let ⟨q,k1,k2⟩:=h; ⟨q,k1.stp hx h1,k2.stp hx h2⟩
theorem BM.ist {B:Nat} (h:BM enc i j g w bt xs p) (hx:Bn B g w g' w') (h1:Nat.beq i 0=false:=by rfl) (h2:Nat.beq j 0=false:=by rfl):BM enc i j g' w' bt xs p:=let ⟨q,k1,k2⟩:=h; ⟨q,k1.stp hx.st h1,k2.stp hx.st h2⟩
theorem Ml {m:Nat→Nat} {w:World}:RV m w (⟨.map none,rfl⟩:Fv) (.map none):=Jh.2 rfl
theorem MP.handm {j i:Nat} {g0 g:Gh} {w0 w:World} {m:List (κ × ν)} {v:Value} (hfr:Fr g0 w0 g w) (h:MP enc (j + 1) g w m v):∃ g',Ext g0 w0 g' w∧g'.m=g.m∧MP enc i g' w m v:=by
 obtain ⟨b,es,cl,rfl,ho,hh,h1,h2,h3⟩:=h
 have hb:¬ b < w0.heap.size:=fun hb=>by have:=hfr.o b hb; omega
 refine ⟨{ m:=g.m,o:=fun c=>if c < w0.heap.size then g0.o c else if c=b then i else 0 },⟨hfr.below,hfr.m,fun c hc=>by simp [hc]⟩,rfl,b,es,cl,rfl,?_,hh,h1,h2,h3⟩
 simp [hb]
theorem Az {P : Program} {f : FuncId} {fn : Func} {c : Code} {args : Array Value} {i : Nat} {g : Gh} {w : World} {R : Gh → World → Value → Prop} (hf : P.funcs[f]? = some fn) (hb : fn.body = some c) (hN : args.size ≤ fn.ntmps)
  (h:∀ g0,g0={ m:=g.m,o:=fun b=>if g.o b=i then 1 else 0 }→FrM i g w g0 w→E P fn.ntmps none c (Rp P fn (OutM i g w R)) (Vp args) [] w):FnM P f args i g w R:=by
 refine Calls.mono (Dv hf hb hN (h _ rfl (FrM.start i g w))) ?_
 rintro r w' ⟨v,rfl,g',hfr,hr⟩
 exact ⟨v,rfl,_,hfr.fin,hr⟩
end
end Go.Proofs.Ytmpjooneiaiffaa
