/- Appends of own rows to an own slice of slices. No program is named here. -/
import Derived.Test.YtmpjooneiaiffaaCh
namespace Go.Proofs.Ytmpjooneiaiffaa
open Go.RowKit
section
variable {γ:Type} [GoT γ] {E:Ow γ} {P:Program} {m:Nat→Nat} {w:World} {g:Gh} {e:Env} {K:Value→World→Prop} {x y:Operand}
theorem OA.csz1 {i:Nat} {et:TypeId} {xs:List γ} {v:Value} (h:OA i g w et xs v):v.cells.size=1:=let ⟨_,ow,_⟩:=OA.toW h; OW.csz ow
end
end Go.Proofs.Ytmpjooneiaiffaa
/- A region that draws its order, whose changing operations come in one order; some loads come before one of them, the operation M. No program is named here. -/
namespace Go.Proofs.Ytmpjooneiaiffaa
open Go.RowKit
section
variable {P:Program} {ops:Array Oper}
variable {cst:Nat→Option Bool} {L:Bool→World→Prop} {M:Nat} {Q:Env→World→Prop}
end
section
variable {P:Program} {ops:Array Oper} {ls es V U:List Nat} {M:Nat} {g0:Gh} {w0:World} {Q:Env→World→Prop} {i:Nat} {l:List Nat} {e:Env} {w:World} {op:Op} {ty:TypeId} {pos:String} {af:Array Edge} {gd:Option (Nat × Bool)} {d:Option Tmp}
end
section
variable {α β γ:Type} [GoT α] [GoT γ] {A:Ow α} {E:Ow γ} {P:Program} {x:Operand} {i b b1 off:Nat} {t t2:TypeId} {a:α} {s:A.S}
end
end Go.Proofs.Ytmpjooneiaiffaa
/- A part cut out of an own slice, in place; a slice that an own variable shares. No program is named here. -/
namespace Go.Proofs.Ytmpjooneiaiffaa
open Go.RowKit
section
variable {α:Type} [GoT α] {m:Nat→Nat} {w:World}
theorem Qb.take : ∀ {xs : List α} {cs : List Value} (n : Nat), Qb m w xs cs → Qb m w (xs.take n) (cs.take (n * GoT.k α))
 | [],_,n,h=>by rw [show _=[] from h]; simp; exact rfl
 | _ :: _,_,0,_=>by simp; exact rfl
 | _ :: _,_,n + 1,⟨c1,c2,he,h1,h2⟩=>by
  subst he
  have hl:=GoT.len h1
  have e1:(n + 1) * GoT.k α=c1.length + n * GoT.k α:=by rw [Nat.add_mul,hl]; omega
  rw [List.take_succ_cons,e1,List.take_append,List.take_of_length_le (Nat.le_add_right _ _),Nat.add_sub_cancel_left]
  exact ⟨_,_,rfl,h1,h2.take n⟩
theorem Qb.drop : ∀ {xs : List α} {cs : List Value} (n : Nat), Qb m w xs cs → Qb m w (xs.drop n) (cs.drop (n * GoT.k α))
 | [],_,n,h=>by rw [show _=[] from h]; simp; exact rfl
 | _ :: _,_,0,h=>by simpa using h
 | _ :: _,_,n + 1,⟨c1,c2,he,h1,h2⟩=>by
  subst he
  have hl:=GoT.len h1
  have e1:(n + 1) * GoT.k α=c1.length + n * GoT.k α:=by rw [Nat.add_mul,hl]; omega
  rw [List.drop_succ_cons,e1,List.drop_append,List.drop_of_length_le (Nat.le_add_right _ _),List.nil_append,Nat.add_sub_cancel_left]
  exact h2.drop n
end
section
variable {P:Program} {e:Env} {w:World} {g:Gh} {K:Value→World→Prop} {x y z:Operand}
end
end Go.Proofs.Ytmpjooneiaiffaa
/- A region that draws its order, of which some changing operations come in several orders: a tree of orders. No program is named here. -/
namespace Go.Proofs.Ytmpjooneiaiffaa
open Go.RowKit
inductive OTr where
 | done
 | step (i:Nat) (t:OTr)
 | alt (i:Nat) (t:OTr) (r:OTr)
 | stop
section
variable {P:Program} {ops:Array Oper}
variable {cst:Nat→Option Bool} {L:Bool→World→Prop} {M:Nat} {Q:Env→World→Prop}
structure Form (N : Nat) (ops : Array Oper) : Prop where
 ok:∀ j,j < ops.size→okO N (Qh ops j).dst=true∧isSel (Qh ops j)=false∧∀ k ∈ Tb (Qh ops j),k < j
variable {N n:Nat}
end
section
variable {P:Program} {ops:Array Oper} {ls es V U:List Nat} {M:Nat} {g0:Gh} {w0:World} {Q:Env→World→Prop} {i:Nat} {t r:OTr} {e:Env} {w:World} {op:Op} {ty:TypeId} {pos:String} {af:Array Edge} {gd:Option (Nat × Bool)} {d:Option Tmp}
end
end Go.Proofs.Ytmpjooneiaiffaa
/- Variables that a draw makes and stores to, several of them. No program is named here. -/
namespace Go.Proofs.Ytmpjooneiaiffaa
open Go.RowKit
structure Vd where
 tag:Nat
 A0:Value→Ql
 A1:Value→Ql
 e0:∀ {v g w g' w'},Ext g w g' w'→A0 v g w→A0 v g' w'
 e1:∀ {v g w g' w'},Ext g w g' w'→A1 v g w→A1 v g' w'
 s0:∀ {v k g w g' w'},tag ≠ k→Stp k g w g' w'→A0 v g w→A0 v g' w'
 s1:∀ {v k g w g' w'},tag ≠ k→Stp k g w g' w'→A1 v g w→A1 v g' w'
section
variable {n0:Nat} {vs:List Vd} {g g':Gh} {w w':World}
variable {β:Type} [GoT β]
variable {P:Program} {N:Nat} {e:Env}
end
section
variable {α:Type} [GoT α] {i:Nat} {g g1:Gh} {w w':World} {t:TypeId} {xs:List α} {v:Value}
end
end Go.Proofs.Ytmpjooneiaiffaa
/- The builtin copy into a slice that the function owns; a variable that holds an own slice that is appended to; full products of unsigned numbers. No program is named here. -/
namespace Go.Proofs.Ytmpjooneiaiffaa
open Go.RowKit

/-! ### A variable that holds an own slice that begins its block -/
def BXA {α:Type} [GoT α] (i j:Nat) (g:Gh) (w:World) (et bt:TypeId) (xs:List α) (p:Value):Prop:=∃ q:Fv,OB i g w bt q p∧OA j g w et xs q.v
def BXF {α:Type} [GoT α] (i j:Nat) (g:Gh) (w:World) (et bt:TypeId) (q:Fv) (u:Value) (xs:List α) (p:Value):Prop:=OB i g w bt q p∧OM j g w et xs u
def BXAF {α:Type} [GoT α] (i j:Nat) (g:Gh) (w:World) (et bt:TypeId) (q:Fv) (u:Value) (xs:List α) (p:Value):Prop:=OB i g w bt q p∧OA j g w et xs u
section
variable {α:Type} [GoT α] {i j k:Nat} {g g':Gh} {w w':World} {et bt:TypeId} {xs:List α} {p:Value} {q:Fv} {u:Value}
theorem BXA.stp (h:BXA i j g w et bt xs p) (hx:Stp k g w g' w') (h1:Nat.beq i k=false) (h2:Nat.beq j k=false:=by rfl):BXA i j g' w' et bt xs p:=let ⟨q,k1,k2⟩:=h; ⟨q,k1.stp hx h1,k2.stp hx h2⟩
theorem BXF.stp (h:BXF i j g w et bt q u xs p) (hx:Stp k g w g' w') (h1:Nat.beq i k=false) (h2:Nat.beq j k=false:=by rfl):BXF i j g' w' et bt q u xs p:=⟨h.1.stp hx h1,h.2.stp hx h2⟩
theorem BXAF.stp (h:BXAF i j g w et bt q u xs p) (hx:Stp k g w g' w') (h1:Nat.beq i k=false) (h2:Nat.beq j k=false:=by rfl):BXAF i j g' w' et bt q u xs p:=⟨h.1.stp hx h1,h.2.stp hx h2⟩
end

/-! ### copy -/
section
variable {P:Program} {e:Env} {w:World} {g:Gh} {K:Value→World→Prop} {x y:Operand}
end

/-! ### Handing out -/
/-! ### Unsigned numbers -/
section
variable {P:Program} {e:Env} {w:World} {K:Value→World→Prop} {x y:Operand}
end
/-! ### Unsigned numbers of 64 bits as data -/
structure U64 where
 n:Int
 deriving DecidableEq,Inhabited
instance {k:Nat}:OfNat U64 k:=⟨⟨k⟩⟩
instance : GoT U64 where
 k:=1
 agg:=false
 rep _ _ x cs:=cs=[.int .u64 x.n]
 len h:=by subst h; rfl
 one h:=by subst h; simp [Value.oneCell']
 mono _ h:=h
 k1 _:=rfl
section
variable {P:Program} {e:Env} {x y:Operand}
end
/-! ### Slices that stay written and appended to, through calls -/
section
variable {α:Type} [GoT α] {i j:Nat} {g0 g:Gh} {w0 w:World} {t:TypeId} {xs xs0:List α} {v:Value}
theorem OA.enter (h:OA i g w t xs v):OA 1 { m:=g.m,o:=fun b=>if g.o b=i then 1 else 0 } w t xs v:=by
 rcases h with h | ⟨b,c,cs,hp,ho,hm,hh,h1,h2,h3,hf⟩
 ·exact .inl h
 ·exact .inr ⟨b,c,cs,hp,by simp [ho],hm,hh,h1,h2,h3,hf⟩
end

/-! ### Texts as keys of maps -/
/-! ### Appends to an own slice of what is shared -/
section
variable {γ:Type} [GoT γ] {P:Program} {w:World} {g:Gh} {e:Env} {K:Value→World→Prop} {x y:Operand} {i j:Nat} {et:TypeId}
end
end Go.Proofs.Ytmpjooneiaiffaa
/- Functions with several outcomes (a range over a map fills what lives on): the plain function lists them all. No program is named here. -/
namespace Go.Proofs.Ytmpjooneiaiffaa
open Go.RowKit

def catL {ρ : Type} : List (Option (List ρ)) → Option (List ρ)
 | []=>some []
 | x :: xs => match x, catL xs with
  | some a,some b=>some (a ++ b)
  | _,_=>none
def pickL {α ρ:Type} (rem:List α) (k:α→List α→Option (List ρ)):Option (List ρ):=catL ((splits rem).map fun p=>k p.1 p.2)
noncomputable def callL {α ρ : Type} (rs : List α) (k : α → Option ρ) : Option ρ := match rs with
 | []=>none
 | a :: l=>@ite _ (∀ b ∈ l,k b=k a) (Classical.propDecidable _) (k a) none
theorem catL_h {ρ : Type} : ∀ {l : List (Option (List ρ))} {rs : List ρ}, catL l = some rs → ∀ x ∈ l, ∃ r, x = some r ∧ ∀ a ∈ r, a ∈ rs
 | [],_,_,_,hx=>by cases hx
 | none :: l,rs,h,x,hx=>by cases h
 | some y :: l,rs,h,x,hx=>by
  unfold catL at h
  cases hc:catL l with
  | none=>rw [hc] at h; cases h
  | some b=>
   rw [hc] at h
   simp only [Option.some.injEq] at h; subst h
   rcases List.mem_cons.1 hx with rfl | hx
   ·exact ⟨y,rfl,fun c hc=>List.mem_append_left _ hc⟩
   ·obtain ⟨r, h1, h2⟩ := catL_h hc x hx
    exact ⟨r,h1,fun c hc=>List.mem_append_right _ (h2 c hc)⟩
theorem pickL_h {α ρ:Type} {rem:List α} {k:α→List α→Option (List ρ)} {r r0:List ρ} (h:pickL rem k=some r) (hs:∀ a ∈ r,a ∈ r0) (p:α × List α) (hp:p ∈ splits rem):∃ r,k p.1 p.2=some r∧∀ a ∈ r,a ∈ r0:=by
 obtain ⟨r',h1,h2⟩:=catL_h h _ (List.mem_map.2 ⟨p,hp,rfl⟩)
 exact ⟨r',h1,fun a ha=>hs a (h2 a ha)⟩
theorem callL_h {α ρ:Type} {rs:List α} {k:α→Option ρ} {r:ρ} (h:callL rs k=some r):∀ a ∈ rs,k a=some r:=by
 unfold callL at h
 split at h
 ·cases h
 ·rename_i a l
  split at h
  ·rename_i hall
   intro b hb
   rcases List.mem_cons.1 hb with rfl | hb
   ·exact h
   ·rw [hall b hb,h]
  ·cases h
section
variable {P:Program} {N:Nat} {ro:Option Nat} {Q:Post} {e:Env} {ds:List Deferred} {w:World} {x y c:Code}
theorem E_joinCDL {σ ρ : Type} {r r0 : List ρ} {k : σ → Option (List ρ)} {f : (σ → Option (List ρ)) → Option (List ρ)} (hr : jn k f = some r) (hs : ∀ a ∈ r, a ∈ r0) (R : σ → Env → List Deferred → World → Prop)
  (h1:∀ (X:Env→List Deferred→World→Prop) (k:σ→Option (List ρ)),(∀ s e ds w,R s e ds w→∀ r,k s=some r→(∀ a ∈ r,a ∈ r0)→X e ds w)→∀ r,f k=some r→(∀ a ∈ r,a ∈ r0)→E P N ro x (thn X Q) e ds w)
  (h2:∀ s e ds w,R s e ds w→∀ r,k s=some r→(∀ a ∈ r,a ∈ r0)→E P N ro y Q e ds w):E P N ro (.seq x y) Q e ds w:=
 Zf (h1 _ k (fun s e ds w hR r hk hs=>h2 s e ds w hR r hk hs) r hr hs)
theorem E_lpDL {σ ρ : Type} {r r0 : List ρ} {m : Nat} {s : σ} {body : (σ → Option (List ρ)) → σ → Option (List ρ)} (hr : lp body m s = some r) (hs : ∀ a ∈ r, a ∈ r0) (R : σ → Env → List Deferred → World → Prop) (h0 : R s e ds w)
  (step:∀ (X:Env→List Deferred→World→Prop) (rec:σ→Option (List ρ)),(∀ s e ds w,R s e ds w→∀ r,rec s=some r→(∀ a ∈ r,a ∈ r0)→X e ds w)→∀ s e ds w,R s e ds w→∀ r,body rec s=some r→(∀ a ∈ r,a ∈ r0)→E P N ro c (thn X Q) e ds w):E P N ro (.loop c) Q e ds w:=by
 refine E_loop m ?_
 revert s e ds w r
 induction m with
 | zero=>intro e ds w r s hr _ h0; rw [lp_zero] at hr; cases hr
 | succ m ih=>
  intro e ds w r s hr hs h0
  rw [lp_succ] at hr
  exact step _ (lp body m) (fun s e ds w hR r hk hs=>ih hk hs hR) s e ds w h0 r hr hs
end
end Go.Proofs.Ytmpjooneiaiffaa
