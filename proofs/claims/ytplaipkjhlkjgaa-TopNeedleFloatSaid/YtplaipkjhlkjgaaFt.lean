/- Functions with several outcomes (a range over a map fills what lives on): the plain function lists them all. No program is named here. -/
import Derived.Test.YtplaipkjhlkjgaaCp
namespace Go.Proofs.Ytplaipkjhlkjgaa
open Go.RowKit

section
variable {P:Program} {N:Nat} {ro:Option Nat} {Q:Jp} {e:Env} {ds:List Deferred} {w:World} {x y c:Code}
end
end Go.Proofs.Ytplaipkjhlkjgaa
/- Maps that a variable may hold or not; ranges over maps that are older than the call; a map that is handed out by a function which writes another one. No program is named here. -/
namespace Go.Proofs.Ytplaipkjhlkjgaa
open Go.RowKit
open Go.ChangeMaps (setBlock)

section
variable {κ ν:Type} [GoT ν] {enc:κ→Value} {i j k:Nat} {g g':Gh} {w w':World} {bt:TypeId} {m:List (κ × ν)} {mo:Option (List (κ × ν))} {p v:Value}
def MO (enc:κ→Value) (i:Nat) (g:Gh) (w:World) (mo:Option (List (κ × ν))) (v:Value):Prop:=(mo=none∧v=.map none) ∨ ∃ m,mo=some m∧MP enc i g w m v
theorem MO.nil:MO enc i g w (none:Option (List (κ × ν))) (.map none):=.inl ⟨rfl,rfl⟩
theorem MO.get (h:MO enc i g w mo v) (hm:mo=some m):MP enc i g w m v:=by
 rcases h with ⟨h,_⟩ | ⟨m',h,hp⟩
 ·rw [h] at hm; cases hm
 ·rw [h] at hm; cases hm; exact hp
theorem MO.ext (h:MO enc i g w mo v) (k:Ext g w g' w'):MO enc i g' w' mo v:=h.imp id fun ⟨m,h1,h2⟩=>⟨m,h1,h2.ext k⟩
theorem MO.stp (h:MO enc i g w mo v) (k:Stp j g w g' w') (hne:Nat.beq i j=false):MO enc i g' w' mo v:=h.imp id fun ⟨m,h1,h2⟩=>⟨m,h1,h2.stp k hne⟩
def BMo (enc:κ→Value) (i j:Nat) (g:Gh) (w:World) (bt:TypeId) (mo:Option (List (κ × ν))) (p:Value):Prop:=∃ q:Fv,OB i g w bt q p∧MO enc j g w mo q.v
theorem BMo.ext (h:BMo enc i j g w bt mo p) (hx:Ext g w g' w'):BMo enc i j g' w' bt mo p:=let ⟨q,h1,h2⟩:=h; ⟨q,h1.ext hx,h2.ext hx⟩
theorem BMo.stp (h:BMo enc i j g w bt mo p) (hx:Stp k g w g' w') (h1:Nat.beq i k=false) (h2:Nat.beq j k=false:=by rfl):BMo enc i j g' w' bt mo p:=let ⟨q,k1,k2⟩:=h; ⟨q,k1.stp hx h1,k2.stp hx h2⟩
/-! ### Maps that are older than the call, and are ranged over -/
def MY (enc:κ→Value) (n:Nat) (g:Gh) (w:World) (m:List (κ × ν)) (v:Value):Prop:=MP enc 0 g w m v∧∀ b,v=.map (some b)→b < n
variable {n:Nat}
theorem MY.ext (h:MY enc n g w m v) (k:Ext g w g' w'):MY enc n g' w' m v:=⟨h.1.ext k,h.2⟩
theorem MY.stp (h:MY enc n g w m v) (k:Stp (j + 1) g w g' w'):MY enc n g' w' m v:=⟨h.1.stp k (by cases j <;> rfl),h.2⟩
def MJ (enc:κ→Value) (j n:Nat) (g:Gh) (w:World) (rem:List (κ × ν)) (cur:Option (κ × ν)) (p:Value):Prop:=
 ∃ r b es cl since seen c0, p = .pointer (some ⟨r, 0, none⟩) ∧ g.o r = j ∧ g.o b = 0 ∧ b < n ∧ w.heap[b]? = some (.map es cl) ∧ w.heap[r]? = some (.mapIter (some b) since seen c0) ∧ (∀ e ∈ es.toList, e.born < since) ∧ since ≤ c0 ∧ since ≤ cl ∧ (es.toList.map (·.born)).Nodup ∧
  Yn enc g.m w (leftOf es seen).toList rem∧∀ q,cur=some q→c0=cl∧∃ en ∈ es.toList,(∃ s0:Array Nat,seen=s0.push en.born)∧en.key=enc q.1∧RV g.m w q.2 en.val
variable {rem:List (κ × ν)} {cur:Option (κ × ν)}
theorem MJ.mi (h:MJ enc j n g w rem cur p):MI enc j 0 g w rem cur p:=by
 obtain ⟨r,b,es,cl,since,seen,c0,hp,h1,h2,_,h3,h4,h5,h6,h6b,h7,h8,h9⟩:=h
 exact ⟨r,b,es,cl,since,seen,c0,hp,h1,h2,h3,h4,h5,h6,h6b,h7,h8,h9⟩
theorem MJ.ext (h:MJ enc j n g w rem cur p) (k:Ext g w g' w'):MJ enc j n g' w' rem cur p:=by
 obtain ⟨r,b,es,cl,since,seen,c0,hp,h1,h2,hb,h3,h4,h5,h6,h6b,h7,h8,h9⟩:=h
 exact ⟨r,b,es,cl,since,seen,c0,hp,(k.o r (Gg h4)).trans h1,(k.o b (Gg h3)).trans h2,hb,(k.below.block b (Gg h3)).trans h3,(k.below.block r (Gg h4)).trans h4,h5,h6,h6b,h7,h8.ch k.ch,
  fun q hq=>let ⟨a1,en,a2,a3,a4,a5⟩:=h9 q hq; ⟨a1,en,a2,a3,a4,a5.ch k.ch⟩⟩
theorem MJ.stp {t:Nat} (h:MJ enc j n g w rem cur p) (k:Stp t g w g' w') (hj:Nat.beq j t=false) (hi:Nat.beq 0 t=false:=by rfl):MJ enc j n g' w' rem cur p:=by
 obtain ⟨r,b,es,cl,since,seen,c0,hp,h1,h2,hb,h3,h4,h5,h6,h6b,h7,h8,h9⟩:=h
 have nr:g.o r ≠ t:=by rw [h1]; intro he; rw [he] at hj; simp at hj
 have nb:g.o b ≠ t:=by rw [h2]; intro he; rw [← he] at hi; simp at hi
 exact ⟨r,b,es,cl,since,seen,c0,hp,(k.o r (Gg h4) nr).trans h1,(k.o b (Gg h3) nb).trans h2,hb,(k.block b (Gg h3) nb).trans h3,(k.block r (Gg h4) nr).trans h4,h5,h6,h6b,h7,h8.ch k.ch,
  fun q hq=>let ⟨a1,en,a2,a3,a4,a5⟩:=h9 q hq; ⟨a1,en,a2,a3,a4,a5.ch k.ch⟩⟩
variable {P:Program} {e:Env} {K:Value→World→Prop} {x y z:Operand}
/-! ### A map that is handed out by a function which writes another one -/
end
section
variable {κ ν κ' ν':Type} [GoT ν] [GoT ν'] {enc:κ→Value} {enc':κ'→Value}
end
end Go.Proofs.Ytplaipkjhlkjgaa
/- An entry of a map that is changed in place (m[k] op= x); delete. No program is named here. -/
namespace Go.Proofs.Ytplaipkjhlkjgaa
open Go.RowKit
open Go.ChangeMaps (setBlock)

section
variable {κ ν:Type} [DecidableEq κ]
end
section
variable {κ ν:Type} [GoT ν] [DecidableEq κ] {enc:κ→Value} {i:Nat} {g g':Gh} {w w':World} {m:List (κ × ν)} {k:κ} {v:Value} {n:Nat}
variable {P:Program} {e:Env} {K:Value→World→Prop} {x y z:Operand}
omit [DecidableEq κ] in
/-- A map goes from one name to another. -/
theorem MP.retag (j:Nat) (h:MP enc i g w m v):∃ g',Stp i g w g' w∧MP enc j g' w m v:=by
  obtain ⟨b,es,cl,rfl,ho,hh,hb1,hb2,her⟩:=h
  exact ⟨{ m:=g.m,o:=Kc g.o b j },⟨rfl,rfl,rfl,Ch.refl _ _,fun _ _ _=>rfl,fun _ _ _=>rfl,fun k _ hn=>Wm _ _ (fun he=>hn (by rw [he]; exact ho))⟩,b,es,cl,rfl,Qd _ _ _,hh,hb1,hb2,her⟩
omit [DecidableEq κ] in
theorem MQ.one {n:Nat} (h:MQ enc n g w m v):v.oneCell'=true:=by
 rcases h with ⟨rfl,_⟩ | ⟨h,_⟩
 ·rfl
 ·exact mp_one h
end
/-! ### Slices against nil -/
section
variable {P:Program} {e:Env} {w:World} {g:Gh} {K:Value→World→Prop} {x:Operand} {α:Type} [GoT α]
end
end Go.Proofs.Ytplaipkjhlkjgaa
/- Function values in variables: what they compute is what the variable reads as. No program is named here. -/
namespace Go.Proofs.Ytplaipkjhlkjgaa
open Go.RowKit

structure FnT (P : Program) (α β : Type) where
 φ:α→Option β
section
variable {P:Program} {α β:Type} [GoT α] [GoT β]
instance : GoT (FnT P α β) where
 k:=1
 agg:=false
 rep m w x cs:=∃ v,cs=[v]∧((v=.nilFunc∧∀ a,x.φ a=none) ∨ Cc P x.φ v ⟨m,fun _=>0⟩ w)
 len:=by rintro m w x cs ⟨v,rfl,_⟩; rfl
 one:=by
  rintro m w x cs ⟨v,rfl,h⟩ c hc
  obtain rfl:=List.mem_singleton.1 hc
  rcases h with ⟨rfl,_⟩ | ⟨f,a,k,rfl,_⟩ <;> rfl
 mono:=by
  rintro m w m' w' x cs hk ⟨v,rfl,h⟩
  refine ⟨v,rfl,h.elim .inl fun h=>.inr (h.ch (g':=⟨m',fun _=>0⟩) hk)⟩
 k1 _:=rfl
theorem RV_fnt {m:Nat→Nat} {w:World} {x:FnT P α β} {v:Value}:RV m w x v ↔ (v=.nilFunc∧∀ a,x.φ a=none) ∨ Cc P x.φ v ⟨m,fun _=>0⟩ w:=
 ⟨fun ⟨_,⟨u,rfl,h⟩,hv⟩=>by subst hv; exact h,fun h=>⟨[v],⟨v,rfl,h⟩,rfl⟩⟩
theorem RV_fntI {g:Gh} {w:World} {x:FnT P α β} {v:Value} (h:Cc P x.φ v g w):RV g.m w x v:=RV_fnt.2 (.inr h)
theorem rep_fnt0 {m:Nat→Nat} {w:World}:GoT.rep m w (⟨fun _=>none⟩:FnT P α β) [.nilFunc]:=⟨_,rfl,.inl ⟨rfl,fun _=>rfl⟩⟩
theorem D_callT {e : Env} {w : World} {g : Gh} {K : Value → World → Prop} {c y : Operand} {x : FnT P α β} {v u : Value} {a : α} {r : β} {ats : Array TypeId} (hc : ev e c = v) (hr : RV g.m w x v) (hy : ev e y = u) (hu : RV g.m w a u) (h : x.φ a = some r)
  (k:∀ g' w' v,Ext g w g' w'→RV g'.m w' r v→K v w'):Doe P (.call { callee:=.value c,args:=#[y],argTypes:=ats }) e w K:=by
 rcases RV_fnt.1 hr with ⟨_,hn⟩ | ⟨f,first,caps,rfl,hent,hcl⟩
 ·rw [hn] at h; cases h
 ·exact Dm (g:=g) (vs:=[u]) (xs:=[y]) hc hent (.cons hy .nil) (hcl g w (Ch.refl _ _) a u r hu h) k
end
end Go.Proofs.Ytplaipkjhlkjgaa
