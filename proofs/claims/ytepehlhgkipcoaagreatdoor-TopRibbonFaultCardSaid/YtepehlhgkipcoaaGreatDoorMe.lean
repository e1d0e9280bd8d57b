/- Functions with several outcomes (a range over a map fills what lives on): the plain function lists them all. No program is named here. -/
import Derived.Test.YtepehlhgkipcoaaGreatDoorCp
namespace Go.Proofs.YtepehlhgkipcoaaGreatDoor
open Go.RowKit

section
variable {P:Program} {N:Nat} {ro:Option Nat} {Q:Jg} {e:Env} {ds:List Deferred} {w:World} {x y c:Code}
end
end Go.Proofs.YtepehlhgkipcoaaGreatDoor
/- Maps that a variable may hold or not; ranges over maps that are older than the call; a map that is handed out by a function which writes another one. No program is named here. -/
namespace Go.Proofs.YtepehlhgkipcoaaGreatDoor
open Go.RowKit
open Go.ChangeMaps (setBlock)

section
variable {κ ν:Type} [GoT ν] {enc:κ→Value} {i j k:Nat} {g g':Gh} {w w':World} {bt:TypeId} {m:List (κ × ν)} {mo:Option (List (κ × ν))} {p v:Value}
def MO (enc:κ→Value) (i:Nat) (g:Gh) (w:World) (mo:Option (List (κ × ν))) (v:Value):Prop:=(mo=none∧v=.map none) ∨ ∃ m,mo=some m∧MP enc i g w m v
theorem MO.nil:MO enc i g w (none:Option (List (κ × ν))) (.map none):=.inl ⟨rfl,rfl⟩
theorem MO.ext (h:MO enc i g w mo v) (k:Ext g w g' w'):MO enc i g' w' mo v:=h.imp id fun ⟨m,h1,h2⟩=>⟨m,h1,h2.ext k⟩
def BMo (enc:κ→Value) (i j:Nat) (g:Gh) (w:World) (bt:TypeId) (mo:Option (List (κ × ν))) (p:Value):Prop:=∃ q:Fv,OB i g w bt q p∧MO enc j g w mo q.v
theorem BMo.ext (h:BMo enc i j g w bt mo p) (hx:Ext g w g' w'):BMo enc i j g' w' bt mo p:=let ⟨q,h1,h2⟩:=h; ⟨q,h1.ext hx,h2.ext hx⟩
/-! ### Maps that are older than the call, and are ranged over -/
def MY (enc:κ→Value) (n:Nat) (g:Gh) (w:World) (m:List (κ × ν)) (v:Value):Prop:=MP enc 0 g w m v∧∀ b,v=.map (some b)→b < n
variable {n:Nat}
theorem MY.ext (h:MY enc n g w m v) (k:Ext g w g' w'):MY enc n g' w' m v:=⟨h.1.ext k,h.2⟩
def MJ (enc:κ→Value) (j n:Nat) (g:Gh) (w:World) (rem:List (κ × ν)) (cur:Option (κ × ν)) (p:Value):Prop:=
 ∃ r b es cl since seen c0, p = .pointer (some ⟨r, 0, none⟩) ∧ g.o r = j ∧ g.o b = 0 ∧ b < n ∧ w.heap[b]? = some (.map es cl) ∧ w.heap[r]? = some (.mapIter (some b) since seen c0) ∧ (∀ e ∈ es.toList, e.born < since) ∧ since ≤ c0 ∧ since ≤ cl ∧ (es.toList.map (·.born)).Nodup ∧
  Hq enc g.m w (leftOf es seen).toList rem∧∀ q,cur=some q→c0=cl∧∃ en ∈ es.toList,(∃ s0:Array Nat,seen=s0.push en.born)∧en.key=enc q.1∧RV g.m w q.2 en.val
variable {rem:List (κ × ν)} {cur:Option (κ × ν)}
theorem MJ.ext (h:MJ enc j n g w rem cur p) (k:Ext g w g' w'):MJ enc j n g' w' rem cur p:=by
 obtain ⟨r,b,es,cl,since,seen,c0,hp,h1,h2,hb,h3,h4,h5,h6,h6b,h7,h8,h9⟩:=h
 exact ⟨r,b,es,cl,since,seen,c0,hp,(k.o r (Gg h4)).trans h1,(k.o b (Gg h3)).trans h2,hb,(k.below.block b (Gg h3)).trans h3,(k.below.block r (Gg h4)).trans h4,h5,h6,h6b,h7,h8.ch k.ch,
  fun q hq=>let ⟨a1,en,a2,a3,a4,a5⟩:=h9 q hq; ⟨a1,en,a2,a3,a4,a5.ch k.ch⟩⟩
variable {P:Program} {e:Env} {K:Value→World→Prop} {x y z:Operand}
/-! ### A map that is handed out by a function which writes another one -/
end
section
variable {κ ν κ' ν':Type} [GoT ν] [GoT ν'] {enc:κ→Value} {enc':κ'→Value}
end
end Go.Proofs.YtepehlhgkipcoaaGreatDoor
/- An entry of a map that is changed in place (m[k] op= x); delete. No program is named here. -/
namespace Go.Proofs.YtepehlhgkipcoaaGreatDoor
open Go.RowKit
open Go.ChangeMaps (setBlock)

section
variable {κ ν:Type} [DecidableEq κ]
end
section
variable {κ ν:Type} [GoT ν] [DecidableEq κ] {enc:κ→Value} {i:Nat} {g g':Gh} {w w':World} {m:List (κ × ν)} {k:κ} {v:Value} {n:Nat}
variable {P:Program} {e:Env} {K:Value→World→Prop} {x y z:Operand}
omit [DecidableEq κ] in
theorem MQ.one {n:Nat} (h:MQ enc n g w m v):v.oneCell'=true:=by
 rcases h with ⟨rfl,_⟩ | ⟨h,_⟩
 ·rfl
 ·exact mp_one h
omit [DecidableEq κ] in
theorem Hq.erase {m : Nat → Nat} {w : World} : ∀ {es : List MapEntry} {l : List (κ × ν)} {j : Nat}, Hq enc m w es l → Hq enc m w (es.eraseIdx j) (l.eraseIdx j)
 | [],_,_,h=>by rw [show _=[] from h]; exact rfl
 | _ :: _,_,0,⟨p,l',h,_,_,h5⟩=>by subst h; exact h5
 | _ :: _,_,j + 1,⟨p,l',h,h3,h4,h5⟩=>by subst h; exact ⟨p,l'.eraseIdx j,rfl,h3,h4,Hq.erase h5⟩
end
/-! ### Slices against nil -/
section
variable {P:Program} {e:Env} {w:World} {g:Gh} {K:Value→World→Prop} {x:Operand} {α:Type} [GoT α]
end
end Go.Proofs.YtepehlhgkipcoaaGreatDoor
