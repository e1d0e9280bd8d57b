/- Functions with several outcomes (a range over a map fills what lives on): the plain function lists them all. No program is named here. -/
import Derived.Test.YtmebkoemfjlbcaaGreatDoorCp
namespace Go.Proofs.YtmebkoemfjlbcaaGreatDoor
open Go.RowKit

section
variable {P:Program} {N:Nat} {ro:Option Nat} {Q:Post} {e:Env} {ds:List Deferred} {w:World} {x y c:Code}
end
end Go.Proofs.YtmebkoemfjlbcaaGreatDoor
/- Maps that a variable may hold or not; ranges over maps that are older than the call; a map that is handed out by a function which writes another one. No program is named here. -/
namespace Go.Proofs.YtmebkoemfjlbcaaGreatDoor
open Go.RowKit
open Go.ChangeMaps (setBlock)

section
variable {κ ν:Type} [GoT ν] {enc:κ→Value} {i j k:Nat} {g g':Gh} {w w':World} {bt:TypeId} {m:List (κ × ν)} {mo:Option (List (κ × ν))} {p v:Value}
def MO (enc:κ→Value) (i:Nat) (g:Gh) (w:World) (mo:Option (List (κ × ν))) (v:Value):Prop:=(mo=none∧v=.map none) ∨ ∃ m,mo=some m∧MP enc i g w m v
theorem MO.nil:MO enc i g w (none:Option (List (κ × ν))) (.map none):=.inl ⟨rfl,rfl⟩
theorem MO.get (h:MO enc i g w mo v) (hm:mo=some m):MP enc i g w m v:=by
 rcases h with ⟨h,_⟩ | ⟨m',h,hp⟩
 ·rw [h] at hm; cases hm
 ·rw [h] at hm; cases hm; exact hp
theorem MO.ext (h:MO enc i g w mo v) (k:Ext g w g' w'):MO enc i g' w' mo v:=h.imp id fun ⟨m,h1,h2⟩=>⟨m,h1,h2.ext k⟩
theorem MO.stp (h:MO enc i g w mo v) (k:Stp j g w g' w') (hne:Nat.beq i j=false):MO enc i g' w' mo v:=h.imp id fun ⟨m,h1,h2⟩=>⟨m,h1,h2.stp k hne⟩
theorem MO.ist {B:Nat} (h:MO enc i g w mo v) (k:IStp B g w g' w') (hi:Nat.beq i 0=false:=by rfl):MO enc i g' w' mo v:=h.stp k.st hi
def BMo (enc:κ→Value) (i j:Nat) (g:Gh) (w:World) (bt:TypeId) (mo:Option (List (κ × ν))) (p:Value):Prop:=∃ q:Fv,OB i g w bt q p∧MO enc j g w mo q.v
theorem BMo.ext (h:BMo enc i j g w bt mo p) (hx:Ext g w g' w'):BMo enc i j g' w' bt mo p:=let ⟨q,h1,h2⟩:=h; ⟨q,h1.ext hx,h2.ext hx⟩
theorem BMo.stp (h:BMo enc i j g w bt mo p) (hx:Stp k g w g' w') (h1:Nat.beq i k=false) (h2:Nat.beq j k=false:=by rfl):BMo enc i j g' w' bt mo p:=let ⟨q,k1,k2⟩:=h; ⟨q,k1.stp hx h1,k2.stp hx h2⟩
theorem BMo.ist {B:Nat} (h:BMo enc i j g w bt mo p) (hx:IStp B g w g' w') (h1:Nat.beq i 0=false:=by rfl) (h2:Nat.beq j 0=false:=by rfl):BMo enc i j g' w' bt mo p:=let ⟨q,k1,k2⟩:=h; ⟨q,k1.stp hx.st h1,k2.stp hx.st h2⟩
/-! ### Maps that are older than the call, and are ranged over -/
def MZ (enc:κ→Value) (i:Nat) (g:Gh) (w:World) (m:List (κ × ν)) (v:Value):Prop:=∃ j,j ≠ i∧MP enc j g w m v
def MY (enc:κ→Value) (n:Nat) (g:Gh) (w:World) (m:List (κ × ν)) (v:Value):Prop:=MP enc 0 g w m v∧∀ b,v=.map (some b)→b < n
theorem MY.enter (h:MZ enc i g w m v):MY enc w.heap.size { m:=g.m,o:=fun b=>if g.o b=i then 1 else 0 } w m v:=by
 obtain ⟨j,hj,h⟩:=h
 refine ⟨?_,fun b hb=>by subst hb; exact h.lt⟩
 obtain ⟨b,es,cl,hv,ho,hh,h1,h2,h3⟩:=h
 exact ⟨b,es,cl,hv,by simp [ho,hj],hh,h1,h2,h3⟩
variable {n:Nat}
theorem MY.ext (h:MY enc n g w m v) (k:Ext g w g' w'):MY enc n g' w' m v:=⟨h.1.ext k,h.2⟩
theorem MY.stp (h:MY enc n g w m v) (k:Stp (j + 1) g w g' w'):MY enc n g' w' m v:=⟨h.1.stp k (by cases j <;> rfl),h.2⟩
theorem MY.ist {B:Nat} (h:MY enc n g w m v) (k:IStp B g w g' w') (hB:n ≤ B):MY enc n g' w' m v:=by
 obtain ⟨h,hn⟩:=h
 refine ⟨?_,hn⟩
 obtain ⟨b,es,cl,hv,ho,hh,h1,h2,h3⟩:=h
 have hb:=hn b hv
 exact ⟨b,es,cl,hv,(k.o b (by omega)).trans ho,(k.below.block b (by omega)).trans hh,h1,h2,h3.ch k.st.ch⟩
def MJ (enc:κ→Value) (j n:Nat) (g:Gh) (w:World) (rem:List (κ × ν)) (cur:Option (κ × ν)) (p:Value):Prop:=
 ∃ r b es cl since seen c0, p = .pointer (some ⟨r, 0, none⟩) ∧ g.o r = j ∧ g.o b = 0 ∧ b < n ∧ w.heap[b]? = some (.map es cl) ∧ w.heap[r]? = some (.mapIter (some b) since seen c0) ∧ (∀ e ∈ es.toList, e.born < since) ∧ since ≤ c0 ∧ since ≤ cl ∧ (es.toList.map (·.born)).Nodup ∧
  EntR enc g.m w (leftOf es seen).toList rem∧∀ q,cur=some q→c0=cl∧∃ en ∈ es.toList,(∃ s0:Array Nat,seen=s0.push en.born)∧en.key=enc q.1∧RV g.m w q.2 en.val
variable {rem:List (κ × ν)} {cur:Option (κ × ν)}
theorem MJ.ext (h:MJ enc j n g w rem cur p) (k:Ext g w g' w'):MJ enc j n g' w' rem cur p:=by
 obtain ⟨r,b,es,cl,since,seen,c0,hp,h1,h2,hb,h3,h4,h5,h6,h6b,h7,h8,h9⟩:=h
 exact ⟨r,b,es,cl,since,seen,c0,hp,(k.o r (lt_of_heap h4)).trans h1,(k.o b (lt_of_heap h3)).trans h2,hb,(k.below.block b (lt_of_heap h3)).trans h3,(k.below.block r (lt_of_heap h4)).trans h4,h5,h6,h6b,h7,h8.ch k.ch,
  fun q hq=>let ⟨a1,en,a2,a3,a4,a5⟩:=h9 q hq; ⟨a1,en,a2,a3,a4,a5.ch k.ch⟩⟩
theorem MJ.stp {t:Nat} (h:MJ enc j n g w rem cur p) (k:Stp t g w g' w') (hj:Nat.beq j t=false) (hi:Nat.beq 0 t=false:=by rfl):MJ enc j n g' w' rem cur p:=by
 obtain ⟨r,b,es,cl,since,seen,c0,hp,h1,h2,hb,h3,h4,h5,h6,h6b,h7,h8,h9⟩:=h
 have nr:g.o r ≠ t:=by rw [h1]; intro he; rw [he] at hj; simp at hj
 have nb:g.o b ≠ t:=by rw [h2]; intro he; rw [← he] at hi; simp at hi
 exact ⟨r,b,es,cl,since,seen,c0,hp,(k.o r (lt_of_heap h4) nr).trans h1,(k.o b (lt_of_heap h3) nb).trans h2,hb,(k.block b (lt_of_heap h3) nb).trans h3,(k.block r (lt_of_heap h4) nr).trans h4,h5,h6,h6b,h7,h8.ch k.ch,
  fun q hq=>let ⟨a1,en,a2,a3,a4,a5⟩:=h9 q hq; ⟨a1,en,a2,a3,a4,a5.ch k.ch⟩⟩
theorem MJ.ist {B:Nat} (h:MJ enc j n g w rem cur p) (k:IStp B g w g' w') (hB:n ≤ B) (hj:Nat.beq j 0=false:=by rfl):MJ enc j n g' w' rem cur p:=by
 obtain ⟨r,b,es,cl,since,seen,c0,hp,h1,h2,hb,h3,h4,h5,h6,h6b,h7,h8,h9⟩:=h
 have nr:g.o r ≠ 0:=by rw [h1]; intro he; rw [he] at hj; simp at hj
 exact ⟨r,b,es,cl,since,seen,c0,hp,(k.st.o r (lt_of_heap h4) nr).trans h1,(k.o b (by omega)).trans h2,hb,(k.below.block b (by omega)).trans h3,(k.st.block r (lt_of_heap h4) nr).trans h4,h5,h6,h6b,h7,h8.ch k.st.ch,
  fun q hq=>let ⟨a1,en,a2,a3,a4,a5⟩:=h9 q hq; ⟨a1,en,a2,a3,a4,a5.ch k.st.ch⟩⟩
variable {P:Program} {e:Env} {K:Value→World→Prop} {x y z:Operand}
/-! ### A map that is handed out by a function which writes another one -/
end
section
variable {κ ν κ' ν':Type} [GoT ν] [GoT ν'] {enc:κ→Value} {enc':κ'→Value}
end
end Go.Proofs.YtmebkoemfjlbcaaGreatDoor
/- An entry of a map that is changed in place (m[k] op= x); delete. No program is named here. -/
namespace Go.Proofs.YtmebkoemfjlbcaaGreatDoor
open Go.RowKit
open Go.ChangeMaps (setBlock)

section
variable {κ ν:Type} [DecidableEq κ]
end
section
variable {κ ν:Type} [GoT ν] [DecidableEq κ] {enc:κ→Value} {i:Nat} {g g':Gh} {w w':World} {m:List (κ × ν)} {k:κ} {v:Value} {n:Nat}
variable {P:Program} {e:Env} {K:Value→World→Prop} {x y z:Operand}
omit [DecidableEq κ] in
/-- A map goes from one name to another. -/
theorem MP.retag (j:Nat) (h:MP enc i g w m v):∃ g',Stp i g w g' w∧MP enc j g' w m v:=by
  obtain ⟨b,es,cl,rfl,ho,hh,hb1,hb2,her⟩:=h
  exact ⟨{ m:=g.m,o:=updN g.o b j },⟨rfl,rfl,rfl,Ch.refl _ _,fun _ _ _=>rfl,fun _ _ _=>rfl,fun k _ hn=>updN_ne _ _ (fun he=>hn (by rw [he]; exact ho))⟩,b,es,cl,rfl,updN_same _ _ _,hh,hb1,hb2,her⟩
omit [DecidableEq κ] in
theorem MQ.one {n:Nat} (h:MQ enc n g w m v):v.oneCell'=true:=by
 rcases h with ⟨rfl,_⟩ | ⟨h,_⟩
 ·rfl
 ·exact mp_one h
end
/-! ### Slices against nil -/
section
variable {P:Program} {e:Env} {w:World} {g:Gh} {K:Value→World→Prop} {x:Operand} {α:Type} [GoT α]
end
end Go.Proofs.YtmebkoemfjlbcaaGreatDoor
/- Integers and texts as values of an interface type: any. No program is named here. -/
namespace Go.Proofs.YtmebkoemfjlbcaaGreatDoor
open Go.RowKit

inductive AnyV (ti ts : Nat) where
 | int (n:Int)
 | str (s:Str)
section
variable {ti ts:Nat} {P:Program} {e:Env} {x:Operand}
def AnyV.v : AnyV ti ts → Value
 | .int n=>.iface ti (.int .i64 n)
 | .str s=>.iface ts s.v
theorem AnyV.one (a:AnyV ti ts):a.v.oneCell'=true:=by cases a <;> rfl
instance : GoT (AnyV ti ts) where
 k:=1
 agg:=false
 rep _ _ x cs:=cs=[x.v]
 len h:=by subst h; rfl
 one {m w x cs} h:=by subst h; simpa using x.one
 mono _ h:=h
 k1 _:=rfl
theorem RV_any {m:Nat→Nat} {w:World} {a:AnyV ti ts} {v:Value}:RV m w a v ↔ v=a.v:=⟨fun ⟨_,h,hv⟩=>by rw [hv,h]; rfl,fun h=>⟨_,rfl,h⟩⟩
theorem P_anyInt (ht:P.underlying ti=some (.int .i64)) {n:Int} (hx:ev e x=.int .i64 n):Pur P (.makeInterface ti x) e (AnyV.int (ti:=ti) (ts:=ts) n).v:=fun _ _ _ _ _ _=>by
 simp [execOp,hx,Instr.makeInterface,Sem.run_bind,run_underlying ht,Result.andThen,AnyV.v]
theorem P_anyStr (ht:P.underlying ts=some .string) {s:Str} (hx:ev e x=s.v):Pur P (.makeInterface ts x) e (AnyV.str (ti:=ti) (ts:=ts) s).v:=fun _ _ _ _ _ _=>by
 simp [execOp,hx,Instr.makeInterface,Sem.run_bind,run_underlying ht,Result.andThen,AnyV.v]
theorem P_isStr {it:TypeId} (ht:P.underlying ts=some .string) {s:Str} (hx:ev e x=(AnyV.str (ti:=ti) (ts:=ts) s).v):Pur P (.typeAssert x it ts true) e (.tuple #[s.v,.bool true]):=fun _ _ _ _ _ _=>by
 simp [execOp,hx,Instr.typeAssert,Sem.run_bind,run_underlying ht,Result.andThen,AnyV.v]
theorem P_isInt {it:TypeId} (ht:P.underlying ti=some (.int .i64)) {n:Int} (hx:ev e x=(AnyV.int (ti:=ti) (ts:=ts) n).v):Pur P (.typeAssert x it ti true) e (.tuple #[.int .i64 n,.bool true]):=fun _ _ _ _ _ _=>by
 simp [execOp,hx,Instr.typeAssert,Sem.run_bind,run_underlying ht,Result.andThen,AnyV.v]
theorem P_notStr {it:TypeId} {z:Value} (ht:P.underlying ts=some .string) (hne:Nat.beq ti ts=false) (hz:∀ w,(zeroValue ts).run P w=.ok z w) {n:Int} (hx:ev e x=(AnyV.int (ti:=ti) (ts:=ts) n).v):Pur P (.typeAssert x it ts true) e (.tuple #[z,.bool false]):=fun _ _ _ _ _ w=>by
 have h:¬ ti=ts:=fun h=>by subst h; simp at hne
 simp [execOp,hx,Instr.typeAssert,Sem.run_bind,run_underlying ht,Result.andThen,AnyV.v,h,hz]
end
end Go.Proofs.YtmebkoemfjlbcaaGreatDoor
