/- Variables that a draw makes and stores to, several of them. No program is named here. -/
import Derived.Test.YtmpjooneiaiffaaCt
namespace Go.Proofs.Ytmpjooneiaiffaa
open Go.RowKit
structure Vd where
 tag:Nat
 A0:Value→Qg
 A1:Value→Qg
 e0:∀ {v g w g' w'},Ext g w g' w'→A0 v g w→A0 v g' w'
 e1:∀ {v g w g' w'},Ext g w g' w'→A1 v g w→A1 v g' w'
 s0:∀ {v k g w g' w'},tag ≠ k→Stp k g w g' w'→A0 v g w→A0 v g' w'
 s1:∀ {v k g w g' w'},tag ≠ k→Stp k g w g' w'→A1 v g w→A1 v g' w'
section
variable {n0:Nat} {vs:List Vd} {g g':Gh} {w w':World}
variable {β:Type} [GoT β]
variable {P:Program} {N:Nat} {e:Env}
end
section
variable {α:Type} [GoT α] {i:Nat} {g g1:Gh} {w w':World} {t:TypeId} {xs:List α} {v:Value}
end
end Go.Proofs.Ytmpjooneiaiffaa
/- The builtin copy into a slice that the function owns; a variable that holds an own slice that is appended to; full products of unsigned numbers. No program is named here. -/
namespace Go.Proofs.Ytmpjooneiaiffaa
open Go.RowKit

/-! ### A variable that holds an own slice that begins its block -/
def BXA {α:Type} [GoT α] (i j:Nat) (g:Gh) (w:World) (et bt:TypeId) (xs:List α) (p:Value):Prop:=∃ q:Fv,OB i g w bt q p∧OA j g w et xs q.v
def BXF {α:Type} [GoT α] (i j:Nat) (g:Gh) (w:World) (et bt:TypeId) (q:Fv) (u:Value) (xs:List α) (p:Value):Prop:=OB i g w bt q p∧OM j g w et xs u
def BXAF {α:Type} [GoT α] (i j:Nat) (g:Gh) (w:World) (et bt:TypeId) (q:Fv) (u:Value) (xs:List α) (p:Value):Prop:=OB i g w bt q p∧OA j g w et xs u
section
variable {α:Type} [GoT α] {i j k:Nat} {g g':Gh} {w w':World} {et bt:TypeId} {xs:List α} {p:Value} {q:Fv} {u:Value}
theorem BXA.stp (h:BXA i j g w et bt xs p) (hx:Stp k g w g' w') (h1:Nat.beq i k=false) (h2:Nat.beq j k=false:=by rfl):BXA i j g' w' et bt xs p:=let ⟨q,k1,k2⟩:=h; ⟨q,k1.stp hx h1,k2.stp hx h2⟩
theorem BXF.stp (h:BXF i j g w et bt q u xs p) (hx:Stp k g w g' w') (h1:Nat.beq i k=false) (h2:Nat.beq j k=false:=by rfl):BXF i j g' w' et bt q u xs p:=⟨h.1.stp hx h1,h.2.stp hx h2⟩
theorem BXAF.stp (h:BXAF i j g w et bt q u xs p) (hx:Stp k g w g' w') (h1:Nat.beq i k=false) (h2:Nat.beq j k=false:=by rfl):BXAF i j g' w' et bt q u xs p:=⟨h.1.stp hx h1,h.2.stp hx h2⟩
end

/-! ### copy -/
section
variable {P:Program} {e:Env} {w:World} {g:Gh} {K:Value→World→Prop} {x y:Operand}
end

/-! ### Handing out -/
/-! ### Unsigned numbers -/
section
variable {P:Program} {e:Env} {w:World} {K:Value→World→Prop} {x y:Operand}
end
/-! ### Unsigned numbers of 64 bits as data -/
structure U64 where
 n:Int
 deriving DecidableEq,Inhabited
instance {k:Nat}:OfNat U64 k:=⟨⟨k⟩⟩
instance : GoT U64 where
 k:=1
 agg:=false
 rep _ _ x cs:=cs=[.int .u64 x.n]
 len h:=by subst h; rfl
 one h:=by subst h; simp [Value.oneCell']
 mono _ h:=h
 k1 _:=rfl
section
variable {P:Program} {e:Env} {x y:Operand}
end
/-! ### Slices that stay written and appended to, through calls -/
section
variable {α:Type} [GoT α] {i j:Nat} {g0 g:Gh} {w0 w:World} {t:TypeId} {xs xs0:List α} {v:Value}
theorem OA.enter (h:OA i g w t xs v):OA 1 { m:=g.m,o:=fun b=>if g.o b=i then 1 else 0 } w t xs v:=by
 rcases h with h | ⟨b,c,cs,hp,ho,hm,hh,h1,h2,h3,hf⟩
 ·exact .inl h
 ·exact .inr ⟨b,c,cs,hp,by simp [ho],hm,hh,h1,h2,h3,hf⟩
end

/-! ### Texts as keys of maps -/
/-! ### Appends to an own slice of what is shared -/
section
variable {γ:Type} [GoT γ] {P:Program} {w:World} {g:Gh} {e:Env} {K:Value→World→Prop} {x y:Operand} {i j:Nat} {et:TypeId}
end
/-! ### Numbers of 32 bits -/
section
variable {P:Program} {e:Env} {x y:Operand}
end
end Go.Proofs.Ytmpjooneiaiffaa
/- Functions with several outcomes (a range over a map fills what lives on): the plain function lists them all. No program is named here. -/
namespace Go.Proofs.Ytmpjooneiaiffaa
open Go.RowKit

def Iu {ρ : Type} : List (Option (List ρ)) → Option (List ρ)
 | []=>some []
 | x :: xs => match x, Iu xs with
  | some a,some b=>some (a ++ b)
  | _,_=>none
def pickL {α ρ:Type} (rem:List α) (k:α→List α→Option (List ρ)):Option (List ρ):=Iu ((Vh rem).map fun p=>k p.1 p.2)
noncomputable def callL {α ρ : Type} (rs : List α) (k : α → Option ρ) : Option ρ := match rs with
 | []=>none
 | a :: l=>@ite _ (∀ b ∈ l,k b=k a) (Classical.propDecidable _) (k a) none
theorem catL_h {ρ : Type} : ∀ {l : List (Option (List ρ))} {rs : List ρ}, Iu l = some rs → ∀ x ∈ l, ∃ r, x = some r ∧ ∀ a ∈ r, a ∈ rs
 | [],_,_,_,hx=>by cases hx
 | none :: l,rs,h,x,hx=>by cases h
 | some y :: l,rs,h,x,hx=>by
  unfold Iu at h
  cases hc:Iu l with
  | none=>rw [hc] at h; cases h
  | some b=>
   rw [hc] at h
   simp only [Option.some.injEq] at h; subst h
   rcases List.mem_cons.1 hx with rfl | hx
   ·exact ⟨y,rfl,fun c hc=>List.mem_append_left _ hc⟩
   ·obtain ⟨r, h1, h2⟩ := catL_h hc x hx
    exact ⟨r,h1,fun c hc=>List.mem_append_right _ (h2 c hc)⟩
theorem pickL_h {α ρ:Type} {rem:List α} {k:α→List α→Option (List ρ)} {r r0:List ρ} (h:pickL rem k=some r) (hs:∀ a ∈ r,a ∈ r0) (p:α × List α) (hp:p ∈ Vh rem):∃ r,k p.1 p.2=some r∧∀ a ∈ r,a ∈ r0:=by
 obtain ⟨r',h1,h2⟩:=catL_h h _ (List.mem_map.2 ⟨p,hp,rfl⟩)
 exact ⟨r',h1,fun a ha=>hs a (h2 a ha)⟩
theorem callL_h {α ρ:Type} {rs:List α} {k:α→Option ρ} {r:ρ} (h:callL rs k=some r):∀ a ∈ rs,k a=some r:=by
 unfold callL at h
 split at h
 ·cases h
 ·rename_i a l
  split at h
  ·rename_i hall
   intro b hb
   rcases List.mem_cons.1 hb with rfl | hb
   ·exact h
   ·rw [hall b hb,h]
  ·cases h
section
variable {P:Program} {N:Nat} {ro:Option Nat} {Q:Yk} {e:Env} {ds:List Deferred} {w:World} {x y c:Code}
theorem E_joinCDL {σ ρ : Type} {r r0 : List ρ} {k : σ → Option (List ρ)} {f : (σ → Option (List ρ)) → Option (List ρ)} (hr : jn k f = some r) (hs : ∀ a ∈ r, a ∈ r0) (R : σ → Env → List Deferred → World → Prop)
  (h1:∀ (X:Env→List Deferred→World→Prop) (k:σ→Option (List ρ)),(∀ s e ds w,R s e ds w→∀ r,k s=some r→(∀ a ∈ r,a ∈ r0)→X e ds w)→∀ r,f k=some r→(∀ a ∈ r,a ∈ r0)→E P N ro x (thn X Q) e ds w)
  (h2:∀ s e ds w,R s e ds w→∀ r,k s=some r→(∀ a ∈ r,a ∈ r0)→E P N ro y Q e ds w):E P N ro (.seq x y) Q e ds w:=
 Zf (h1 _ k (fun s e ds w hR r hk hs=>h2 s e ds w hR r hk hs) r hr hs)
theorem E_lpDL {σ ρ : Type} {r r0 : List ρ} {m : Nat} {s : σ} {body : (σ → Option (List ρ)) → σ → Option (List ρ)} (hr : lp body m s = some r) (hs : ∀ a ∈ r, a ∈ r0) (R : σ → Env → List Deferred → World → Prop) (h0 : R s e ds w)
  (step:∀ (X:Env→List Deferred→World→Prop) (rec:σ→Option (List ρ)),(∀ s e ds w,R s e ds w→∀ r,rec s=some r→(∀ a ∈ r,a ∈ r0)→X e ds w)→∀ s e ds w,R s e ds w→∀ r,body rec s=some r→(∀ a ∈ r,a ∈ r0)→E P N ro c (thn X Q) e ds w):E P N ro (.loop c) Q e ds w:=by
 refine E_loop m ?_
 revert s e ds w r
 induction m with
 | zero=>intro e ds w r s hr _ h0; rw [lp_zero] at hr; cases hr
 | succ m ih=>
  intro e ds w r s hr hs h0
  rw [Md] at hr
  exact step _ (lp body m) (fun s e ds w hR r hk hs=>ih hk hs hR) s e ds w h0 r hr hs
end
end Go.Proofs.Ytmpjooneiaiffaa
/- Maps that a variable may hold or not; ranges over maps that are older than the call; a map that is handed out by a function which writes another one. No program is named here. -/
namespace Go.Proofs.Ytmpjooneiaiffaa
open Go.RowKit
open Go.ChangeMaps (setBlock)

section
variable {κ ν:Type} [GoT ν] {enc:κ→Value} {i j k:Nat} {g g':Gh} {w w':World} {bt:TypeId} {m:List (κ × ν)} {mo:Option (List (κ × ν))} {p v:Value}
def MO (enc:κ→Value) (i:Nat) (g:Gh) (w:World) (mo:Option (List (κ × ν))) (v:Value):Prop:=(mo=none∧v=.map none) ∨ ∃ m,mo=some m∧MP enc i g w m v
theorem MO.nil:MO enc i g w (none:Option (List (κ × ν))) (.map none):=.inl ⟨rfl,rfl⟩
theorem MP.toMO (h:MP enc i g w m v):MO enc i g w (some m) v:=.inr ⟨m,rfl,h⟩
theorem MO.get (h:MO enc i g w mo v) (hm:mo=some m):MP enc i g w m v:=by
 rcases h with ⟨h,_⟩ | ⟨m',h,hp⟩
 ·rw [h] at hm; cases hm
 ·rw [h] at hm; cases hm; exact hp
theorem MO.ext (h:MO enc i g w mo v) (k:Ext g w g' w'):MO enc i g' w' mo v:=h.imp id fun ⟨m,h1,h2⟩=>⟨m,h1,h2.ext k⟩
theorem MO.stp (h:MO enc i g w mo v) (k:Stp j g w g' w') (hne:Nat.beq i j=false):MO enc i g' w' mo v:=h.imp id fun ⟨m,h1,h2⟩=>⟨m,h1,h2.stp k hne⟩
theorem mo_one (h:MO enc i g w mo v):v.oneCell'=true:=by
 rcases h with ⟨_,rfl⟩ | ⟨m,_,h⟩
 ·rfl
 ·exact Xy h
def BMo (enc:κ→Value) (i j:Nat) (g:Gh) (w:World) (bt:TypeId) (mo:Option (List (κ × ν))) (p:Value):Prop:=∃ q:Fv,OB i g w bt q p∧MO enc j g w mo q.v
theorem BMo.stp (h:BMo enc i j g w bt mo p) (hx:Stp k g w g' w') (h1:Nat.beq i k=false) (h2:Nat.beq j k=false:=by rfl):BMo enc i j g' w' bt mo p:=let ⟨q,k1,k2⟩:=h; ⟨q,k1.stp hx h1,k2.stp hx h2⟩
theorem BMo.ist {B:Nat} (h:BMo enc i j g w bt mo p) (hx:Bn B g w g' w') (h1:Nat.beq i 0=false:=by rfl) (h2:Nat.beq j 0=false:=by rfl):BMo enc i j g' w' bt mo p:=let ⟨q,k1,k2⟩:=h; ⟨q,k1.stp hx.st h1,k2.stp hx.st h2⟩
/-! ### Maps that are older than the call, and are ranged over -/
def MZ (enc:κ→Value) (i:Nat) (g:Gh) (w:World) (m:List (κ × ν)) (v:Value):Prop:=∃ j,j ≠ i∧MP enc j g w m v
def MY (enc:κ→Value) (n:Nat) (g:Gh) (w:World) (m:List (κ × ν)) (v:Value):Prop:=MP enc 0 g w m v∧∀ b,v=.map (some b)→b < n
theorem MY.enter (h:MZ enc i g w m v):MY enc w.heap.size { m:=g.m,o:=fun b=>if g.o b=i then 1 else 0 } w m v:=by
 obtain ⟨j,hj,h⟩:=h
 refine ⟨?_,fun b hb=>by subst hb; exact h.lt⟩
 obtain ⟨b,es,cl,hv,ho,hh,h1,h2,h3⟩:=h
 exact ⟨b,es,cl,hv,by simp [ho,hj],hh,h1,h2,h3⟩
variable {n:Nat}
theorem MY.ext (h:MY enc n g w m v) (k:Ext g w g' w'):MY enc n g' w' m v:=⟨h.1.ext k,h.2⟩
theorem MY.stp (h:MY enc n g w m v) (k:Stp (j + 1) g w g' w'):MY enc n g' w' m v:=⟨h.1.stp k (by cases j <;> rfl),h.2⟩
def MJ (enc:κ→Value) (j n:Nat) (g:Gh) (w:World) (rem:List (κ × ν)) (cur:Option (κ × ν)) (p:Value):Prop:=
 ∃ r b es cl since seen c0, p = .pointer (some ⟨r, 0, none⟩) ∧ g.o r = j ∧ g.o b = 0 ∧ b < n ∧ w.heap[b]? = some (.map es cl) ∧ w.heap[r]? = some (.mapIter (some b) since seen c0) ∧ (∀ e ∈ es.toList, e.born < since) ∧ since ≤ c0 ∧ since ≤ cl ∧ (es.toList.map (·.born)).Nodup ∧
  Yo enc g.m w (leftOf es seen).toList rem∧∀ q,cur=some q→c0=cl∧∃ en ∈ es.toList,(∃ s0:Array Nat,seen=s0.push en.born)∧en.key=enc q.1∧RV g.m w q.2 en.val
variable {rem:List (κ × ν)} {cur:Option (κ × ν)}
theorem MJ.mi (h:MJ enc j n g w rem cur p):MI enc j 0 g w rem cur p:=by
 obtain ⟨r,b,es,cl,since,seen,c0,hp,h1,h2,_,h3,h4,h5,h6,h6b,h7,h8,h9⟩:=h
 exact ⟨r,b,es,cl,since,seen,c0,hp,h1,h2,h3,h4,h5,h6,h6b,h7,h8,h9⟩
theorem MJ.dropc (h:MJ enc j n g w rem cur p):MJ enc j n g w rem none p:=by
 obtain ⟨r,b,es,cl,since,seen,c0,hp,h1,h2,hb,h3,h4,h5,h6,h6b,h7,h8,h9⟩:=h
 exact ⟨r,b,es,cl,since,seen,c0,hp,h1,h2,hb,h3,h4,h5,h6,h6b,h7,h8,fun q hq=>(by cases hq)⟩
theorem MJ.ext (h:MJ enc j n g w rem cur p) (k:Ext g w g' w'):MJ enc j n g' w' rem cur p:=by
 obtain ⟨r,b,es,cl,since,seen,c0,hp,h1,h2,hb,h3,h4,h5,h6,h6b,h7,h8,h9⟩:=h
 exact ⟨r,b,es,cl,since,seen,c0,hp,(k.o r (Gr h4)).trans h1,(k.o b (Gr h3)).trans h2,hb,(k.below.block b (Gr h3)).trans h3,(k.below.block r (Gr h4)).trans h4,h5,h6,h6b,h7,h8.ch k.ch,
  fun q hq=>let ⟨a1,en,a2,a3,a4,a5⟩:=h9 q hq; ⟨a1,en,a2,a3,a4,a5.ch k.ch⟩⟩
theorem MJ.stp {t:Nat} (h:MJ enc j n g w rem cur p) (k:Stp t g w g' w') (hj:Nat.beq j t=false) (hi:Nat.beq 0 t=false:=by rfl):MJ enc j n g' w' rem cur p:=by
 obtain ⟨r,b,es,cl,since,seen,c0,hp,h1,h2,hb,h3,h4,h5,h6,h6b,h7,h8,h9⟩:=h
 have nr:g.o r ≠ t:=by rw [h1]; intro he; rw [he] at hj; simp at hj
 have nb:g.o b ≠ t:=by rw [h2]; intro he; rw [← he] at hi; simp at hi
 exact ⟨r,b,es,cl,since,seen,c0,hp,(k.o r (Gr h4) nr).trans h1,(k.o b (Gr h3) nb).trans h2,hb,(k.block b (Gr h3) nb).trans h3,(k.block r (Gr h4) nr).trans h4,h5,h6,h6b,h7,h8.ch k.ch,
  fun q hq=>let ⟨a1,en,a2,a3,a4,a5⟩:=h9 q hq; ⟨a1,en,a2,a3,a4,a5.ch k.ch⟩⟩
theorem MJ.ist {B:Nat} (h:MJ enc j n g w rem cur p) (k:Bn B g w g' w') (hB:n ≤ B) (hj:Nat.beq j 0=false:=by rfl):MJ enc j n g' w' rem cur p:=by
 obtain ⟨r,b,es,cl,since,seen,c0,hp,h1,h2,hb,h3,h4,h5,h6,h6b,h7,h8,h9⟩:=h
 have nr:g.o r ≠ 0:=by rw [h1]; intro he; rw [he] at hj; simp at hj
 exact ⟨r,b,es,cl,since,seen,c0,hp,(k.st.o r (Gr h4) nr).trans h1,(k.o b (by omega)).trans h2,hb,(k.below.block b (by omega)).trans h3,(k.st.block r (Gr h4) nr).trans h4,h5,h6,h6b,h7,h8.ch k.st.ch,
  fun q hq=>let ⟨a1,en,a2,a3,a4,a5⟩:=h9 q hq; ⟨a1,en,a2,a3,a4,a5.ch k.st.ch⟩⟩
variable {P:Program} {e:Env} {K:Value→World→Prop} {x y z:Operand}
theorem D_rangeJ (j:Nat) {t kt et:TypeId} {mv:Value} (ht:P.underlying t=some (.map kt et)) (hx:ev e x=mv) (hm:MY enc n g w m mv) (h:∀ g' w' p,Stp j g w g' w'→MJ enc j n g' w' m none p→K p w'):Doe P (.range t x) e w K:=fun d ty pos af gd=>by
 obtain ⟨⟨b,es,cl,rfl,ho,hh,hb1,hb2,her⟩,hn⟩:=hm
 have hget:(getObj b).run P w=.ok (.map es cl) w:=by simp [getObj,Sem.run,hh]
 have hrun:(execOp (ev e) ⟨d,.range t x,ty,pos,af,gd⟩).run P w=.ok (.value (.pointer (some ⟨w.heap.size,0,none⟩))) (w.alloc (.mapIter (some b) cl #[] cl)):=by
  simp [execOp,hx,Instr.range,Sem.run_bind,run_underlying ht,hget,Result.andThen]
 unfold doE; rw [hrun]
 have hxt:=Vb j g w (.mapIter (some b) cl #[] cl)
 have hbl:=Gr hh
 refine h _ _ _ hxt.stp ⟨w.heap.size,b,es,cl,cl,#[],cl,rfl,Qd _ _ _,(hxt.o b hbl).trans ho,hn b rfl,(hxt.below.block b hbl).trans hh,He _ _,hb1,Nat.le_refl _,Nat.le_refl _,hb2,?_,fun q hq=>(by cases hq)⟩
 have:leftOf es #[]=es:=by simp [leftOf]
 rw [this]; exact her.ch hxt.ch
theorem D_nextJ_f (hx:ev e x=p) (hm:MJ enc j n g w rem cur p) (hr:rem.isEmpty=true) (h:K (.tuple #[.bool false]) w):Doe P (.next x false) e w K:=D_nextM_f hx hm.mi hr h
theorem D_nextJ_t (hx : ev e x = p) (hm : MJ enc j n g w rem cur p) (hij : Nat.beq 0 j = false) (hr : rem.isEmpty = false)
  (h:∀ q rem' u g' w',(q,rem') ∈ Vh rem→Stp j g w g' w'→MJ enc j n g' w' rem' (some q) p→RV g'.m w' q.2 u→K (.tuple #[.bool true,enc q.1,u]) w'):Doe P (.next x false) e w K:=fun d ty pos af gd=>by
 obtain ⟨r,b,es,cl,since,seen,c0,rfl,h1,h2,hbn,h3,h4,h5,h6,h6b,h7,h8,h9⟩:=hm
 have hl:=h8.len
 rcases run_next_at (P:=P) w ty r b since c0 seen es cl h4 h3 h5 h6 with ⟨h0,_⟩ | ⟨en,hen,w1,hw1,hrun⟩
 ·have : rem.length = 0 := by rw [← hl]; simpa using h0
  have:rem=[]:=List.eq_nil_of_length_eq_zero this
  subst this; cases hr
 ·have hrun2:(execOp (ev e) ⟨d,.next x false,ty,pos,af,gd⟩).run P w=.ok (.value (.tuple #[.bool true,en.key,en.val])) (setBlock w1 r (.mapIter (some b) since (seen.push en.born) cl)):=by
   simp only [execOp,hx,Sem.run_bind,hrun,Result.andThen_ok,Sem.run_pure]
  unfold doE; rw [hrun2]
  obtain ⟨l1,l2,hsp⟩:=List.append_of_mem hen
  rw [hsp] at h8
  obtain ⟨r1,q,r2,rfl,a2,a3,a4⟩:=Yo.split h8
  have hheap:w1.heap=w.heap:=by rcases hw1 with rfl | rfl <;> rfl
  have hrb:r ≠ b:=fun he=>by rw [he,h2] at h1; subst h1; simp at hij
  have hset:∀ k,k ≠ r→(setBlock w1 r (.mapIter (some b) since (seen.push en.born) cl)).heap[k]?=w.heap[k]?:=fun k hk=>by
   simp only [setBlock,hheap]; rw [Array.getElem?_setIfInBounds_ne (fun h=>hk h.symm)]
  have hself:(setBlock w1 r (.mapIter (some b) since (seen.push en.born) cl)).heap[r]?=some (.mapIter (some b) since (seen.push en.born) cl):=by
   have:=Gr h4
   simp [setBlock,hheap,this]
  have hst:Stp j g w g (setBlock w1 r (.mapIter (some b) since (seen.push en.born) cl)):=by
   refine ⟨by rcases hw1 with rfl | rfl <;> rfl,by rcases hw1 with rfl | rfl <;> rfl,by rcases hw1 with rfl | rfl <;> rfl,⟨by simp [setBlock,hheap],fun _ _=>Nat.le_refl _,fun k hk n _=>?_⟩,fun k hk hn=>hset k (fun he=>hn (by rw [he]; exact h1)),fun _ _ _=>rfl,fun _ _ _=>rfl⟩
   by_cases hkr:k=r
   ·subst hkr; simp only [World.cell?,hself,h4]
   ·simp only [World.cell?,hset k hkr]
  have hmem:en ∈ es.toList:=by
   have:en ∈ (leftOf es seen).toList:=by rw [hsp]; simp
   simp only [leftOf,Array.toList_filter,List.mem_filter] at this
   exact this.1
  have hleft:(leftOf es (seen.push en.born)).toList=l1 ++ l2:=by
   have:=El (es:=es.toList) (seen:=seen) h7 (by simpa [leftOf] using hsp)
   simpa [leftOf] using this
  rw [a2]
  refine h q (r1 ++ r2) en.val g _ (Pu r1 q r2) hst ⟨r,b,es,cl,since,seen.push en.born,cl,rfl,h1,h2,hbn,(hset b hrb.symm).trans h3,hself,h5,h6b,h6b,h7,?_,fun q' hq'=>?_⟩ (a3.ch hst.ch)
  ·rw [hleft]; exact a4.ch hst.ch
  ·injection hq' with hq'
   subst hq'
   exact ⟨rfl,en,hmem,⟨seen,rfl⟩,a2,a3.ch hst.ch⟩
theorem D_entryJ {q:κ × ν} (hx:ev e x=p) (hm:MJ enc j n g w rem (some q) p) (h:∀ u,RV g.m w q.2 u→K (.tuple #[enc q.1,u]) w):Doe P (.entry x) e w K:=D_entry hx hm.mi h
/-! ### A map that is handed out by a function which writes another one -/
def OutMG (i:Nat) (g:Gh) (w:World) (R:Gh→World→Value→Prop) (v:Value) (w':World):Prop:=∃ g',Stp i g w g' w'∧R g' w' v
theorem Ik {f : FuncId} {fn : Func} {c : Code} {args : Array Value} {R : Gh → World → Value → Prop} (hf : P.funcs[f]? = some fn) (hb : fn.body = some c) (hN : args.size ≤ fn.ntmps)
  (h:∀ g0,g0={ m:=g.m,o:=fun b=>if g.o b=i then 1 else 0 }→FrM i g w g0 w→E P fn.ntmps none c (Rp P fn (OutMG i g w R)) (Vp args) [] w):FnM P f args i g w R:=by
 refine Calls.mono (Dv hf hb hN (h _ rfl (FrM.start i g w))) ?_
 rintro r w' ⟨v,rfl,g',hfr,hr⟩
 exact ⟨v,rfl,g',hfr,hr⟩
end
section
variable {κ ν κ' ν':Type} [GoT ν] [GoT ν'] {enc:κ→Value} {enc':κ'→Value}
theorem MO.handback {i j iO : Nat} {g0 g : Gh} {w0 w : World} {m0 m : List (κ × ν)} {mo : Option (List (κ' × ν'))} {kv v : Value} (hfr : FrM i g0 w0 g w) (h0 : MP enc i g0 w0 m0 kv) (h : MP enc 1 g w m kv) (ho : MO enc' (j + 2) g w mo v) :
  ∃ g',Stp i g0 w0 g' w∧g'.m=g.m∧MO enc' iO g' w mo v∧MP enc i g' w m kv:=by
 rcases ho with ⟨h1,h2⟩ | ⟨m',h1,h2⟩
 ·exact ⟨_,hfr.fin,rfl,.inl ⟨h1,h2⟩,h0.back h⟩
 obtain ⟨b,es,cl,rfl,hob,hh,k1,k2,k3⟩:=h2
 obtain ⟨c,es1,cl1,rfl,hoc,hh1,a1,a2,a3⟩:=h
 obtain ⟨c',es2,cl2,hv,hoc0,hh2,_⟩:=h0
 injection hv with hv; injection hv with hv; subst hv
 have hne:c ≠ b:=fun he=>by rw [he] at hoc; omega
 refine ⟨{ m:=g.m,o:=fun x=>if x=b then iO else if x < w0.heap.size then g0.o x else 0 },⟨hfr.os,hfr.tape,hfr.output,hfr.ch,hfr.block,hfr.m,fun x hx hn=>?_⟩,rfl,.inr ⟨m',h1,b,es,cl,rfl,by simp,hh,k1,k2,k3⟩,c,es1,cl1,rfl,?_,hh1,a1,a2,a3⟩
 ·have : x ≠ b := fun he => by have := hfr.o x hx hn; rw [he] at this; omega
  simp [this,hx]
 ·simp [hne,Gr hh2,hoc0]
end
theorem loadAB0 {α : Type} [GoT α] {P : Program} {e : Env} {x : Operand} {i : Nat} {t t2 ty : TypeId} {p v0 : Value} {a0 a1 b : α} {g : Gh} {w : World} {d : Option Tmp} {pos : String} {af : Array Edge} {gd : Option (Nat × Bool)} (h0 : a0 = b) (h1 : a1 = b)
  (hinv:∀ {m:Nat→Nat} {w:World} {u:Value},RV m w b u→u=v0) (ha:∀ w,(isAgg t).run P w=.ok (GoT.agg α) w) (hs:∀ w,(sizeOf t).run P w=.ok (GoT.k α) w) (hx:ev e x=p) (hp:OB i g w t2 a0 p ∨ OB i g w t2 a1 p) :
  (execOp (ev e) ⟨d,.load t x,ty,pos,af,gd⟩).run P w=.ok (.value v0) w:=by
 have key:∀ a,a=b→OB i g w t2 a p→(execOp (ev e) ⟨d,.load t x,ty,pos,af,gd⟩).run P w=.ok (.value v0) w:=fun a ha' hp=>
  Wo ha hs hp fun v hr hl=>by
   rw [ha'] at hr
   have:=hl e g w ⟨Ch.refl _ _,fun _ _ _=>rfl⟩ hx d ty pos af gd
   rw [hinv hr] at this; exact this
 rcases hp with hp | hp
 ·exact key a0 h0 hp
 ·exact key a1 h1 hp
end Go.Proofs.Ytmpjooneiaiffaa
