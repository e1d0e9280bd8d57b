/- A machine of plain data: maps, and that the model does the same. No program is named here. -/
import Derived.Test.YtplaipkjhlkjgaaRi
namespace Go.Proofs.Ytplaipkjhlkjgaa
noncomputable section
open Go.RowKit
theorem evalP_bind {P:Program} {α β:Type} (f:α→Sem β):∀ s:Sem α,Yj P (Sem.bind s f)=(Yj P s).bind fun a=>Yj P (f a):=by
 intro s
 induction s with
 | pure a=>rfl
 | program k ih=>exact ih P
 | _=>simp [Sem.bind,Yj]
theorem evalP_do {P:Program} {α β:Type} (s:Sem α) (f:α→Sem β):Yj P (s >>= f)=(Yj P s).bind fun a=>Yj P (f a):=evalP_bind f s
section
variable {cx:Cx} {base:Nat} {ρ:Rn} {S S':St} {w w':World} {env:Gv} {e:Env} {xs:List Operand} {P:Program}
/-! ### Keys -/
def noVal (k:Value):MapEntry:={ key:=k,val:=undef,born:=0 }
theorem Bt {u : TypeDesc} {k : Value} : ∀ {es es' : List MapEntry} {i : Nat}, es.map (·.key) = es'.map (·.key) →
  (Instr.findNow u k es i=none→Instr.findNow u k es' i=none) ∧
  (∀ r,Instr.findNow u k es i=some r→∃ r',Instr.findNow u k es' i=some r'∧r.map (·.1)=r'.map (·.1)∧∀ j v,r'=some (j,v)→i ≤ j∧(es'[j - i]?).map (·.val)=some v)
 | [],[],i,_=>⟨fun h=>h,fun r h=>by simp only [Instr.findNow,Option.some.injEq] at h; subst h; exact ⟨none,rfl,rfl,fun _ _ h=>by cases h⟩⟩
 | [],_ :: _,_,h=>by simp at h
 | _ :: _,[],_,h=>by simp at h
 | e :: es,e' :: es',i,h=>by
  simp only [List.map_cons,List.cons.injEq] at h
  obtain ⟨h1,h2⟩:=h
  obtain ⟨ih1,ih2⟩:=Bt (u:=u) (k:=k) (i:=i + 1) h2
  simp only [Instr.findNow,← h1]
  cases hs:Instr.sameNow u k e.key with
  | none=>exact ⟨fun _=>rfl,fun r h=>by cases h⟩
  | some b=>
   cases b with
   | true=>exact ⟨fun h=>(by cases h),fun r h=>by simp only [Option.some.injEq] at h; subst h; exact ⟨_,rfl,rfl,fun j v h=>by injection h with h; injection h with h3 h4; subst h3; subst h4; simp⟩⟩
   | false=>
    refine ⟨ih1,fun r h=>?_⟩
    obtain ⟨r',h3,h4,h5⟩:=ih2 r h
    refine ⟨r',h3,h4,fun j v hj=>?_⟩
    obtain ⟨h6,h7⟩:=h5 j v hj
    refine ⟨by omega,?_⟩
    rw [show j - i=(j - (i + 1)) + 1 from by omega,List.getElem?_cons_succ]; exact h7
theorem Aa {t : TypeId} {k : Value} : ∀ {es es' : List MapEntry} {i : Nat}, es.map (·.key) = es'.map (·.key) →
  ∀ r,Yj P (Instr.findAsking t k es i)=some r→∃ r',Yj P (Instr.findAsking t k es' i)=some r'∧r.map (·.1)=r'.map (·.1)∧∀ j v,r'=some (j,v)→i ≤ j∧(es'[j - i]?).map (·.val)=some v
 | [],[],i,_,r,h=>by
  have:r=none:=by simp only [Instr.findAsking] at h; exact (Option.some.inj h).symm
  subst this; exact ⟨none,rfl,rfl,fun _ _ h=>by cases h⟩
 | [],_ :: _,_,h,_,_=>by simp at h
 | _ :: _,[],_,h,_,_=>by simp at h
 | e :: es,e' :: es',i,h,r,hr=>by
  simp only [List.map_cons,List.cons.injEq] at h
  obtain ⟨h1,h2⟩:=h
  have ih:=Aa (t:=t) (k:=k) (i:=i + 1) h2
  simp only [Instr.findAsking,evalP_do] at hr ⊢
  rw [← h1]
  cases he:Yj P (Op.equal t k e.key) with
  | none=>rw [he] at hr; cases hr
  | some b=>
   rw [he] at hr
   simp only [Option.bind_some] at hr ⊢
   cases b with
   | true=>
    have:r=some (i,e.val):=by simpa [Yj,Pure.pure] using hr.symm
    subst this
    exact ⟨some (i,e'.val),by simp [Yj,Pure.pure],rfl,fun j v h=>by injection h with h; injection h with h3 h4; subst h3; subst h4; simp⟩
   | false=>
    simp only [Bool.false_eq_true,if_false] at hr ⊢
    obtain ⟨r',h3,h4,h5⟩:=ih r hr
    refine ⟨r',h3,h4,fun j v hj=>?_⟩
    obtain ⟨h6,h7⟩:=h5 j v hj
    refine ⟨by omega,?_⟩
    rw [show j - i=(j - (i + 1)) + 1 from by omega,List.getElem?_cons_succ]; exact h7
def Af (P:Program) (t:TypeId) (k:Value) (ks:List Value):Option (Option Nat):=
 match P.underlying t with
 | none=>none
 | some u => match Instr.findNow u k (ks.map noVal) 0 with
  | some r=>some (r.map (·.1))
  | none=>(Yj P (Instr.findAsking t k (ks.map noVal))).map fun r=>r.map (·.1)
theorem Cb (es:List MapEntry):((es.map (·.key)).map noVal).map (·.key)=es.map (·.key):=by
 simp [List.map_map,Function.comp_def,noVal]
theorem Kn {t : TypeId} {k : Value} {es : List MapEntry} {r : Option Nat} (h : Af P t k (es.map (·.key)) = some r) (w : World) :
  ∃ r',(Instr.findKey t k es).run P w=.ok r' w∧r=r'.map (·.1)∧∀ j v,r'=some (j,v)→(es[j]?).map (·.val)=some v:=by
 unfold Af at h
 split at h
 ·cases h
 ·rename_i u hu
  split at h
  ·rename_i r1 hr1
   simp only [Option.some.injEq] at h; subst h
   obtain ⟨r',h1,h2,h3⟩:=(Bt (i:=0) (Cb es)).2 r1 hr1
   refine ⟨r',?_,h2,fun j v hj=>(h3 j v hj).2⟩
   simp [Instr.findKey,Sem.run_bind,run_underlying hu,Result.andThen,h1]
  ·rename_i hr1
   simp only [Option.map_eq_some_iff] at h
   obtain ⟨r1,h0,rfl⟩:=h
   obtain ⟨r',h1,h2,h3⟩:=Aa (P:=P) (i:=0) (Cb es) r1 h0
   refine ⟨r',?_,h2,fun j v hj=>(h3 j v hj).2⟩
   have h4:=(Bt (u:=u) (k:=k) (i:=0) (Cb es)).1 hr1
   simp [Instr.findKey,Sem.run_bind,run_underlying hu,Result.andThen,h4,Ph h1 w]
def Vz (P:Program) (empty:Bool) (t:TypeId) (k:Value):Bool:=(Yj P (Instr.checkKey empty 10000 t k)).isSome
theorem Vp {empty:Bool} {t:TypeId} {k:Value} (h:Vz P empty t k=true) (w:World):(Instr.checkKey empty 10000 t k).run P w=.ok () w:=by
 unfold Vz at h
 cases he:Yj P (Instr.checkKey empty 10000 t k) with
 | none=>rw [he] at h; cases h
 | some u=>exact Ph he w

/-! ### Maps -/
theorem Oy {es:List (Value × Bool × List C)} {arr:Array MapEntry} (hl:arr.size=es.length) (h:∀ (i:Nat) (p:Value × Bool × List C) (e:MapEntry),es[i]?=some p→arr[i]?=some e→Oj ρ w i p e):arr.toList.map (·.key)=es.map (·.1):=by
 apply List.ext_getElem?
 intro i
 rw [List.getElem?_map,List.getElem?_map]
 rcases Nat.lt_or_ge i es.length with h1 | h1
 ·have h2 : i < arr.size := by omega
  have h3:i < arr.toList.length:=by simpa using h2
  rw [List.getElem?_eq_getElem h1,List.getElem?_eq_getElem h3]
  have:=(h i _ _ (List.getElem?_eq_getElem h1) (Array.getElem?_eq_getElem h2)).1
  simpa using this
 ·have h2 : arr.toList.length ≤ i := by simp; omega
  rw [List.getElem?_eq_none h1,List.getElem?_eq_none h2]; rfl
theorem Qy {b:Nat} {o:Obj} (h:w.heap[b]?=some o) (hc:o.isCells=false):(getObj b).run P w=.ok o w:=by
 cases o <;> first
  | (simp [Obj.isCells] at hc; done)
  | simp [getObj,Sem.run,h]
theorem Kz {b:Nat} {o o':Obj} (h:w.heap[b]?=some o) (hc:o.isCells=false):(setObj b o').run P w=.ok () (w.putObj b o'):=by
 cases o <;> first
  | (simp [Obj.isCells] at hc; done)
  | simp [setObj,Sem.run,h,World.putObj]
def Br (S : St) (r : Option Operand) : Option (AV × St) := match r with
 | none=>some (.v false [.m S.n],S.new (.map []))
 | some _=>none
theorem aMakeMap_ok (hs:Sim cx base ρ S w) {o:Oper} {t:TypeId} {r:Option Operand} {a:AV} (hop:o.op=.makeMap t r) (h:Br S r=some (a,S')) (hN:∀ b,S.n ≤ b→b < S'.n→ρ b=none):Hi cx base ρ S w a S' ((execOp (ev e) o).run P w):=by
 unfold Br at h
 split at h
 ·simp only [Option.some.injEq, Prod.mk.injEq] at h
  obtain ⟨rfl,rfl⟩:=h
  have hf:=hN S.n (Nat.le_refl _) (Nat.lt_succ_self _)
  refine Vw hs (o:=.map #[] 0) hf ?_ ⟨#[],Qk _ _,rfl,fun i p e h=>by simp at h⟩ (V1.of ⟨(w.heap.size,0),Wf _ _ _,rfl⟩)
  simp [execOp,hop,Instr.makeMap,Result.andThen]
 ·cases h
def Mf (cx : Cx) (S : St) : AV → Option (List (Value × Bool × List C))
 | .v false [.m b] => match S.look cx b with
  | some (.map es)=>some es
  | _=>none
 | .v false [.k (.map none)]=>some []
 | _=>none
def Ar (P:Program) (cx:Cx) (S:St) (env:Gv) (t:TypeId) (x y:Operand) (ok:Bool):Option AV:=
 match P.underlying t,(aop env x).bind (Mf cx S),Ub env y with
 | some (.map kt et), some es, some k => bif Vz P es.isEmpty kt k then
   match Af P kt k (es.map (·.1)) with
   | some (some i)=>(es[i]?).map fun p=>bif ok then .t [(p.2.1,p.2.2),(false,[.k (.bool true)])] else .v p.2.1 p.2.2
   | some none=>(De P et).map fun p=>bif ok then .t [(p.1,p.2),(false,[.k (.bool false)])] else .v p.1 p.2
   | none=>none
  else none
 | _,_,_=>none
theorem entries_ok (hs : Sim cx base ρ S w) {a : AV} {es : List (Value × Bool × List C)} {v : Value} (h : Mf cx S a = some es) (hv : VR ρ w a v) :
  ∃ arr:Array MapEntry,arr.size=es.length∧(∀ (i:Nat) (p:Value × Bool × List C) (e:MapEntry),es[i]?=some p→arr[i]?=some e→Oj ρ w i p e)∧(v=.map none∧arr=#[] ∨ ∃ y,v=.map (some y)∧(getObj y).run P w=.ok (.map arr arr.size) w):=by
 unfold Mf at h
 split at h
 ·rename_i b
  split at h
  ·rename_i es' hl
   simp only [Option.some.injEq] at h; subst h
   obtain ⟨y,hy,hv'⟩:=V1.one hv
   obtain ⟨y',hy',⟨arr,hh,hsz,hent⟩,_⟩:=Dk hs hl
   rw [hy] at hy'; injection hy' with hy'; subst hy'
   exact ⟨arr,hsz,hent,.inr ⟨y.1,hv',Qy hh rfl⟩⟩
  ·cases h
 ·simp only [Option.some.injEq] at h; subst h
  exact ⟨#[],rfl,fun i p e h=>by simp at h,.inl ⟨(V1.one hv).1,rfl⟩⟩
 ·cases h
theorem emp_eq {α β:Type} {arr:Array α} {es:List β} (h:arr.size=es.length):arr.isEmpty=es.isEmpty:=by
 cases es with
 | nil=>have:arr=#[]:=Array.eq_empty_of_size_eq_zero h; subst this; rfl
 | cons x xs=>
  have:arr ≠ #[]:=fun e=>by subst e; simp at h
  simp [this]
theorem aLookup_ok (hs:Sim cx base ρ S w) {o:Oper} {t:TypeId} {x y:Operand} {ok:Bool} {a:AV} (hop:o.op=.lookup t x y ok) (ho:Hb ρ w env e o.op.operands.toList) (h:Ar P cx S env t x y ok=some a):Hi cx base ρ S w a S ((execOp (ev e) o).run P w):=by
 unfold Ar at h
 split at h
 ·rename_i kt et es k hu hx hy
  simp only [Option.bind_eq_some_iff] at hx
  obtain ⟨ax,hx1,hx2⟩:=hx
  have hk:=Kf hy ho (by simp [hop,Op.operands])
  obtain ⟨arr,hsz,hent,hv⟩:=entries_ok (P:=P) hs hx2 (Qa hx1 ho (by simp [hop,Op.operands]))
  cases hko:Vz P es.isEmpty kt k with
  | false=>rw [hko] at h; cases h
  | true=>
   rw [hko] at h; simp only [cond_true] at h
   rw [← emp_eq hsz] at hko
   have hkr:=Vp hko w
   have hkeys:=Oy hsz hent
   rw [← hkeys] at h
   have hm : ∀ (r : Option (Nat × Value)), (Instr.findKey kt k arr.toList).run P w = .ok r w → ∀ v ok', (r = none ∧ ok' = false ∧ (zeroValue et).run P w = .ok v w ∨ ∃ i, r = some (i, v) ∧ ok' = true) →
     (execOp (ev e) o).run P w=.ok (.value (if ok=true then .tuple #[v,.bool ok'] else v)) w:=by
    intro r hr v ok' hcase
    rcases hv with ⟨hxv,rfl⟩ | ⟨q,hxv,hq⟩
    ·have hkr2 : (Instr.checkKey true 10000 kt k).run P w = .ok () w := hkr
     have hr2:(Instr.findKey kt k []).run P w=.ok r w:=hr
     rcases hcase with ⟨rfl,rfl,hz⟩ | ⟨i,rfl,rfl⟩
     ·cases ok <;> simp [execOp,hop,hxv,hk,Instr.lookup,run_underlying hu,Sem.run_bind,Result.andThen,hkr2,hr2,hz]
     ·cases ok <;> simp [execOp,hop,hxv,hk,Instr.lookup,run_underlying hu,Sem.run_bind,Result.andThen,hkr2,hr2]
    ·rcases hcase with ⟨rfl, rfl, hz⟩ | ⟨i, rfl, rfl⟩
     ·cases ok <;> simp [execOp,hop,hxv,hk,Instr.lookup,run_underlying hu,Sem.run_bind,Result.andThen,hkr,hr,hz,hq]
     ·cases ok <;> simp [execOp,hop,hxv,hk,Instr.lookup,run_underlying hu,Sem.run_bind,Result.andThen,hkr,hr,hq]
   split at h
   ·rename_i i hix
    obtain ⟨r',h1,h2,h3⟩:=Kn hix w
    cases r' with
    | none=>cases h2
    | some jv=>
     obtain ⟨j,v⟩:=jv
     simp only [Option.map_some,Option.some.injEq] at h2
     subst h2
     have h4:=h3 i v rfl
     simp only [Option.map_eq_some_iff] at h h4
     obtain ⟨p,hp,rfl⟩:=h
     obtain ⟨en,hen,rfl⟩:=h4
     rw [Array.getElem?_toList] at hen
     obtain ⟨_,hvr,_⟩:=hent i p en hp hen
     have hrun:=hm _ h1 en.val true (.inr ⟨i,rfl,rfl⟩)
     refine Ti hs hrun ?_
     cases ok with
     | false=>exact hvr
     | true=>exact ⟨[en.val,.bool true],rfl,.cons hvr (.cons (V1.of ⟨rfl,rfl⟩) .nil)⟩
   ·rename_i hix
    obtain ⟨r',h1,h2,h3⟩:=Kn hix w
    cases r' with
    | some jv=>cases h2
    | none=>
     simp only [Option.map_eq_some_iff] at h
     obtain ⟨p,hp,rfl⟩:=h
     obtain ⟨z,hz,hzv⟩:=Sp hp
     have hrun:=hm _ h1 z false (.inl ⟨rfl,rfl,hz w⟩)
     refine Ti hs hrun ?_
     cases ok with
     | false=>exact hzv ρ w
     | true=>exact ⟨[z,.bool false],rfl,.cons (hzv ρ w) (.cons (V1.of ⟨rfl,rfl⟩) .nil)⟩
   ·cases h
 ·cases h
end
end
end Go.Proofs.Ytplaipkjhlkjgaa
