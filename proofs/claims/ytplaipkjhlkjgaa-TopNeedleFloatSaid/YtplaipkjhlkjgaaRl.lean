/- A machine of plain data: one operation. No program is named here. -/
import Derived.Test.YtplaipkjhlkjgaaRz
namespace Go.Proofs.Ytplaipkjhlkjgaa
noncomputable section
open Go.RowKit
structure FI where
 fn:Func
 c:Code
abbrev Tab:=Mp FI
def Be (P:Program) (tab:Tab):Prop:=∀ f i,tab.get f=some i→Enters P f∧P.funcs[f]?=some i.fn∧i.fn.body=some i.c∧okC i.fn.ntmps i.c=true
inductive AR where
 | v (x:AV) (S:St)
 | call (f:FuncId) (args:List AV)
 | rnd (l:Nat) (args:List AV)
def aops (env : Gv) : List Operand → Option (List AV)
 | []=>some []
 | x :: xs => match aop env x, aops env xs with
  | some a,some l=>some (a :: l)
  | _,_=>none
def capV (p:Nat × Nat):AV:=.v false [.p p.1 p.2]
def r1 (S:St) (a:Option AV):Option (List AR):=a.map fun a=>[.v a S]
def r2 (a:Option (AV × St)):Option (List AR):=a.map fun p=>[.v p.1 p.2]
def r3 (a:Option St):Option (List AR):=a.map fun S=>[.v .u S]
def orE {α : Type} (a b : Option α) : Option α := match a with
 | some x=>some x
 | none=>b
def El (P:Program) (tab:Tab) (cx:Cx) (S:St) (env:Gv) (o:Oper) (c:Call):Option (List AR):=
 match c.callee with
 | .value f => match aop env f, aops env c.args.toList with
  | some (.v false [.f g caps]),some l=>bif (tab.get g).isSome then some [.call g (l ++ caps.map capV)] else none
  | some (.v false [.y k]),some l=>some [.rnd k l]
  | _,_=>none
 | .builtin .append => match c.args.toList, c.argTypes.toList with
  | [x,y],[t,t']=>bif Nat.beq t t' then r2 (aApp P cx S env t x y) else r2 (aAppZ P S env t t' x y)
  | _,_=>none
 | .builtin .len => match c.args.toList, c.argTypes.toList with
  | [x],[t]=>r1 S (orE (Hf P env o) (aLen P cx S env t x))
  | _,_=>none
 | .builtin .copy => match c.args.toList, c.argTypes.toList with
  | [x,y],[t,_]=>r2 (Eo P cx S env t x y)
  | _,_=>none
 | .builtin .delete => match c.args.toList, c.argTypes.toList with
  | [x,y],[t,_]=>r3 (Rb P cx S env t x y)
  | _,_=>none
 | _=>r1 S (Hf P env o)
def aInt (env:Gv) (op:BinOp) (x y:Operand):Option AV:=
 match Ub env x,Ub env y with
 | some (.int .i64 m),some (.int .i64 n)=>(iop op m n).map fun v=>.v false [.k v]
 | _,_=>none
def Ni (P:Program) (tab:Tab) (cx:Cx) (S:St) (env:Gv) (o:Oper):Option (List AR):=
 match o.op with
 | .move x=>r1 S (aMove env x)
 | .assign x=>r1 S (aMove env x)
 | .pick c x y=>r1 S (aPick env c x y)
 | .extract x i=>r1 S (Cm env x i)
 | .makeFunc (.func fn) first cs=>bif Nat.beq first.size 0 then r1 S ((Nm env cs.toList).map fun l=>.v false [.f fn l]) else none
 | .alloc t=>r2 (Nk P S t)
 | .box t x=>r2 (aBox S env t x)
 | .load t x=>r1 S (aLoad P cx S env t x)
 | .store t x y=>r3 (Oc P cx S env t x y)
 | .fieldAddr s x i=>r1 S (aField P env s x i)
 | .indexAddr t x y=>r1 S (aIndex P env t x y)
 | .nilCheck x=>r1 S (aNil env x)
 | .slice t x lo hi mx=>r1 S (orE (aSlice P cx S env t x lo hi mx) (Hf P env o))
 | .field s x i=>r1 S (Aq P env s x i)
 | .index t x y=>r1 S (orE (Ax P env t x y) (Hf P env o))
 | .build t ps=>r1 S (aBuild P env t ps.toList)
 | .buildSlice t n ps=>r2 (Fb P S env t n ps.toList)
 | .makeSlice t x y=>r2 (aMake P S env t x y)
 | .makeMap _ r=>r2 (Br S r)
 | .lookup t x y ok=>r1 S (orE (Ar P cx S env t x y ok) (Lc P cx S env t x y ok))
 | .mapUpdate t x y z=>r3 (orE (Xp P cx S env t x y z) (Ur P cx S env t x y z))
 | .insert t x y z=>r3 (orE (Xp P cx S env t x y z) (Ur P cx S env t x y z))
 | .mapEntry t x y=>r2 (Vo P cx S env t x y)
 | .entryStore _ x y z=>r3 (Yk cx S env x y z)
 | .makeInterface _ _=>r1 S (Hf P env o)
 | .typeAssert _ _ _ _=>r1 S (Hf P env o)
 | .range t x=>r2 (Ou P cx S env t x)
 | .next x false=>(Iy cx S env x).map fun l=>l.map fun p=>.v p.1 p.2
 | .entry x=>r1 S (aEntry cx S env x)
 | .binOp op t x y _=>r1 S (orE (aInt env op x y) (orE (Hf P env o) (aNilEq P env op t x y)))
 | .call c=>El P tab cx S env o c
 | .unOp _ _ _=>r1 S (Hf P env o)
 | .convert _ _ _=>r1 S (Hf P env o)
 | _=>none
section
variable {cx:Cx} {base:Nat} {ρ:Rn} {S S':St} {w w':World} {env:Gv} {e:Env} {xs:List Operand} {P:Program} {tab:Tab}
def AROk (P:Program) (cx:Cx) (base:Nat) (ρ:Rn) (S:St) (w:World) (r:AR) (res:Result Next):Prop:=
 match r with
 | .v x S'=>Hi cx base ρ S w x S' res
 | .call f args=>∃ vs:List Value,res=.ok (.enter f vs.toArray) w∧All2 (VR ρ w) args vs
 | .rnd l args=>∃ (y:Nat × Nat) (vs:List Value),ρ l=some y∧All2 (VR ρ w) args vs∧res=(Instr.yield y.1 vs.toArray).run P w
def AR.top (S : St) : AR → Nat
 | .v _ S'=>S'.n
 | _=>S.n
theorem Jn {a:Option AV} {rs:List AR} {res:Result Next} (h:r1 S a=some rs) (k:∀ x,a=some x→Hi cx base ρ S w x S res):∃ r ∈ rs,AROk P cx base ρ S w r res:=by
 simp only [r1,Option.map_eq_some_iff] at h
 obtain ⟨x,hx,rfl⟩:=h
 exact ⟨_,List.mem_singleton.2 rfl,k x hx⟩
theorem Rt {a : Option (AV × St)} {rs : List AR} {res : Result Next} (h : r2 a = some rs) (hN : ∀ r ∈ rs, ∀ b, S.n ≤ b → b < r.top S → ρ b = none)
  (k:∀ x S',a=some (x,S')→(∀ b,S.n ≤ b→b < S'.n→ρ b=none)→Hi cx base ρ S w x S' res):∃ r ∈ rs,AROk P cx base ρ S w r res:=by
 simp only [r2,Option.map_eq_some_iff] at h
 obtain ⟨⟨x,S'⟩,hx,rfl⟩:=h
 exact ⟨_,List.mem_singleton.2 rfl,k x S' hx fun b h1 h2=>hN _ (List.mem_singleton.2 rfl) b h1 h2⟩
theorem r3_ok {a:Option St} {rs:List AR} {res:Result Next} (h:r3 a=some rs) (k:∀ S',a=some S'→Hi cx base ρ S w .u S' res):∃ r ∈ rs,AROk P cx base ρ S w r res:=by
 simp only [r3,Option.map_eq_some_iff] at h
 obtain ⟨S',hx,rfl⟩:=h
 exact ⟨_,List.mem_singleton.2 rfl,k S' hx⟩
theorem Xv {α:Type} {a b:Option α} {x:α} (h:orE a b=some x):a=some x ∨ b=some x:=by
 unfold orE at h; split at h
 ·exact .inl h
 ·exact .inr h
theorem aops_ok (ho : Hb ρ w env e xs) : ∀ {ys : List Operand} {l : List AV}, (∀ y ∈ ys, y ∈ xs) → aops env ys = some l → All2 (VR ρ w) l (ys.map (ev e))
 | [],l,_,h=>by simp only [aops,Option.some.injEq] at h; subst h; exact .nil
 | y :: ys,l,hm,h=>by
  unfold aops at h
  split at h
  ·rename_i a l' h1 h2
   simp only [Option.some.injEq] at h; subst h
   exact .cons (Qa h1 ho (hm y (by simp))) (aops_ok ho (fun z hz=>hm z (by simp [hz])) h2)
  ·cases h
theorem caps_ok : ∀ {caps : List (Nat × Nat)} {vs : List Value}, All2 (PR ρ) caps vs → All2 (VR ρ w) (caps.map capV) vs
 | [],_,h=>by cases h; exact .nil
 | p :: ps,_,h=>by cases h with | cons h1 h2=>exact .cons (V1.of h1) (caps_ok h2)
theorem aCall_ok (htab : Be P tab) (hs : Sim cx base ρ S w) {o : Oper} {c : Call} (hop : o.op = .call c) (ho : Hb ρ w env e o.op.operands.toList) {rs : List AR} (h : El P tab cx S env o c = some rs) (hN : ∀ r ∈ rs, ∀ b, S.n ≤ b → b < r.top S → ρ b = none) :
  ∃ r ∈ rs,AROk P cx base ρ S w r ((execOp (ev e) o).run P w):=by
 obtain ⟨callee,args,ats⟩:=c
 unfold El at h
 split at h
 ·rename_i f hcal
  simp only at hcal; subst hcal
  have hm:f ∈ o.op.operands.toList∧∀ y ∈ args.toList,y ∈ o.op.operands.toList:=by
   rw [hop]; refine ⟨by simp [Op.operands,Call.operands],fun y hy=>?_⟩
   simp only [Op.operands,Call.operands,Array.toList_append,List.mem_append]; exact .inr hy
  split at h
  ·rename_i g caps l hf hl
   cases hg:(tab.get g).isSome with
   | false=>rw [hg] at h; cases h
   | true=>
    rw [hg] at h; simp only [cond_true,Option.some.injEq] at h; subst h
    obtain ⟨i,hi⟩:=Option.isSome_iff_exists.1 hg
    have hent:=(htab g i hi).1
    obtain ⟨cvs,hfv,hcv⟩:=V1.one (Qa hf ho hm.1)
    have hargs:=aops_ok ho hm.2 hl
    refine ⟨_,List.mem_singleton.2 rfl,args.toList.map (ev e) ++ cvs,?_,hargs.append (caps_ok hcv)⟩
    have he:=hent ((args.toList.map (ev e) ++ cvs).toArray) w
    have hsp:(#[] ++ args.map (ev e) ++ cvs.toArray:Array Value)=(args.toList.map (ev e) ++ cvs).toArray:=by
     apply Array.ext'; simp
    simp only [execOp,hop,resolve,hfv,Deferred.ofValue,Sem.run_bind,Sem.run_pure,Result.andThen_ok,invoke]
    rw [hsp]
    exact he
  ·rename_i k l hf hl
   simp only [Option.some.injEq] at h; subst h
   obtain ⟨y,hy,hfv⟩:=V1.one (Qa hf ho hm.1)
   have hargs:=aops_ok ho hm.2 hl
   refine ⟨_,List.mem_singleton.2 rfl,y,args.toList.map (ev e),hy,hargs,?_⟩
   have hsp:(#[] ++ args.map (ev e):Array Value)=(args.toList.map (ev e)).toArray:=by
    apply Array.ext'; simp
   simp only [execOp,hop,resolve,hfv,Deferred.ofValue,Sem.run_bind,Sem.run_pure,Result.andThen_ok,invoke]
   rw [hsp]
  ·cases h
 ·rename_i hcal
  simp only at hcal; subst hcal
  split at h
  ·rename_i x y t t' ha ht
   simp only at ha ht
   have ha':args=#[x,y]:=Array.ext' ha
   have ht':ats=#[t,t']:=Array.ext' ht
   subst ha'; subst ht'
   cases hb:Nat.beq t t' with
   | false=>
    rw [hb] at h; simp only [cond_false] at h
    exact Rt h hN fun a S' hx hn=>aAppZ_ok hs hop ho hx hn
   | true=>
    rw [hb] at h; simp only [cond_true] at h
    have htt:=Nat.eq_of_beq_eq_true hb
    subst htt
    exact Rt h hN fun a S' hx hn=>aApp_ok hs hop ho hx hn
  ·cases h
 ·rename_i hcal
  simp only at hcal; subst hcal
  split at h
  ·rename_i x t ha ht
   simp only at ha ht
   have ha':args=#[x]:=Array.ext' ha
   have ht':ats=#[t]:=Array.ext' ht
   subst ha'; subst ht'
   refine Jn h fun a hx=>?_
   rcases Xv hx with hx | hx
   ·exact Jj hs ho hx
   ·exact aLen_ok hs hop ho hx
  ·cases h
 ·rename_i hcal
  simp only at hcal; subst hcal
  split at h
  ·rename_i x y t t2 ha ht
   simp only at ha ht
   have ha':args=#[x,y]:=Array.ext' ha
   have ht':ats=#[t,t2]:=Array.ext' ht
   subst ha'; subst ht'
   exact Rt h hN fun a S' hx _=>aCopy_ok hs hop ho hx
  ·cases h
 ·rename_i hcal
  simp only at hcal; subst hcal
  split at h
  ·rename_i x y t t2 ha ht
   simp only at ha ht
   have ha':args=#[x,y]:=Array.ext' ha
   have ht':ats=#[t,t2]:=Array.ext' ht
   subst ha'; subst ht'
   exact r3_ok h fun S' hx=>aDelete_ok hs hop ho hx
  ·cases h
 ·exact Jn h fun a hx=>Jj hs ho hx
theorem iop_one {op:BinOp} {m n:Int} {v:Value} (h:iop op m n=some v):v.oneCell'=true:=by
 cases op <;> simp only [iop, Option.map_eq_some_iff, Option.some.injEq] at h <;> first
  | (subst h; rfl)
  | (obtain ⟨_,_,rfl⟩:=h; rfl)
theorem aInt_ok (hs:Sim cx base ρ S w) {o:Oper} {op:BinOp} {t t2:TypeId} {x y:Operand} {a:AV} (hop:o.op=.binOp op t x y t2) (ho:Hb ρ w env e o.op.operands.toList) (h:aInt env op x y=some a):Hi cx base ρ S w a S ((execOp (ev e) o).run P w):=by
 unfold aInt at h
 split at h
 ·rename_i m n hx hy
  simp only [Option.map_eq_some_iff] at h
  obtain ⟨v,hv,rfl⟩:=h
  have hxr:=Kf hx ho (by simp [hop,Op.operands])
  have hyr:=Kf hy ho (by simp [hop,Op.operands])
  exact Ti hs (by simp only [execOp,hop,hxr,hyr,Sem.run_bind,Hl,Ik hv,Result.andThen_ok,Sem.run_pure]) (V1.of ⟨rfl,iop_one hv⟩)
 ·cases h
theorem astep_ok (htab : Be P tab) (hs : Sim cx base ρ S w) {o : Oper} (ho : Hb ρ w env e o.op.operands.toList) {rs : List AR} (h : Ni P tab cx S env o = some rs) (hN : ∀ r ∈ rs, ∀ b, S.n ≤ b → b < r.top S → ρ b = none) :
  ∃ r ∈ rs,AROk P cx base ρ S w r ((execOp (ev e) o).run P w):=by
 unfold Ni at h
 split at h <;> rename_i hop
 ·exact Jn h fun a hx=>aMove_ok hs (.inl hop) ho hx
 ·exact Jn h fun a hx=>aMove_ok hs (.inr hop) ho hx
 ·exact Jn h fun a hx=>aPick_ok hs hop ho hx
 ·exact Jn h fun a hx=>aExtract_ok hs hop ho hx
 ·rename_i first cs
  cases hf:Nat.beq first.size 0 with
  | false=>rw [hf] at h; cases h
  | true=>
   rw [hf] at h; simp only [cond_true] at h
   have:first=#[]:=Array.eq_empty_of_size_eq_zero (Nat.eq_of_beq_eq_true hf)
   subst this
   refine Jn h fun a hx=>?_
   simp only [Option.map_eq_some_iff] at hx
   obtain ⟨l,hl,rfl⟩:=hx
   exact aMakeFunc_ok hs hop ho hl
 ·exact Rt h hN fun a S' hx hn=>aAlloc_ok hs hop hx hn
 ·exact Rt h hN fun a S' hx hn=>aBox_ok hs hop ho hx hn
 ·exact Jn h fun a hx=>aLoad_ok hs hop ho hx
 ·exact r3_ok h fun S' hx=>aStore_ok hs hop ho hx
 ·exact Jn h fun a hx=>aField_ok hs hop ho hx
 ·exact Jn h fun a hx=>aIndex_ok hs hop ho hx
 ·exact Jn h fun a hx=>aNil_ok hs hop ho hx
 ·refine Jn h fun a hx => ?_
  rcases Xv hx with hx | hx
  ·exact aSlice_ok hs hop ho hx
  ·exact Jj hs ho hx
 ·exact Jn h fun a hx=>aFieldV_ok hs hop ho hx
 ·refine Jn h fun a hx => ?_
  rcases Xv hx with hx | hx
  ·exact aIndexV_ok hs hop ho hx
  ·exact Jj hs ho hx
 ·exact Jn h fun a hx=>aBuild_ok hs hop ho hx
 ·exact Rt h hN fun a S' hx hn=>aBuildS_ok hs hop ho hx hn
 ·exact Rt h hN fun a S' hx hn=>aMake_ok hs hop ho hx hn
 ·exact Rt h hN fun a S' hx hn=>aMakeMap_ok hs hop hx hn
 ·refine Jn h fun a hx => ?_
  rcases Xv hx with hx | hx
  ·exact aLookup_ok hs hop ho hx
  ·exact aLookupD_ok hs hop ho hx
 ·refine r3_ok h fun S' hx => ?_
  rcases Xv hx with hx | hx
  ·exact Mw hs (.inl hop) ho hx
  ·exact Pz hs (.inl hop) ho hx
 ·refine r3_ok h fun S' hx => ?_
  rcases Xv hx with hx | hx
  ·exact Mw hs (.inr hop) ho hx
  ·exact Pz hs (.inr hop) ho hx
 ·exact Rt h hN fun a S' hx _=>aMapEntry_ok hs hop ho hx
 ·exact r3_ok h fun S' hx=>Nj hs hop ho hx
 ·exact Jn h fun a hx=>Jj hs ho hx
 ·exact Jn h fun a hx=>Jj hs ho hx
 ·exact Rt h hN fun a S' hx hn=>aRange_ok hs hop ho hx hn
 ·simp only [Option.map_eq_some_iff] at h
  obtain ⟨l,hl,rfl⟩:=h
  obtain ⟨p,hp,hd⟩:=aNext_ok hs hop ho hl
  exact ⟨_,List.mem_map.2 ⟨p,hp,rfl⟩,hd⟩
 ·exact Jn h fun a hx=>aEntry_ok hs hop ho hx
 ·refine Jn h fun a hx => ?_
  rcases Xv hx with hx | hx
  ·exact aInt_ok hs hop ho hx
  rcases Xv hx with hx | hx
  ·exact Jj hs ho hx
  ·exact aNilEq_ok hs hop ho hx
 ·exact aCall_ok htab hs hop ho h hN
 ·exact Jn h fun a hx=>Jj hs ho hx
 ·exact Jn h fun a hx=>Jj hs ho hx
 ·cases h
end
end
end Go.Proofs.Ytplaipkjhlkjgaa
