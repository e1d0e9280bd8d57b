/- A machine of plain data: one operation. No program is named here. -/
import Derived.Test.YtmpjooneiaiffaaRk
namespace Go.Proofs.Ytmpjooneiaiffaa
noncomputable section
open Go.RowKit
structure FI where
 fn:Func
 c:Code
abbrev Tab:=Mp FI
def TabOk (P:Program) (tab:Tab):Prop:=∀ f i,tab.get f=some i→Enters P f∧P.funcs[f]?=some i.fn∧i.fn.body=some i.c∧okC i.fn.ntmps i.c=true
inductive AR where
 | v (x:AV) (S:St)
 | call (f:FuncId) (args:List AV)
 | rnd (l:Nat) (args:List AV)
def aops (env : AEnv) : List Operand → Option (List AV)
 | []=>some []
 | x :: xs => match aop env x, aops env xs with
  | some a,some l=>some (a :: l)
  | _,_=>none
def capV (p:Nat × Nat):AV:=.v false [.p p.1 p.2]
def r1 (S:St) (a:Option AV):Option (List AR):=a.map fun a=>[.v a S]
def r2 (a:Option (AV × St)):Option (List AR):=a.map fun p=>[.v p.1 p.2]
def r3 (a:Option St):Option (List AR):=a.map fun S=>[.v .u S]
def orE {α : Type} (a b : Option α) : Option α := match a with
 | some x=>some x
 | none=>b
def aCall (P:Program) (tab:Tab) (cx:Cx) (S:St) (env:AEnv) (o:Oper) (c:Call):Option (List AR):=
 match c.callee with
 | .value f => match aop env f, aops env c.args.toList with
  | some (.v false [.f g caps]),some l=>bif (tab.get g).isSome then some [.call g (l ++ caps.map capV)] else none
  | some (.v false [.y k]),some l=>some [.rnd k l]
  | _,_=>none
 | .builtin .append => match c.args.toList, c.argTypes.toList with
  | [x,y],[t,t']=>bif Nat.beq t t' then r2 (aApp P cx S env t x y) else r2 (aAppZ P S env t t' x y)
  | _,_=>none
 | .builtin .len => match c.args.toList, c.argTypes.toList with
  | [x],[t]=>r1 S (orE (aPlain P env o) (aLen P cx S env t x))
  | _,_=>none
 | _=>r1 S (aPlain P env o)
def aInt (env:AEnv) (op:BinOp) (x y:Operand):Option AV:=
 match cval env x,cval env y with
 | some (.int .i64 m),some (.int .i64 n)=>(iop op m n).map fun v=>.v false [.k v]
 | _,_=>none
def astep (P:Program) (tab:Tab) (cx:Cx) (S:St) (env:AEnv) (o:Oper):Option (List AR):=
 match o.op with
 | .move x=>r1 S (aMove env x)
 | .assign x=>r1 S (aMove env x)
 | .pick c x y=>r1 S (aPick env c x y)
 | .extract x i=>r1 S (aExtract env x i)
 | .makeFunc (.func fn) first cs=>bif Nat.beq first.size 0 then r1 S ((aFunc env cs.toList).map fun l=>.v false [.f fn l]) else none
 | .alloc t=>r2 (aAlloc P S t)
 | .box t x=>r2 (aBox S env t x)
 | .load t x=>r1 S (aLoad P cx S env t x)
 | .store t x y=>r3 (aStore P cx S env t x y)
 | .fieldAddr s x i=>r1 S (aField P env s x i)
 | .indexAddr t x y=>r1 S (aIndex P env t x y)
 | .nilCheck x=>r1 S (aNil env x)
 | .slice t x lo hi mx=>r1 S (orE (aSlice P cx S env t x lo hi mx) (aPlain P env o))
 | .field s x i=>r1 S (aFieldV P env s x i)
 | .index t x y=>r1 S (orE (aIndexV P env t x y) (aPlain P env o))
 | .build t ps=>r1 S (aBuild P env t ps.toList)
 | .buildSlice t n ps=>r2 (aBuildS P S env t n ps.toList)
 | .makeSlice t x y=>r2 (aMake P S env t x y)
 | .makeMap _ r=>r2 (aMakeMap S r)
 | .lookup t x y ok=>r1 S (aLookup P cx S env t x y ok)
 | .mapUpdate t x y z=>r3 (aUpdate P cx S env t x y z)
 | .insert t x y z=>r3 (aUpdate P cx S env t x y z)
 | .range t x=>r2 (aRange P cx S env t x)
 | .next x false=>(aNext cx S env x).map fun l=>l.map fun p=>.v p.1 p.2
 | .entry x=>r1 S (aEntry cx S env x)
 | .binOp op t x y _=>r1 S (orE (aInt env op x y) (orE (aPlain P env o) (aNilEq P env op t x y)))
 | .call c=>aCall P tab cx S env o c
 | .unOp _ _ _=>r1 S (aPlain P env o)
 | .convert _ _ _=>r1 S (aPlain P env o)
 | _=>none
section
variable {cx:Cx} {base:Nat} {ρ:Rn} {S S':St} {w w':World} {env:AEnv} {e:Env} {xs:List Operand} {P:Program} {tab:Tab}
def AROk (P:Program) (cx:Cx) (base:Nat) (ρ:Rn) (S:St) (w:World) (r:AR) (res:Result Next):Prop:=
 match r with
 | .v x S'=>Done cx base ρ S w x S' res
 | .call f args=>∃ vs:List Value,res=.ok (.enter f vs.toArray) w∧All2 (VR ρ w) args vs
 | .rnd l args=>∃ (y:Nat × Nat) (vs:List Value),ρ l=some y∧All2 (VR ρ w) args vs∧res=(Instr.yield y.1 vs.toArray).run P w
def AR.top (S : St) : AR → Nat
 | .v _ S'=>S'.n
 | _=>S.n
theorem r1_ok {a:Option AV} {rs:List AR} {res:Result Next} (h:r1 S a=some rs) (k:∀ x,a=some x→Done cx base ρ S w x S res):∃ r ∈ rs,AROk P cx base ρ S w r res:=by
 simp only [r1,Option.map_eq_some_iff] at h
 obtain ⟨x,hx,rfl⟩:=h
 exact ⟨_,List.mem_singleton.2 rfl,k x hx⟩
theorem r2_ok {a : Option (AV × St)} {rs : List AR} {res : Result Next} (h : r2 a = some rs) (hN : ∀ r ∈ rs, ∀ b, S.n ≤ b → b < r.top S → ρ b = none)
  (k:∀ x S',a=some (x,S')→(∀ b,S.n ≤ b→b < S'.n→ρ b=none)→Done cx base ρ S w x S' res):∃ r ∈ rs,AROk P cx base ρ S w r res:=by
 simp only [r2,Option.map_eq_some_iff] at h
 obtain ⟨⟨x,S'⟩,hx,rfl⟩:=h
 exact ⟨_,List.mem_singleton.2 rfl,k x S' hx fun b h1 h2=>hN _ (List.mem_singleton.2 rfl) b h1 h2⟩
theorem r3_ok {a:Option St} {rs:List AR} {res:Result Next} (h:r3 a=some rs) (k:∀ S',a=some S'→Done cx base ρ S w .u S' res):∃ r ∈ rs,AROk P cx base ρ S w r res:=by
 simp only [r3,Option.map_eq_some_iff] at h
 obtain ⟨S',hx,rfl⟩:=h
 exact ⟨_,List.mem_singleton.2 rfl,k S' hx⟩
theorem orE_ok {α:Type} {a b:Option α} {x:α} (h:orE a b=some x):a=some x ∨ b=some x:=by
 unfold orE at h; split at h
 ·exact .inl h
 ·exact .inr h
theorem aops_ok (ho : OpsR ρ w env e xs) : ∀ {ys : List Operand} {l : List AV}, (∀ y ∈ ys, y ∈ xs) → aops env ys = some l → All2 (VR ρ w) l (ys.map (ev e))
 | [],l,_,h=>by simp only [aops,Option.some.injEq] at h; subst h; exact .nil
 | y :: ys,l,hm,h=>by
  unfold aops at h
  split at h
  ·rename_i a l' h1 h2
   simp only [Option.some.injEq] at h; subst h
   exact .cons (aop_ok h1 ho (hm y (by simp))) (aops_ok ho (fun z hz=>hm z (by simp [hz])) h2)
  ·cases h
theorem caps_ok : ∀ {caps : List (Nat × Nat)} {vs : List Value}, All2 (PR ρ) caps vs → All2 (VR ρ w) (caps.map capV) vs
 | [],_,h=>by cases h; exact .nil
 | p :: ps,_,h=>by cases h with | cons h1 h2=>exact .cons (V1.of h1) (caps_ok h2)
theorem aCall_ok (htab : TabOk P tab) (hs : Sim cx base ρ S w) {o : Oper} {c : Call} (hop : o.op = .call c) (ho : OpsR ρ w env e o.op.operands.toList) {rs : List AR} (h : aCall P tab cx S env o c = some rs) (hN : ∀ r ∈ rs, ∀ b, S.n ≤ b → b < r.top S → ρ b = none) :
  ∃ r ∈ rs,AROk P cx base ρ S w r ((execOp (ev e) o).run P w):=by
 obtain ⟨callee,args,ats⟩:=c
 unfold aCall at h
 split at h
 ·rename_i f hcal
  simp only at hcal; subst hcal
  have hm:f ∈ o.op.operands.toList∧∀ y ∈ args.toList,y ∈ o.op.operands.toList:=by
   rw [hop]; refine ⟨by simp [Op.operands,Call.operands],fun y hy=>?_⟩
   simp only [Op.operands,Call.operands,Array.toList_append,List.mem_append]; exact .inr hy
  split at h
  ·rename_i g caps l hf hl
   cases hg:(tab.get g).isSome with
   | false=>rw [hg] at h; cases h
   | true=>
    rw [hg] at h; simp only [cond_true,Option.some.injEq] at h; subst h
    obtain ⟨i,hi⟩:=Option.isSome_iff_exists.1 hg
    have hent:=(htab g i hi).1
    obtain ⟨cvs,hfv,hcv⟩:=V1.one (aop_ok hf ho hm.1)
    have hargs:=aops_ok ho hm.2 hl
    refine ⟨_,List.mem_singleton.2 rfl,args.toList.map (ev e) ++ cvs,?_,hargs.append (caps_ok hcv)⟩
    have he:=hent ((args.toList.map (ev e) ++ cvs).toArray) w
    have hsp:(#[] ++ args.map (ev e) ++ cvs.toArray:Array Value)=(args.toList.map (ev e) ++ cvs).toArray:=by
     apply Array.ext'; simp
    simp only [execOp,hop,resolve,hfv,Deferred.ofValue,Sem.run_bind,Sem.run_pure,Result.andThen_ok,invoke]
    rw [hsp]
    exact he
  ·rename_i k l hf hl
   simp only [Option.some.injEq] at h; subst h
   obtain ⟨y,hy,hfv⟩:=V1.one (aop_ok hf ho hm.1)
   have hargs:=aops_ok ho hm.2 hl
   refine ⟨_,List.mem_singleton.2 rfl,y,args.toList.map (ev e),hy,hargs,?_⟩
   have hsp:(#[] ++ args.map (ev e):Array Value)=(args.toList.map (ev e)).toArray:=by
    apply Array.ext'; simp
   simp only [execOp,hop,resolve,hfv,Deferred.ofValue,Sem.run_bind,Sem.run_pure,Result.andThen_ok,invoke]
   rw [hsp]
  ·cases h
 ·rename_i hcal
  simp only at hcal; subst hcal
  split at h
  ·rename_i x y t t' ha ht
   simp only at ha ht
   have ha':args=#[x,y]:=Array.ext' ha
   have ht':ats=#[t,t']:=Array.ext' ht
   subst ha'; subst ht'
   cases hb:Nat.beq t t' with
   | false=>
    rw [hb] at h; simp only [cond_false] at h
    exact r2_ok h hN fun a S' hx hn=>aAppZ_ok hs hop ho hx hn
   | true=>
    rw [hb] at h; simp only [cond_true] at h
    have htt:=Nat.eq_of_beq_eq_true hb
    subst htt
    exact r2_ok h hN fun a S' hx hn=>aApp_ok hs hop ho hx hn
  ·cases h
 ·rename_i hcal
  simp only at hcal; subst hcal
  split at h
  ·rename_i x t ha ht
   simp only at ha ht
   have ha':args=#[x]:=Array.ext' ha
   have ht':ats=#[t]:=Array.ext' ht
   subst ha'; subst ht'
   refine r1_ok h fun a hx=>?_
   rcases orE_ok hx with hx | hx
   ·exact aPlain_ok hs ho hx
   ·exact aLen_ok hs hop ho hx
  ·cases h
 ·exact r1_ok h fun a hx=>aPlain_ok hs ho hx
theorem iop_one {op:BinOp} {m n:Int} {v:Value} (h:iop op m n=some v):v.oneCell'=true:=by
 cases op <;> simp only [iop, Option.map_eq_some_iff, Option.some.injEq] at h <;> first
  | (subst h; rfl)
  | (obtain ⟨_,_,rfl⟩:=h; rfl)
theorem aInt_ok (hs:Sim cx base ρ S w) {o:Oper} {op:BinOp} {t t2:TypeId} {x y:Operand} {a:AV} (hop:o.op=.binOp op t x y t2) (ho:OpsR ρ w env e o.op.operands.toList) (h:aInt env op x y=some a):Done cx base ρ S w a S ((execOp (ev e) o).run P w):=by
 unfold aInt at h
 split at h
 ·rename_i m n hx hy
  simp only [Option.map_eq_some_iff] at h
  obtain ⟨v,hv,rfl⟩:=h
  have hxr:=cval_ok hx ho (by simp [hop,Op.operands])
  have hyr:=cval_ok hy ho (by simp [hop,Op.operands])
  exact done_pure hs (by simp only [execOp,hop,hxr,hyr,Sem.run_bind,eqGuard_int,binOp_i64 hv,Result.andThen_ok,Sem.run_pure]) (V1.of ⟨rfl,iop_one hv⟩)
 ·cases h
theorem astep_ok (htab : TabOk P tab) (hs : Sim cx base ρ S w) {o : Oper} (ho : OpsR ρ w env e o.op.operands.toList) {rs : List AR} (h : astep P tab cx S env o = some rs) (hN : ∀ r ∈ rs, ∀ b, S.n ≤ b → b < r.top S → ρ b = none) :
  ∃ r ∈ rs,AROk P cx base ρ S w r ((execOp (ev e) o).run P w):=by
 unfold astep at h
 split at h <;> rename_i hop
 ·exact r1_ok h fun a hx=>aMove_ok hs (.inl hop) ho hx
 ·exact r1_ok h fun a hx=>aMove_ok hs (.inr hop) ho hx
 ·exact r1_ok h fun a hx=>aPick_ok hs hop ho hx
 ·exact r1_ok h fun a hx=>aExtract_ok hs hop ho hx
 ·rename_i first cs
  cases hf:Nat.beq first.size 0 with
  | false=>rw [hf] at h; cases h
  | true=>
   rw [hf] at h; simp only [cond_true] at h
   have:first=#[]:=Array.eq_empty_of_size_eq_zero (Nat.eq_of_beq_eq_true hf)
   subst this
   refine r1_ok h fun a hx=>?_
   simp only [Option.map_eq_some_iff] at hx
   obtain ⟨l,hl,rfl⟩:=hx
   exact aMakeFunc_ok hs hop ho hl
 ·exact r2_ok h hN fun a S' hx hn=>aAlloc_ok hs hop hx hn
 ·exact r2_ok h hN fun a S' hx hn=>aBox_ok hs hop ho hx hn
 ·exact r1_ok h fun a hx=>aLoad_ok hs hop ho hx
 ·exact r3_ok h fun S' hx=>aStore_ok hs hop ho hx
 ·exact r1_ok h fun a hx=>aField_ok hs hop ho hx
 ·exact r1_ok h fun a hx=>aIndex_ok hs hop ho hx
 ·exact r1_ok h fun a hx=>aNil_ok hs hop ho hx
 ·refine r1_ok h fun a hx => ?_
  rcases orE_ok hx with hx | hx
  ·exact aSlice_ok hs hop ho hx
  ·exact aPlain_ok hs ho hx
 ·exact r1_ok h fun a hx=>aFieldV_ok hs hop ho hx
 ·refine r1_ok h fun a hx => ?_
  rcases orE_ok hx with hx | hx
  ·exact aIndexV_ok hs hop ho hx
  ·exact aPlain_ok hs ho hx
 ·exact r1_ok h fun a hx=>aBuild_ok hs hop ho hx
 ·exact r2_ok h hN fun a S' hx hn=>aBuildS_ok hs hop ho hx hn
 ·exact r2_ok h hN fun a S' hx hn=>aMake_ok hs hop ho hx hn
 ·exact r2_ok h hN fun a S' hx hn=>aMakeMap_ok hs hop hx hn
 ·exact r1_ok h fun a hx=>aLookup_ok hs hop ho hx
 ·exact r3_ok h fun S' hx=>aUpdate_ok hs (.inl hop) ho hx
 ·exact r3_ok h fun S' hx=>aUpdate_ok hs (.inr hop) ho hx
 ·exact r2_ok h hN fun a S' hx hn=>aRange_ok hs hop ho hx hn
 ·simp only [Option.map_eq_some_iff] at h
  obtain ⟨l,hl,rfl⟩:=h
  obtain ⟨p,hp,hd⟩:=aNext_ok hs hop ho hl
  exact ⟨_,List.mem_map.2 ⟨p,hp,rfl⟩,hd⟩
 ·exact r1_ok h fun a hx=>aEntry_ok hs hop ho hx
 ·refine r1_ok h fun a hx => ?_
  rcases orE_ok hx with hx | hx
  ·exact aInt_ok hs hop ho hx
  rcases orE_ok hx with hx | hx
  ·exact aPlain_ok hs ho hx
  ·exact aNilEq_ok hs hop ho hx
 ·exact aCall_ok htab hs hop ho h hN
 ·exact r1_ok h fun a hx=>aPlain_ok hs ho hx
 ·exact r1_ok h fun a hx=>aPlain_ok hs ho hx
 ·cases h
end
end
end Go.Proofs.Ytmpjooneiaiffaa
/- A machine of plain data: what its memory keeps. No program is named here. -/
namespace Go.Proofs.Ytmpjooneiaiffaa
noncomputable section
open Go.RowKit
theorem bifS {α:Type} {c:Bool} {a:Option α} {x:α} (h:(bif c then a else none)=some x):a=some x:=by cases c with | true=>exact h | false=>cases h
structure Kp (cx : Cx) (S S' : St) : Prop where
 n:S.n ≤ S'.n
 keep:∀ b,b < cx.cut→b ∉ S'.log→S'.get b=S.get b
 log:∀ b ∈ S.log,b ∈ S'.log
 wr:∀ b ∈ S'.log,b ∈ S.log ∨ (b < cx.cut∧cx.see b=true∧cx.wr b=true)
 bnd:(∀ b,S.get b ≠ none→b < S.n)→∀ b,S'.get b ≠ none→b < S'.n
 dead:∀ b,b < S.n→S.get b=none→S'.get b=none
 live:∀ b ∈ S'.log,b ∈ S.log ∨ S.get b ≠ none
section
variable {P:Program} {tab:Tab} {cx:Cx} {S S' S'':St} {env:AEnv}
theorem Kp.refl:Kp cx S S:=⟨Nat.le_refl _,fun _ _ _=>rfl,fun _ h=>h,fun _ h=>.inl h,fun h=>h,fun _ _ h=>h,fun _ h=>.inl h⟩
theorem Kp.trans (h:Kp cx S S') (k:Kp cx S' S''):Kp cx S S'':=⟨Nat.le_trans h.n k.n,fun b hb hn=>(k.keep b hb hn).trans (h.keep b hb fun h1=>hn (k.log b h1)),fun b hb=>k.log b (h.log b hb),fun b hb=>(k.wr b hb).elim (h.wr b) .inr,fun hb=>k.bnd (h.bnd hb),fun b hb h0=>k.dead b (Nat.lt_of_lt_of_le hb h.n) (h.dead b hb h0),fun b hb=>by
 by_cases h1:b ∈ S'.log
 ·exact h.live b h1
 ·rcases k.live b hb with h2 | h2
  ·exact absurd h2 h1
  ·rcases k.wr b hb with h3 | h3
   ·exact absurd h3 h1
   ·right; rw [← h.keep b h3.1 h1]; exact h2⟩
theorem Kp.new (hc:cx.cut ≤ S.n) (B:Blk):Kp cx S (S.new B):=⟨Nat.le_succ _,fun b hb _=>by rw [get_new,if_neg (by omega)],fun _ h=>h,fun _ h=>.inl h,fun hb b hn=>by
 rw [get_new] at hn
 by_cases h:b=S.n
 ·subst h; exact Nat.lt_succ_self _
 ·rw [if_neg h] at hn; exact Nat.lt_succ_of_lt (hb b hn),fun b hb h0=>by rw [get_new,if_neg (by omega)]; exact h0,fun _ h=>.inl h⟩
theorem Kp.put {b:Nat} {B:Option Blk} {B0:Blk} (h:S.put cx b B=some S') (h0:S.look cx b=some B0):Kp cx S S':=by
 obtain ⟨hm,hn,hl,hget⟩:=get_put h
 refine ⟨by omega,fun c hc hnl=>?_,fun c hc=>by rw [hl]; exact wrote_log hc,fun c hc=>?_,fun hb c hc=>?_,fun c _ h1=>?_,fun c hc=>?_⟩
 ·rw [hget]
  by_cases h1:c=b
  ·subst h1; exact absurd (by rw [hl]; exact wrote_mem hc) hnl
  ·rw [if_neg h1]
 ·rw [hl] at hc
  rcases mem_wrote hc with h1 | ⟨h1,h2⟩
  ·exact .inl h1
  ·right; subst h1
   unfold Cx.mod at hm
   have:Nat.ble cx.cut c=false:=by
    cases h3:Nat.ble cx.cut c
    ·rfl
    ·have:=Nat.le_of_ble_eq_true h3; omega
   rw [this] at hm; simp at hm; exact ⟨h2,hm.1,hm.2⟩
 ·rw [hn]
  refine hb c fun h1=>?_
  rw [hget] at hc
  by_cases h2:c=b
  ·rw [h2,(look_some h0).2] at h1; cases h1
  ·rw [if_neg h2] at hc; exact hc h1
 ·rw [hget]
  by_cases h2:c=b
  ·rw [h2,(look_some h0).2] at h1; cases h1
  ·rw [if_neg h2]; exact h1
 ·rw [hl] at hc
  rcases mem_wrote hc with h1 | ⟨h1,h2⟩
  ·exact .inl h1
  ·right; rw [h1,(look_some h0).2]; simp
theorem aStoreAt_kp {t:TypeId} {b off:Nat} {xs:List C} (h:aStoreAt P cx S t b off xs=some S'):Kp cx S S':=by
 unfold aStoreAt at h
 split at h
 ·rename_i cs el g n hl hi
  cases hg:(Nat.beq xs.length n && Nat.blt 0 n && Nat.ble (off + n) cs.length) with
  | false=>rw [hg] at h; cases h
  | true=>rw [hg] at h; simp only [cond_true] at h; exact Kp.put h hl
 ·cases h
theorem appTo_kp (hc:cx.cut ≤ S.n) {el:TypeId} {bytes z n:Nat} {l:List C} {a x:AV} (h:appTo cx S el bytes z n l a=some (x,S')):Kp cx S S':=by
 unfold appTo at h
 split at h
 ·cases hg : (Nat.ble (n * bytes) 140737488355328 && Nat.ble n 1099511627776) with
  | false=>rw [hg] at h; cases h
  | true=>rw [hg] at h; simp only [cond_true,Option.some.injEq,Prod.mk.injEq] at h; rw [← h.2]; exact Kp.new hc _
 ·cases hg : (Nat.ble (n * bytes) 140737488355328 && Nat.ble n 1099511627776) with
  | false=>rw [hg] at h; cases h
  | true=>rw [hg] at h; simp only [cond_true,Option.some.injEq,Prod.mk.injEq] at h; rw [← h.2]; exact Kp.new hc _
 ·rename_i b off len cap z2
  split at h
  ·rename_i cs el2 hlook
   split at h
   ·cases hg : (Nat.ble ((len + n) * bytes) 140737488355328 && Nat.ble (len + n) 1099511627776 && Nat.beq z2 z) with
    | false=>rw [hg] at h; cases h
    | true=>
     rw [hg] at h; simp only [cond_true] at h
     split at h
     ·rename_i c
      cases hfit:Nat.ble (len + n) c with
      | true=>
       rw [hfit] at h; simp only [cond_true] at h
       cases hg3:(Nat.beq el2 el && Nat.ble (off + (len + n) * z) cs.length) with
       | false=>rw [hg3] at h; cases h
       | true=>
        rw [hg3] at h; simp only [cond_true,Option.map_eq_some_iff,Prod.mk.injEq] at h
        obtain ⟨S1,hput,_,rfl⟩:=h
        exact Kp.put hput hlook
      | false=>rw [hfit] at h; simp only [cond_false,Option.some.injEq,Prod.mk.injEq] at h; rw [← h.2]; exact Kp.new hc _
     ·cases hg3 : (Nat.beq el2 el) with
      | false=>rw [hg3] at h; cases h
      | true=>
       rw [hg3] at h; simp only [cond_true,Option.map_eq_some_iff,Prod.mk.injEq] at h
       obtain ⟨S1,hput,_,rfl⟩:=h
       have:=(get_put hput).2.1
       exact (Kp.put hput hlook).trans (Kp.new (by omega) _)
   ·cases h
  ·cases h
 ·cases h
theorem aApp_kp (hc:cx.cut ≤ S.n) {t:TypeId} {x y:Operand} {a:AV} (h:aApp P cx S env t x y=some (a,S')):Kp cx S S':=by
 unfold aApp at h
 split at h
 ·split at h
  ·rename_i ti g zc ax ay _ _ _ _
   split at h
   ·rename_i n l _
    cases hg:(Nat.beq zc.length ti.size && Nat.blt 0 ti.size) with
    | false=>rw [hg] at h; cases h
    | true=>
     rw [hg] at h; simp only [cond_true] at h
     cases hn:Nat.beq n 0 with
     | true=>
      rw [hn] at h; simp only [cond_true] at h
      cases hs:isSl ax with
      | false=>rw [hs] at h; cases h
      | true=>rw [hs] at h; simp only [cond_true,Option.some.injEq,Prod.mk.injEq] at h; rw [← h.2]; exact Kp.refl
     | false=>rw [hn] at h; exact appTo_kp hc h
   ·cases h
  ·cases h
 ·cases h
theorem aUpdate_kp {t:TypeId} {x y z:Operand} (h:aUpdate P cx S env t x y z=some S'):Kp cx S S':=by
 unfold aUpdate at h
 split at h
 ·rename_i kt _ b k g cs _ _ _ _
  split at h
  ·rename_i es hl
   cases hko:keyOk P false kt k with
   | false=>rw [hko] at h; cases h
   | true=>
    rw [hko] at h; simp only [cond_true] at h
    split at h
    ·split at h
     ·rename_i p _
      cases hsb:Instr.sameBits 10000 p.1 k with
      | false=>rw [hsb] at h; cases h
      | true=>rw [hsb] at h; exact Kp.put h hl
     ·cases h
    ·exact Kp.put h hl
    ·cases h
  ·cases h
 ·cases h
theorem nextAll_kp {r m since : Nat} {seen : List Nat} {es : List (Value × Bool × List C)} {B0 : Blk} (h0 : S.look cx r = some B0) : ∀ {is : List Nat} {l : List (AV × St)}, nextAll S cx r m since seen es is = some l → ∀ p ∈ l, Kp cx S p.2
 | [],l,h,p,hp=>by simp only [nextAll,Option.some.injEq] at h; subst h; cases hp
 | i :: is,l,h,p,hp=>by
  simp only [nextAll] at h
  split at h
  ·rename_i q S1 l' h1 h2 h3
   split at h
   ·simp only [Option.some.injEq] at h; subst h
    rcases List.mem_cons.1 hp with rfl | hp
    ·exact Kp.put h2 h0
    ·exact nextAll_kp h0 h3 p hp
   ·cases h
  ·cases h
theorem aNext_kp {x:Operand} {l:List (AV × St)} (h:aNext cx S env x=some l):∀ p ∈ l,Kp cx S p.2:=by
 unfold aNext at h
 split at h
 ·split at h
  ·rename_i hl
   split at h
   ·rename_i m since seen last _ es _
    cases hg:(Nat.beq es.length since && Nat.beq es.length last) with
    | false=>rw [hg] at h; cases h
    | true=>
     rw [hg] at h; simp only [cond_true] at h
     split at h
     ·simp only [Option.some.injEq] at h; subst h; intro p hp; rw [List.mem_singleton.1 hp]; exact Kp.refl
     ·exact nextAll_kp (by assumption) h
   ·cases h
  ·simp only [Option.some.injEq] at h; subst h; intro p hp; rw [List.mem_singleton.1 hp]; exact Kp.refl
  ·cases h
 ·cases h
def ArK (cx : Cx) (S : St) : AR → Prop
 | .v _ S'=>Kp cx S S'
 | _=>True
theorem r1_kp {a:Option AV} {rs:List AR} (h:r1 S a=some rs):∀ r ∈ rs,ArK cx S r:=by
 simp only [r1,Option.map_eq_some_iff] at h
 obtain ⟨x,_,rfl⟩:=h
 intro r hr; rw [List.mem_singleton.1 hr]; exact Kp.refl
theorem r2_kp {a:Option (AV × St)} {rs:List AR} (h:r2 a=some rs) (k:∀ x S',a=some (x,S')→Kp cx S S'):∀ r ∈ rs,ArK cx S r:=by
 simp only [r2,Option.map_eq_some_iff] at h
 obtain ⟨⟨x,S'⟩,hx,rfl⟩:=h
 intro r hr; rw [List.mem_singleton.1 hr]; exact k x S' hx
theorem r3_kp {a:Option St} {rs:List AR} (h:r3 a=some rs) (k:∀ S',a=some S'→Kp cx S S'):∀ r ∈ rs,ArK cx S r:=by
 simp only [r3,Option.map_eq_some_iff] at h
 obtain ⟨S',hx,rfl⟩:=h
 intro r hr; rw [List.mem_singleton.1 hr]; exact k S' hx
theorem astep_kp (hc:cx.cut ≤ S.n) {o:Oper} {rs:List AR} (h:astep P tab cx S env o=some rs):∀ r ∈ rs,ArK cx S r:=by
 unfold astep at h
 split at h
 ·exact r1_kp h
 ·exact r1_kp h
 ·exact r1_kp h
 ·exact r1_kp h
 ·rename_i first cs _
  cases hf:Nat.beq first.size 0 with
  | false=>rw [hf] at h; cases h
  | true=>rw [hf] at h; exact r1_kp h
 ·refine r2_kp h fun x S' hx => ?_
  unfold aAlloc at hx
  simp only [Option.map_eq_some_iff,Prod.mk.injEq] at hx
  obtain ⟨p,_,_,rfl⟩:=hx
  exact Kp.new hc _
 ·refine r2_kp h fun x S' hx => ?_
  unfold aBox at hx
  split at hx
  ·simp only [Option.some.injEq,Prod.mk.injEq] at hx; rw [← hx.2]; exact Kp.new hc _
  ·cases hx
 ·exact r1_kp h
 ·refine r3_kp h fun S' hx => ?_
  unfold aStore at hx
  split at hx
  ·exact aStoreAt_kp hx
  ·cases hx
 ·exact r1_kp h
 ·exact r1_kp h
 ·exact r1_kp h
 ·exact r1_kp h
 ·exact r1_kp h
 ·exact r1_kp h
 ·exact r1_kp h
 ·refine r2_kp h fun x S' hx => ?_
  unfold aBuildS at hx
  split at hx
  ·split at hx
   ·have hx := bifS hx
    split at hx
    ·simp only [Option.some.injEq,Prod.mk.injEq] at hx; rw [← hx.2]; exact Kp.new hc _
    ·cases hx
   ·cases hx
  ·cases hx
 ·refine r2_kp h fun x S' hx => ?_
  unfold aMake at hx
  split at hx
  ·split at hx
   ·have hx := bifS hx
    simp only [Option.some.injEq,Prod.mk.injEq] at hx; rw [← hx.2]; exact Kp.new hc _
   ·cases hx
  ·cases hx
 ·refine r2_kp h fun x S' hx => ?_
  unfold aMakeMap at hx
  split at hx
  ·simp only [Option.some.injEq,Prod.mk.injEq] at hx; rw [← hx.2]; exact Kp.new hc _
  ·cases hx
 ·exact r1_kp h
 ·exact r3_kp h fun S' hx=>aUpdate_kp hx
 ·exact r3_kp h fun S' hx=>aUpdate_kp hx
 ·refine r2_kp h fun x S' hx => ?_
  unfold aRange at hx
  split at hx
  ·split at hx
   ·simp only [Option.some.injEq,Prod.mk.injEq] at hx; rw [← hx.2]; exact Kp.new hc _
   ·cases hx
  ·simp only [Option.some.injEq,Prod.mk.injEq] at hx; rw [← hx.2]; exact Kp.new hc _
  ·cases hx
 ·simp only [Option.map_eq_some_iff] at h
  obtain ⟨l,hl,rfl⟩:=h
  intro r hr
  obtain ⟨p,hp,rfl⟩:=List.mem_map.1 hr
  exact aNext_kp hl p hp
 ·exact r1_kp h
 ·exact r1_kp h
 ·unfold aCall at h
  split at h
  ·split at h
   ·rename_i g caps l _ _
    cases hg:(tab.get g).isSome with
    | false=>rw [hg] at h; cases h
    | true=>rw [hg] at h; simp only [cond_true,Option.some.injEq] at h; subst h; intro r hr; rw [List.mem_singleton.1 hr]; trivial
   ·simp only [Option.some.injEq] at h; subst h; intro r hr; rw [List.mem_singleton.1 hr]; trivial
   ·cases h
  ·split at h
   ·rename_i x y t t' _ _
    cases hb:Nat.beq t t' with
    | true=>rw [hb] at h; exact r2_kp h fun x S' hx=>aApp_kp hc hx
    | false=>
     rw [hb] at h
     refine r2_kp h fun x S' hx=>?_
     unfold aAppZ at hx
     split at hx
     ·split at hx
      ·have hx := bifS hx
       simp only [Option.some.injEq,Prod.mk.injEq] at hx; rw [← hx.2]; exact Kp.new hc _
      ·cases hx
     ·cases hx
   ·cases h
  ·split at h
   ·exact r1_kp h
   ·cases h
  ·exact r1_kp h
 ·exact r1_kp h
 ·exact r1_kp h
 ·cases h
end
end
end Go.Proofs.Ytmpjooneiaiffaa
