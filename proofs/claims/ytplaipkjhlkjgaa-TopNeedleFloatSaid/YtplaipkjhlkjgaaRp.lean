/- A machine of plain data: whatever it says is so. No program is named here. -/
import Derived.Test.YtplaipkjhlkjgaaRn
namespace Go.Proofs.Ytplaipkjhlkjgaa
noncomputable section
open Go.RowKit
section
variable {P:Program} {tab:Tab} {cx:Cx} {base:Nat} {ρ ρ':Rn} {S:St} {w w':World}
def Hyp (P:Program) (tab:Tab) (n:Nat):Prop:=∀ cx tk S outs,go P tab n cx tk S=some outs→∀ base ρ w,Sim cx base ρ S w→Xy ρ S outs→Ml P n cx base S outs ρ w tk
theorem ok_o (htab:Be P tab) {n:Nat} (ih:Hyp P tab n) {o:Oper} {env:Gv} {outs:List XO} (h:go P tab (n + 1) cx (.o o env) S=some outs) (hs:Sim cx base ρ S w) (hf:Xy ρ S outs):Ml P (n + 1) cx base S outs ρ w (.o o env):=by
 intro e K ho hK
 simp only [Xc,goB,goO,Dt] at h
 split at h
 ·rename_i r rs hst
  obtain ⟨hc1,_⟩:=Ks h
  obtain ⟨r0,hr0,hok⟩:=astep_ok htab hs ho hst fun q hq b h1 h2=>by
   cases q with
   | v x S'=>
    obtain ⟨a,h3,h4⟩:=hc1 _ hq
    simp only [goA] at h3
    cases hb:Nat.ble S.n S'.n with
    | false=>rw [hb] at h3; cases h3
    | true=>
     rw [hb] at h3; simp only [cond_true,Option.some.injEq] at h3; subst h3
     exact hf _ (h4 _ (List.mem_singleton.2 rfl)) b h1 h2
   | call f args=>exact absurd h1 (by have:b < S.n:=h2; omega)
   | rnd l args=>exact absurd h1 (by have:b < S.n:=h2; omega)
  obtain ⟨a,h3,h4⟩:=hc1 _ hr0
  cases r0 with
  | v x S'=>
   simp only [goA] at h3
   cases hb:Nat.ble S.n S'.n with
   | false=>rw [hb] at h3; cases h3
   | true=>
    rw [hb] at h3; simp only [cond_true,Option.some.injEq] at h3; subst h3
    obtain ⟨v,w',ρ',hr,ev,sm,hv⟩:=hok
    have hk:=hK _ (h4 _ (List.mem_singleton.2 rfl)) ρ' w' v ⟨ev,sm⟩ hv
    unfold doE
    rcases hr with hr | ⟨hr,rfl⟩ <;> rw [hr] <;> exact hk
  | call f args=>
   obtain ⟨vs,hr,hvs⟩:=hok
   have hcl:=ih _ _ _ _ h3 base ρ w hs (fun q hq=>hf q (h4 q hq)) vs hvs
   unfold doE
   rw [hr]
   refine Calls.mono hcl ?_
   rintro res w'' ⟨v,rfl,q,hq,ρ',haft,hv⟩
   exact ⟨v,rfl,hK q (h4 q hq) ρ' w'' v haft hv⟩
  | rnd l args=>
   obtain ⟨y,vs,hy,hvs,hr⟩:=hok
   obtain ⟨fn,tmps,asg,body,hyr,hrd⟩:=ih _ _ _ _ h3 base ρ w hs (fun q hq=>hf q (h4 q hq)) y vs hy hvs
   unfold doE
   rw [hr,hyr]
   refine RoundIn.mono hrd ?_
   rintro res w'' ⟨v,rfl,q,hq,ρ',haft,hv⟩
   exact ⟨v,rfl,hK q (h4 q hq) ρ' w'' v haft hv⟩
 ·cases h
theorem ok_l {n:Nat} (ih:Hyp P tab n) {all rest:List Oper} {env:Gv} {outs:List XO} (h:go P tab (n + 1) cx (.l all rest env) S=some outs) (hs:Sim cx base ρ S w) (hf:Xy ρ S outs):Ml P (n + 1) cx base S outs ρ w (.l all rest env):=by
 intro N ro e ds Q hN he hQ
 cases rest with
 | nil=>
  simp only [Xc,goB,goL,Option.some.injEq] at h; subst h
  exact Zb (hQ _ (List.mem_singleton.2 rfl) ρ w e ⟨Evo.refl hs.cut,hs⟩ he)
 | cons o rest=>
  simp only [List.all_cons,Bool.and_eq_true] at hN
  have hnd:∀ c,o.op ≠ .defer c:=fun c hc=>by have:=hN.1.2; rw [hc] at this; cases this
  simp only [Xc,goB,goL,goL1,Ut,Jz,Np] at h
  split at h
  ·rename_i hw
   obtain ⟨l1,h1,h2⟩:=Hg h
   have hpu:∀ r ∈ l1,∀ a,go P tab n cx (.l all rest (Ih env o.dst r.v)) r.S=some a→Pu r.S.n a:=fun r _ a ha=>Ss _ _ _ _ _ ha
   have hf1:=hf.fst h2 hpu
   have hp1:=Ss _ _ _ _ _ h1
   refine EL_doE (want_ok hw he) hnd hN.1.1 (ih _ _ _ _ h1 base ρ w hs hf1 e _ (fun t _=>he t) fun r hr ρ1 w1 v haft hv=>?_)
   obtain ⟨a,h3,h4⟩:=(Ks h2).1 r hr
   have hf2:=hf.snd h4 haft.1 (hp1.2 r hr)
   refine ih _ _ _ _ h3 base ρ1 w1 haft.2 hf2 N ro _ ds Q hN.2 ((he.mono haft.1.le haft.1.gro).put hv) fun q hq ρ2 w2 e2 haft2 he2=>?_
   exact hQ q (h4 q hq) ρ2 w2 e2 (haft.trans hs haft2 (hf q (h4 q hq))) he2
  ·rename_i hw
   refine EL_pass (want_ok hw he) hN.1.1 (ih _ _ _ _ h base ρ w hs hf N ro _ ds Q hN.2 (he.put ?_) hQ)
   exact rfl
  ·cases h
theorem envL_ok : ∀ {args : List AV} {vs : List Value} {k : Nat} {env : Gv} {e : Env}, All2 (VR ρ w) args vs → Xb ρ w env e → Xb ρ w (envL args k env) (fun t => if k ≤ t then (vs[t - k]?).getD (e t) else e t)
 | [],vs,k,env,e,h,he=>by
  cases h
  intro t; simp only [List.getElem?_nil,Option.getD_none,ite_self]; exact he t
 | a :: l,vs,k,env,e,h,he=>by
  cases h with
  | cons h1 h2=>
   rename_i v vs'
   have:=envL_ok (k:=k + 1) h2 (he.set (t:=k) h1)
   intro t
   have ht:=this t
   by_cases h3:k ≤ t
   ·simp only [h3, if_true]
    by_cases h4:t=k
    ·subst h4
     have h5:¬ (t + 1 ≤ t):=by omega
     simp only [h5,if_false,Uq] at ht
     simp only [Nat.sub_self,List.getElem?_cons_zero,Option.getD_some]
     exact ht
    ·have h5 : k + 1 ≤ t := by omega
     simp only [h5,if_true,Yy _ _ h4] at ht
     rw [show t - k=(t - (k + 1)) + 1 from by omega,List.getElem?_cons_succ]
     exact ht
   ·have h4 : t ≠ k := by omega
    have h5:¬ (k + 1 ≤ t):=by omega
    simp only [h5,if_false,Yy _ _ h4] at ht
    simp only [h3,if_false]; exact ht
theorem envAt_ok {args:List AV} {vs:List Value} (h:All2 (VR ρ w) args vs):Xb ρ w (envL args 0 Mp.nil) (Jw vs.toArray):=by
 have h0:Xb ρ w (Mp.nil:Gv) (fun _=>undef):=fun t=>by unfold Gv.at; rw [Mp.get_nil]; exact rfl
 have:=envL_ok (k:=0) h h0
 intro t
 have ht:=this t
 simp only [Nat.zero_le,if_true,Nat.sub_zero] at ht
 unfold Jw
 rw [Array.getD_eq_getD_getElem?,List.getElem?_toArray]
 exact ht
def resF (tmps : Array Value) : ResultVar → Sem Value
 | .tmp t=>pure (tmps.getD t undef)
 | .cell a t=>do loadVar t (← asAddr (tmps.getD a undef))
theorem results_resF (fn:Func) (tmps:Array Value):results fn tmps=(do let vs ← fn.results.mapM (resF tmps); pure (if h:vs.size=1 then vs[0] else .tuple vs)):=by
 have h:resF tmps=fun x=>(match x with | .tmp t=>(pure (tmps.getD t undef):Sem Value) | .cell a t=>do loadVar t (← asAddr (tmps.getD a undef))):=by funext x; cases x <;> rfl
 rw [h]; rfl
theorem aRess_ok (hs : Sim cx base ρ S w) {env : Gv} {tmps : Array Value} (he : ∀ t, VR ρ w (env.at t) (tmps.getD t undef)) : ∀ {rs : List ResultVar} {l : List (Bool × List C)}, Iv P cx S env rs = some l →
  ∃ vs:List Value,(rs.mapM (resF tmps)).run P w=.ok vs w∧All2 (V1 ρ w) l vs
 | [],l,h=>by simp only [Iv,Option.some.injEq] at h; subst h; exact ⟨[],by simp,.nil⟩
 | r :: rs,l,h=>by
  unfold Iv at h
  split at h
  ·rename_i p l' h1 h2
   simp only [Option.some.injEq] at h; subst h
   obtain ⟨vs,hvs,hr⟩:=aRess_ok hs he h2
   have hone:∃ v,(resF tmps r).run P w=.ok v w∧V1 ρ w p v:=by
    unfold aRes1 at h1
    split at h1
    ·rename_i t
     split at h1
     ·rename_i g cs hg
      simp only [Option.some.injEq] at h1; subst h1
      have:=he t; rw [hg] at this
      exact ⟨_,rfl,this⟩
     ·cases h1
    ·rename_i a t
     split at h1
     ·rename_i b off hb
      split at h1
      ·rename_i g cs hl
       simp only [Option.some.injEq] at h1; subst h1
       have:=he a; rw [hb] at this
       obtain ⟨y,hy,hv⟩:=V1.one this
       obtain ⟨y',v,hy',hrun,hvr⟩:=Nd (P:=P) hs hl
       rw [hy] at hy'; injection hy' with hy'; subst hy'
       refine ⟨v,?_,hvr⟩
       simp [resF,hv,asAddr,hrun]
      ·cases h1
     ·cases h1
   obtain ⟨v,hv1,hv2⟩:=hone
   refine ⟨v :: vs,?_,.cons hv2 hr⟩
   rw [List.mapM_cons]
   simp only [Sem.run_bind,hv1,Result.andThen_ok,hvs,Sem.run_pure]
  ·cases h
theorem aRes_ok (hs:Sim cx base ρ S w) {env:Gv} {fn:Func} {tmps:Array Value} {a:AV} (he:∀ t,VR ρ w (env.at t) (tmps.getD t undef)) (h:Ia P cx S env fn.results.toList=some a):∃ v,(results fn tmps).run P w=.ok v w∧VR ρ w a v:=by
 have key:∀ l,Iv P cx S env fn.results.toList=some l→∃ vs:List Value,(results fn tmps).run P w=.ok (if hh:vs.toArray.size=1 then vs.toArray[0] else .tuple vs.toArray) w∧All2 (V1 ρ w) l vs:=fun l hl=>by
  obtain ⟨vs,h1,h2⟩:=aRess_ok (P:=P) hs he hl
  refine ⟨vs,?_,h2⟩
  rw [results_resF,Array.mapM_eq_mapM_toList]
  simp only [map_eq_pure_bind,Sem.run_bind,h1,Result.andThen_ok,Sem.run_pure]
 unfold Ia at h
 split at h
 ·rename_i hl
  simp only [Option.some.injEq] at h; subst h
  obtain ⟨vs,h1,h2⟩:=key _ hl
  cases h2
  exact ⟨_,h1,rfl⟩
 ·rename_i p hl
  simp only [Option.some.injEq] at h; subst h
  obtain ⟨vs,h1,h2⟩:=key _ hl
  cases h2 with
  | cons h3 h4=>cases h4; exact ⟨_,h1,h3⟩
 ·rename_i l hn0 hn1 hl
  simp only [Option.some.injEq] at h; subst h
  obtain ⟨vs,h1,h2⟩:=key _ hl
  refine ⟨_,h1,?_⟩
  have hne:¬ (vs.toArray.size=1):=fun he=>by
   have hlen:=h2.len
   simp at he
   match l,hlen with
   | [p],_=>exact hn1 p rfl
   | [],hl=>simp at hl; omega
   | _ :: _ :: _,hl=>simp at hl; omega
  rw [dif_neg hne]
  exact ⟨vs,rfl,h2⟩
 ·cases h
theorem Ew {fn : Func} {tmps : Array Value} {env : Gv} {a : AV} {R : Ending → World → Prop} : ∀ {ms : List Nat} {ds : List Deferred} {S S2 : St} {w : World}, Jg cx S ms = some S2 → Sim cx base ρ S w → MkR ρ ms ds → (∀ t, VR ρ w (env.at t) (tmps.getD t undef)) →
  Ia P cx S2 env fn.results.toList=some a→(∀ v w',Evo cx ρ S w ρ S2 w'→Sim cx base ρ S2 w'→VR ρ w' a v→R (.returned v) w')→LeavesInM Fence.wide 0 P fn tmps R ds .returning w
 | [],ds,S,S2,w,h,hs,hm,he,hr,hR=>by
  simp only [Jg,Option.some.injEq] at h; subst h
  cases hm
  obtain ⟨v,hv,hvr⟩:=aRes_ok hs he hr
  show LeavesIn _ _ _ _ _ _ [] _ _
  exact ⟨v,hv,hR v w (Evo.refl hs.cut) hs hvr⟩
 | d :: ms,ds,S,S2,w,h,hs,hm,he,hr,hR=>by
  cases hm with
  | cons hd hm=>
   obtain ⟨y,hy,rfl⟩:=hd
   simp only [Jg] at h
   split at h
   ·rename_i hl
    split at h
    ·rename_i S1 hput
     obtain ⟨y',hy',hh,hget,_⟩:=Dk hs hl
     rw [hy] at hy'; injection hy' with hy'; subst hy'
     have hh':w.heap[y.1]?=some (.deferred (some [])):=hh
     have hg:Gro w (w.putObj y.1 (.deferred none)):=Ff hh' (fun _ _ _ h=>by cases h)
     obtain ⟨ev,sm⟩:=Xw hs hget hy hg (Yg _ _ _) (fun x hx=>World.putObj_heap_other hx) (B:=none) (fun _ h=>by cases h) hput
     refine ⟨by simp,.inl ⟨y.1,_,rfl,run_takeDeferred hh',Ew h sm hm (fun t=>VR.mono (Jf.refl _) hg (he t)) hr fun v w' ev' sm' hv=>hR v w' (ev.trans hs.cut ev' fun b h1 h2=>?_) sm' hv⟩⟩
     have:=Lh h
     have:=My hput
     omega
    ·cases h
   ·cases h
end
end
end Go.Proofs.Ytplaipkjhlkjgaa
/- A machine of plain data: whatever it says is so: calls, Sb, code. No program is named here. -/
namespace Go.Proofs.Ytplaipkjhlkjgaa
noncomputable section
open Go.RowKit
section
variable {P:Program} {tab:Tab} {cx:Cx} {base:Nat} {ρ ρ':Rn} {S:St} {w w':World}
theorem ok_f (htab:Be P tab) {n:Nat} (ih:Hyp P tab n) {f:FuncId} {args:List AV} {outs:List XO} (h:go P tab (n + 1) cx (.f f args) S=some outs) (hs:Sim cx base ρ S w) (hf:Xy ρ S outs):Ml P (n + 1) cx base S outs ρ w (.f f args):=by
 intro vs hvs
 simp only [Xc,goB,goF] at h
 split at h
 ·rename_i i hi
  obtain ⟨_,hfn,hbody,hok⟩:=htab f i hi
  cases hb:Nat.ble args.length i.fn.ntmps with
  | false=>rw [hb] at h; cases h
  | true=>
   rw [hb] at h; simp only [cond_true] at h
   have hle:=Nat.le_of_ble_eq_true hb
   obtain ⟨l1,h1,h2⟩:=Hg h
   have hpu : ∀ r ∈ l1, ∀ a, (match r.x with
    | .exit _=>none
    | _ => match Jg cx r.S r.ms with
     | some S2 => match Ia P cx S2 r.env i.fn.results.toList with
      | some v=>some [xo1 S2 v]
      | none=>none
     | none=>none)=some a→Pu r.S.n a:=fun r _ a ha=>by
    split at ha
    ·cases ha
    ·split at ha
     ·rename_i S2 h2
      split at ha
      ·simp only [Option.some.injEq] at ha; subst ha; exact Pu.one (Nat.le_of_eq (Lh h2).symm)
      ·cases ha
     ·cases ha
   have hf1:=hf.fst h2 hpu
   have hp1:=Ss _ _ _ _ _ h1
   have hlen:=hvs.len
   refine Calls.mono (Xm (R:=fun v w'=>∃ r ∈ outs,∃ ρ',Aft cx base ρ S w r ρ' w'∧VR ρ' w' r.v v) hfn hbody (by simp; omega) (ih _ _ _ _ h1 base ρ w hs hf1 hok none _ [] _ (fun _=>rfl) (envAt_ok hvs) .nil fun r hr ρ1 w1 e1 ds1 haft he1 hm1=>?_)) ?_
   ·obtain ⟨a, h3, h4⟩ := (Ks h2).1 r hr
    have hend : ∀ S2 v, Jg cx r.S r.ms = some S2 → Ia P cx S2 r.env i.fn.results.toList = some v → a = [xo1 S2 v] → ∀ tmps : Array Value, (∀ t, tmps.getD t undef = e1 t) →
      LeavesInM Fence.wide 0 P i.fn tmps (fun res w'=>∃ v,res=.returned v∧∃ r ∈ outs,∃ ρ',Aft cx base ρ S w r ρ' w'∧VR ρ' w' r.v v) ds1 .returning w1:=by
     intro S2 v hS2 hv ha tmps ht
     subst ha
     have hq:=h4 (xo1 S2 v) (by simp)
     refine Ew hS2 haft.2 hm1 (fun t=>by rw [ht]; exact he1 t) hv fun v' w' ev sm hvr=>⟨v',rfl,xo1 S2 v,hq,ρ1,?_,hvr⟩
     exact haft.trans hs ⟨ev,sm⟩ (hf _ hq)
    cases hx:r.x with
    | exit id=>rw [hx] at h3; cases h3
    | nrm=>
     rw [hx] at h3; simp only at h3
     split at h3
     ·rename_i S2 hS2
      split at h3
      ·rename_i v hv
       simp only [Option.some.injEq] at h3
       exact hend S2 v hS2 hv h3.symm
      ·cases h3
     ·cases h3
    | ret=>
     rw [hx] at h3; simp only at h3
     split at h3
     ·rename_i S2 hS2
      split at h3
      ·rename_i v hv
       simp only [Option.some.injEq] at h3
       exact hend S2 v hS2 hv h3.symm
      ·cases h3
     ·cases h3
   ·rintro res w' ⟨v, rfl, q, hq, ρ', haft, hv⟩
    exact ⟨v,rfl,q,hq,ρ',haft,hv⟩
 ·cases h

/-! ### Rounds -/
theorem setPs_ok : ∀ {ps : List Nat} {args : List AV} {vs : List Value} {env : Gv} {tmps : Array Value}, ps.length = args.length → All2 (VR ρ w) args vs → (∀ t, VR ρ w (env.at t) (tmps.getD t undef)) → ps.all (fun t => Nat.blt t tmps.size) = true →
  (∀ t,VR ρ w ((setPs env ps args).at t) (((ps.zip vs).foldl (fun (ts:Array Value) (p:Nat × Value)=>ts.setIfInBounds p.1 p.2) tmps).getD t undef))∧((ps.zip vs).foldl (fun (ts:Array Value) (p:Nat × Value)=>ts.setIfInBounds p.1 p.2) tmps).size=tmps.size
 | [],args,vs,env,tmps,hl,h,he,_=>by
  simp only [List.zip_nil_left,List.foldl_nil]
  refine ⟨fun t=>?_,trivial⟩
  cases args <;> exact he t
 | p :: ps,[],vs,env,tmps,hl,h,he,_=>by simp at hl
 | p :: ps,a :: args,vs,env,tmps,hl,h,he,hp=>by
  cases h with
  | cons h1 h2=>
   rename_i v vs'
   simp only [List.all_cons,Bool.and_eq_true] at hp
   have hpl:p < tmps.size:=Nat.le_of_ble_eq_true hp.1
   have:=setPs_ok (ps:=ps) (env:=Mp.set env p (some a)) (tmps:=tmps.setIfInBounds p v) (by simpa using hl) h2 (fun t=>by
    unfold Gv.at
    rw [Mp.get_set,Array.getD_eq_getD_getElem?]
    by_cases ht:t=p
    ·subst ht; rw [if_pos rfl,Array.getElem?_setIfInBounds_self_of_lt hpl]; exact h1
    ·rw [if_neg ht,Array.getElem?_setIfInBounds_ne (fun e=>ht e.symm),← Array.getD_eq_getD_getElem?]; exact he t) (by simpa using hp.2)
   simp only [List.zip_cons_cons,List.foldl_cons,setPs]
   exact ⟨this.1,this.2.trans (by simp)⟩
theorem Nu (hs : Sim cx base ρ S w) {l N : Nat} {y : Nat × Nat} {env : Gv} {ps : List Tmp} {asg body : Code} {st st' : LoopState} {pend pend' : Option Code} {d : Nat} {rec : Loop} {S' : St} (hget : S.get l = some (.loop N env ps asg body st pend d)) (hy : ρ l = some y)
  (hh:w.heap[y.1]?=some (.loop rec)) (hb:BR ρ w (.loop N env ps asg body st pend d) y) (hput:S.put cx l (some (.loop N env ps asg body st' pend' d))=some S') :
  Evo cx ρ S w ρ S' (w.putObj y.1 (.loop { rec with state:=st',pending:=pend' }))∧Sim cx base ρ S' (w.putObj y.1 (.loop { rec with state:=st',pending:=pend' })):=by
 have hgro:Gro w (w.putObj y.1 (.loop { rec with state:=st',pending:=pend' })):=Ff hh (fun _ _ _ h=>by cases h)
 obtain ⟨tmps,dd,fn,hh',h1,h2,h3,h4⟩:=hb
 rw [hh] at hh'
 injection hh' with hh'
 injection hh' with hh'
 exact Xw hs hget hy hgro (Yg _ _ _) (fun x hx=>World.putObj_heap_other hx) (fun B1 hB1=>by
  injection hB1 with hB1; subst hB1
  refine ⟨tmps,dd,fn,?_,h1,fun t=>VR.mono (Jf.refl _) hgro (h2 t),h3,h4⟩
  rw [World.putObj_heap_same (Gg hh),hh']) hput
theorem Fd {N : Nat} {env : Gv} {ps : List Tmp} {asg body : Code} {st : LoopState} {pend : Option Code} {d : Nat} {y : Nat × Nat} (h : BR ρ w (.loop N env ps asg body st pend d) y) : ∃ rec : Loop, w.heap[y.1]? = some (.loop rec) ∧ rec.state = st ∧ rec.pending = pend ∧ rec.params = ps.toArray ∧ rec.assign = asg ∧ rec.body = body ∧
  rec.tmps.size=N∧(∀ t,VR ρ w (env.at t) (rec.tmps.getD t undef))∧okC N asg=true∧okC N body=true∧ps.all (fun t=>Nat.blt t N)=true:=by
 obtain ⟨tmps,dd,fn,hh,h1,h2,h3,h4,h5,h6⟩:=h
 exact ⟨_,hh,rfl,rfl,rfl,rfl,rfl,h1,h2,h4,h5,h6⟩
theorem ok_r {n:Nat} (ih:Hyp P tab n) {l:Nat} {args:List AV} {outs:List XO} (h:go P tab (n + 1) cx (.r l args) S=some outs) (hs:Sim cx base ρ S w) (hf:Xy ρ S outs):Ml P (n + 1) cx base S outs ρ w (.r l args):=by
 intro y vs hy hvs
 simp only [Xc,goB,goR] at h
 split at h
 ·rename_i N env ps asg body st pend d hlook
  cases hb:Nat.beq args.length ps.length with
  | false=>rw [hb] at h; cases h
  | true=>
   rw [hb] at h; simp only [cond_true] at h
   have hle:=Nat.eq_of_beq_eq_true hb
   obtain ⟨y',hy',hbr,hget,hvis⟩:=Dk hs hlook
   rw [hy] at hy'; injection hy' with hy'; subst hy'
   obtain ⟨rec,hh,hr1,hr2,hr3,hr4,hr5,hN,hvr,ho1,ho2,ho3⟩:=Fd hbr
   have hlen:=hvs.len
   have hyr:=run_yield (P:=P) (args:=vs.toArray) hh (by rw [hr3]; simp; omega)
   refine ⟨_,_,_,_,hyr,roundIn_of_wpIn (F:=Fence.wide) trivial ?_⟩
   obtain ⟨l1,h1,h2⟩:=Hg h
   have hpu : ∀ r ∈ l1, ∀ a, (match r.x with
    | .nrm => match Bq cx l r.S with
     | some S1=>Xh (go P tab n cx (.c true N body r.env r.ms) S1) fun q=>Ld cx l q.x q.S
     | none=>none
    | _=>none)=some a→Pu r.S.n a:=fun r _ a ha=>by
    split at ha
    ·split at ha
     ·rename_i S1 h1
      rw [← Nl h1]
      exact Uc ha (fun l hl=>Ss _ _ _ _ _ hl) fun q b _ hb=>Ox hb
     ·cases ha
    ·cases ha
   have hf1:=hf.fst h2 hpu
   have hp1:=Ss _ _ _ _ _ h1
   have hzip:(rec.params.zip vs.toArray).foldl (fun tmps (x:Tmp × Value)=>tmps.setIfInBounds x.1 x.2) rec.tmps=(ps.zip vs).foldl (fun (ts:Array Value) (p:Nat × Value)=>ts.setIfInBounds p.1 p.2) rec.tmps:=by
    rw [hr3]
    have:ps.toArray.zip vs.toArray=(ps.zip vs).toArray:=by apply Array.ext'; simp
    rw [this]; simp
   obtain ⟨hset1,hset2⟩:=setPs_ok (ps:=ps) hle.symm hvs hvr (by rw [hN]; exact ho3)
   have hE := ih _ _ _ _ h1 base ρ w hs hf1 ho1 (some y.1) (fun t => ((ps.zip vs).foldl (fun (ts : Array Value) (p : Nat × Value) => ts.setIfInBounds p.1 p.2) rec.tmps).getD t undef) []
    (fun x e2 ds2 w2=>x=.normal∧∃ w3,(Instr.beginRound y.1).run P w2=.ok () w3∧E P N (some y.1) body (fun x3 e3 ds3 w4=>∃ jump,(x3=.normal∧jump=none ∨ x3=.ret∧jump=some .ret ∨ ∃ id,x3=.exit id∧jump=some (.exit id))∧∃ v w5,(Instr.endRound y.1 jump).run P w4=.ok v w5∧CallR cx base ρ S w outs (.returned v) w5) e2 ds2 w3)
    (fun h=>by cases h) hset1 .nil fun r hr ρ1 w1 e1 ds1 haft he1 hm1=>?_
   ·have hw := hE { tmps := (rec.params.zip vs.toArray).foldl (fun tmps (x : Tmp × Value) => tmps.setIfInBounds x.1 x.2) rec.tmps, defers := [] } ⟨by rw [hzip, hset2]; exact hN, fun t => by rw [hzip]⟩ rfl
    rw [hr4,hr5]
    have hfz:fz (some y.1)=Fence.wide.inRound y.1:=rfl
    rw [hfz] at hw
    refine wpIn_mono hw ?_
    rintro x1 a1 w1 ⟨hsz1,hx1,w3,hbr3,hEb⟩
    subst hx1
    refine ⟨w3,hbr3,wpIn_mono (hEb a1 ⟨hsz1,fun _=>rfl⟩ rfl) ?_⟩
    rintro x2 a2 w4 ⟨_,jump,hj,v,w5,hend,hR⟩
    rcases hj with ⟨rfl,rfl⟩ | ⟨rfl,rfl⟩ | ⟨id,rfl,rfl⟩ <;> exact ⟨v,w5,hend,hR⟩
   ·obtain ⟨a, h3, h4⟩ := (Ks h2).1 r hr
    cases hx:r.x with
    | exit id=>rw [hx] at h3; cases h3
    | ret=>rw [hx] at h3; cases h3
    | nrm=>
     rw [hx] at h3; simp only at h3
     refine ⟨rfl,?_⟩
     split at h3
     ·rename_i S1 hbusy
      have hn1:=Nl hbusy
      unfold Bq at hbusy
      split at hbusy
      ·rename_i N2 env2 ps2 asg2 body2 pend2 d2 hlook2
       obtain ⟨y2,hy2,hbr2,hget2,hvis2⟩:=Dk haft.2 hlook2
       rw [haft.1.le _ _ hy] at hy2; injection hy2 with hy2; subst hy2
       obtain ⟨rec2,hh2,hs2,_⟩:=Fd hbr2
       obtain ⟨ev2,sm2⟩:=Nu haft.2 hget2 (haft.1.le _ _ hy) hh2 hbr2 hbusy
       have hbeg:=run_beginRound (P:=P) hh2 hs2
       have hst:(w1.putObj y.1 (.loop { rec2 with state:=.busy,pending:=pend2 }))=w1.putObj y.1 (.loop { rec2 with state:=.busy }):=by
        obtain ⟨tmps,dd,fn,hh3,_⟩:=hbr2
        rw [hh2] at hh3; injection hh3 with hh3; injection hh3 with hh3; rw [hh3]
       rw [hst] at ev2 sm2
       refine ⟨_,hbeg,?_⟩
       obtain ⟨l2,h5,h6⟩:=Hg h3
       have hfa:Xy ρ1 r.S a:=hf.snd h4 haft.1 (hp1.2 r hr)
       have haft1:Aft cx base ρ S w (xo1 S1 .u) ρ1 (w1.putObj y.1 (.loop { rec2 with state:=.busy })):=haft.trans hs (q:=xo1 S1 .u) ⟨ev2,sm2⟩ (fun b h7 h8=>hf1 r hr b h7 (by have:b < S1.n:=h8; omega))
       have hfS1:Xy ρ1 S1 a:=fun q hq b h7 h8=>hfa q hq b (by omega) h8
       have hp2:=Ss _ _ _ _ _ h5
       have hf2:Xy ρ1 S1 l2:=hfS1.fst h6 fun q _ b hb=>Ox hb
       refine ih _ _ _ _ h5 base ρ1 _ sm2 hf2 ho2 (some y.1) _ _ _ (fun h=>by cases h) (he1.mono (Jf.refl _) ev2.gro) hm1 fun q hq ρ2 w2 e2 ds2 haft2 he2 hm2=>?_
       obtain ⟨b,h7,h8⟩:=(Ks h6).1 q hq
       unfold Ld at h7
       split at h7
       ·rename_i N3 env3 ps3 asg3 body3 st3 pend3 d3 hlook3
        split at h7
        ·rename_i S2 hput
         simp only [Option.some.injEq] at h7; subst h7
         obtain ⟨y3,hy3,hbr3,hget3,hvis3⟩:=Dk haft2.2 hlook3
         have hyl:ρ2 l=some y:=haft2.1.le _ _ (haft.1.le _ _ hy)
         rw [hyl] at hy3; injection hy3 with hy3; subst hy3
         obtain ⟨rec3,hh3,_⟩:=Fd hbr3
         obtain ⟨ev3,sm3⟩:=Nu haft2.2 hget3 hyl hh3 hbr3 hput
         have hend:=run_endRound (P:=P) (Bn q.x) hh3
         have hq1:=h4 _ (h8 _ (List.mem_singleton.2 rfl))
         refine ⟨Bn q.x,?_,_,_,hend,_,rfl,_,hq1,ρ2,?_,V1.of ⟨rfl,rfl⟩⟩
         ·cases q.x with
          | nrm=>exact .inl ⟨rfl,rfl⟩
          | ret=>exact .inr (.inl ⟨rfl,rfl⟩)
          | exit id=>exact .inr (.inr ⟨id,rfl,rfl⟩)
         ·have hst3 : (if (Bn q.x).isNone = true then LoopState.ready else LoopState.done) = (bif (Bn q.x).isNone then .ready else .done) := by cases (Bn q.x).isNone <;> rfl
          rw [hst3]
          have hn3:=My hput
          have haft2':Aft cx base ρ S w q ρ2 w2:=haft1.trans hs haft2 (fun b h9 h10=>hf _ hq1 b h9 (by show b < S2.n; omega))
          exact haft2'.trans hs (q:=xo1 S2 _) ⟨ev3,sm3⟩ (hf _ hq1)
        ·cases h7
       ·cases h7
      ·cases hbusy
     ·cases h3
 ·cases h
end
end
end Go.Proofs.Ytplaipkjhlkjgaa
