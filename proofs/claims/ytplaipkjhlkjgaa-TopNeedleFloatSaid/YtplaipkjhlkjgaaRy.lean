/- A machine of plain data: whatever it says is so: code; a call without arguments. No program is named here. -/
import Derived.Test.YtplaipkjhlkjgaaRp
import Derived.Test.YtplaipkjhlkjgaaRw
namespace Go.Proofs.Ytplaipkjhlkjgaa
noncomputable section
open Go.RowKit
section
variable {P:Program} {tab:Tab} {cx:Cx} {base:Nat} {ρ ρ':Rn} {S:St} {w w':World}
theorem Vm {r:XO} {a outs:List XO} (h:some [r]=some a) (hs:∀ q ∈ a,q ∈ outs):r ∈ outs:=by
 simp only [Option.some.injEq] at h; subst h; exact hs _ (by simp)
theorem ok_c (hmx : P.follows .mixedOrders = true) (htab : Be P tab) {n : Nat} (ih : Hyp P tab n) {inr : Bool} {N : Nat} {c : Code} {env : Gv} {ms : List Nat} {outs : List XO} (h : go P tab (n + 1) cx (.c inr N c env ms) S = some outs) (hs : Sim cx base ρ S w) (hf : Xy ρ S outs) :
  Ml P (n + 1) cx base S outs ρ w (.c inr N c env ms):=by
 intro hok ro e ds Q hro he hm hQ
 have here:∀ x,outs=[{ x:=x,env:=env,ms:=ms,v:=.u,S:=S }]→Q (toX x) e ds w:=fun x hx=>by
  subst hx; exact hQ { x:=x,env:=env,ms:=ms,v:=.u,S:=S } (by simp) ρ w e ds ⟨Evo.refl hs.cut,hs⟩ he hm
 simp only [Xc,goB,goC,gSeq,gCond,gReg,gRng] at h
 split at h
 ·simp only [Option.some.injEq] at h; exact Zu (here _ h.symm)
 ·simp only [Option.some.injEq] at h; exact Gq (here _ h.symm)
 ·simp only [Option.some.injEq] at h; exact Qj (here _ h.symm)
 ·rename_i a b
  simp only [okC,Bool.and_eq_true] at hok
  obtain ⟨l1,h1,h2⟩:=Hg h
  have hpu : ∀ r ∈ l1, ∀ q, (match r.x with
   | .nrm=>go P tab n cx (.c inr N b r.env r.ms) r.S
   | _=>some [r])=some q→Pu r.S.n q:=fun r _ q hq=>by
   split at hq
   ·exact Ss _ _ _ _ _ hq
   ·simp only [Option.some.injEq] at hq; subst hq; exact Pu.one (Nat.le_refl _)
  have hf1:=hf.fst h2 hpu
  have hp1:=Ss _ _ _ _ _ h1
  refine Zf (ih _ _ _ _ h1 base ρ w hs hf1 hok.1 ro e ds _ hro he hm fun r hr ρ1 w1 e1 ds1 haft he1 hm1=>?_)
  obtain ⟨q,h3,h4⟩:=(Ks h2).1 r hr
  cases hx:r.x with
  | nrm=>
   rw [hx] at h3; simp only at h3
   refine ih _ _ _ _ h3 base ρ1 w1 haft.2 (hf.snd h4 haft.1 (hp1.2 r hr)) hok.2 ro e1 ds1 Q hro he1 hm1 fun q hq ρ2 w2 e2 ds2 haft2 he2 hm2=>?_
   exact hQ q (h4 q hq) ρ2 w2 e2 ds2 (haft.trans hs haft2 (hf q (h4 q hq))) he2 hm2
  | ret=>
   rw [hx] at h3
   have:=hQ r (Vm h3 h4) ρ1 w1 e1 ds1 haft he1 hm1
   rw [hx] at this; exact this
  | exit id=>
   rw [hx] at h3
   have:=hQ r (Vm h3 h4) ρ1 w1 e1 ds1 haft he1 hm1
   rw [hx] at this; exact this
 ·rename_i k a b
  simp only [okC,Bool.and_eq_true] at hok
  split at h
  ·rename_i t hk
   have hc:ev e k=.bool t:=Kf (xs:=[k]) hk (fun t _=>he t) (by simp)
   refine E_cond hc (fun ht=>?_) (fun ht=>?_)
   ·subst ht
    simp only [cond_true] at h
    exact ih _ _ _ _ h base ρ w hs hf hok.1 ro e ds Q hro he hm hQ
   ·subst ht
    simp only [cond_false] at h
    exact ih _ _ _ _ h base ρ w hs hf hok.2 ro e ds Q hro he hm hQ
  ·cases h
 ·rename_i id a
  simp only [okC] at hok
  obtain ⟨l1,h1,h2⟩:=Hg h
  have hf1:=hf.fst h2 fun r _ q hq=>by
   simp only [Option.some.injEq] at hq; subst hq; exact Pu.one (Nat.le_refl _)
  refine Zr (ih _ _ _ _ h1 base ρ w hs hf1 hok ro e ds _ hro he hm fun r hr ρ1 w1 e1 ds1 haft he1 hm1=>?_)
  obtain ⟨q,h3,h4⟩:=(Ks h2).1 r hr
  have hin:=Vm h3 h4
  have:=hQ _ hin ρ1 w1 e1 ds1 haft he1 hm1
  simp only at this
  cases hx:r.x with
  | nrm=>rw [hx] at this; exact this
  | ret=>rw [hx] at this; exact this
  | exit i=>
   rw [hx] at this
   simp only [blkX,Ft] at this
   show (if i=id then Q .normal e1 ds1 w1 else Q (.exit i) e1 ds1 w1)
   by_cases hi:i=id
   ·rw [if_pos hi]; simpa [hi,toX] using this
   ·rw [if_neg hi]; simpa [hi,toX] using this
 ·rename_i a
  have hok':okC N a=true:=hok
  exact E_loop n (ih _ _ _ _ h base ρ w hs hf hok' ro e ds Q hro he hm hQ)
 ·rename_i id ops draw
  cases draw with
  | true=>
   simp only [cond_true] at h
   simp only [okC,Bool.and_eq_true,Bool.not_true,Bool.false_or] at hok
   unfold drwX at h
   split at h
   ·rename_i p hp
    simp only [Option.some.injEq] at h; subst h
    exact ok_d hmx ih hp hs (fun b h1 h2=>hf _ (List.mem_singleton.2 rfl) b h1 h2) hok.1 hok.2 he fun ρ1 w1 e1 ev sm he1=>
     hQ _ (List.mem_singleton.2 rfl) ρ1 w1 e1 ds ⟨ev,sm⟩ he1 (hm.mono ev.le)
   ·cases h
  | false=>
   simp only [cond_false] at h
   simp only [okC,Bool.and_eq_true] at hok
   obtain ⟨l1,h1,h2⟩:=Hg h
   have hf1:=hf.fst h2 fun r _ q hq=>by
    simp only [Option.some.injEq] at hq; subst hq; exact Pu.one (Nat.le_refl _)
   have hE:=ih _ _ _ _ h1 base ρ w hs hf1 N ro e ds Q hok.1 he fun r hr ρ1 w1 e1 haft he1=>by
    obtain ⟨q,h3,h4⟩:=(Ks h2).1 r hr
    exact hQ _ (Vm h3 h4) ρ1 w1 e1 ds haft he1 (hm.mono haft.1.le)
   have ha:ops=ops.toList.toArray:=by simp
   rw [ha]
   exact Za (by simpa using hE)
 ·rename_i f ps asg body
  cases inr with
  | true=>simp at h
  | false=>
   simp only [cond_false] at h
   have hro0:=hro rfl
   subst hro0
   simp only [okC,Bool.and_eq_true] at hok
   split at h
   ·rename_i g caps hfv
    cases hg:(tab.get g).isSome with
    | false=>rw [hg] at h; cases h
    | true=>
     rw [hg] at h; simp only [cond_true] at h
     obtain ⟨i,hi⟩:=Option.isSome_iff_exists.1 hg
     have hent:=(htab g i hi).1
     obtain ⟨cvs,hfe,hcv⟩:=V1.one (Qa (xs:=[f]) hfv (fun t _=>he t) (by simp))
     obtain ⟨l1,h1,h2⟩:=Hg h
     have hp1:=Ss _ _ _ _ _ h1
     have hpu:∀ r ∈ l1,∀ q,Cl cx (S.n + 1) env (S.n :: ms) r.S=some q→Pu r.S.n q:=fun r _ q hq=>endLp_pu hq
     have hf0:Xy ρ S l1:=fun r hr b h3 h4=>hf.fst h2 hpu r hr b h3 h4
     have hnew:∀ b,S.n ≤ b→b < S.n + 2→ρ b=none:=fun b h3 h4=>by
      cases l1 with
      | nil=>exact absurd rfl hp1.1
      | cons r l1=>exact hf0 r (by simp) b h3 (Nat.lt_of_lt_of_le h4 (hp1.2 r (by simp)))
     intro a ha hd
     subst hd
     have hga:a.eval f=.func (.func g) #[] cvs.toArray:=by rw [ha.eval]; exact hfe
     refine wpIn_rangeFunc ?_
     intro fn hfn
     rw [fz_round]
     obtain ⟨ev1,sm1⟩:=new_ok hs (hnew S.n (Nat.le_refl _) (by omega)) (.deferred (some [])) .dfr (Qk _ _)
     generalize hρ1:Ua ρ S.n (w.heap.size,0)=ρ1 at ev1 sm1
     have hρ1n:ρ1 S.n=some (w.heap.size,0):=by rw [← hρ1]; exact Wf _ _ _
     have hfree1:ρ1 (S.new .dfr).n=none:=by
      rw [← hρ1]; show Ua ρ S.n (w.heap.size,0) (S.n + 1)=none
      rw [Hx _ (by omega)]; exact hnew _ (by omega) (by omega)
     have hbr:BR (Ua ρ1 (S.new .dfr).n ((w.alloc (.deferred (some []))).heap.size,0)) ((w.alloc (.deferred (some []))).alloc (.loop { state:=.ready,pending:=none,fn:=fn,tmps:=a.tmps,params:=ps,assign:=asg,body:=body,defers:=w.heap.size })) (.loop N env ps.toList asg body .ready none S.n) ((w.alloc (.deferred (some []))).heap.size,0):=by
      refine ⟨a.tmps,w.heap.size,fn,?_,ha.size,fun t=>?_,⟨_,Yq hfree1 _ _ hρ1n,rfl⟩,hok.1.1,hok.1.2,hok.2⟩
      ·rw [Qk]
      ·rw [ha.get t]; exact VR.mono (ev1.le.trans (Yq hfree1)) (ev1.gro.trans (Ra _ _)) (he t)
     obtain ⟨ev2,sm2⟩:=new_ok sm1 hfree1 _ _ hbr
     have hevo:Evo cx ρ S w (Ua ρ1 (S.new .dfr).n ((w.alloc (.deferred (some []))).heap.size,0)) ((S.new .dfr).new (.loop N env ps.toList asg body .ready none S.n)) ((w.alloc (.deferred (some []))).alloc (.loop { state:=.ready,pending:=none,fn:=fn,tmps:=a.tmps,params:=ps,assign:=asg,body:=body,defers:=w.heap.size })):=
      ev1.trans hs.cut ev2 fun b h3 h4=>hnew b h3 (by have:b < S.n + 1 + 1:=h4; omega)
     have hl1:Ua ρ1 (S.new .dfr).n ((w.alloc (.deferred (some []))).heap.size,0) (S.n + 1)=some (w.heap.size + 1,0):=by
      have:(w.alloc (.deferred (some []))).heap.size=w.heap.size + 1:=by simp
      rw [← this]; exact Wf _ _ _
     generalize hρ2:Ua ρ1 (S.new .dfr).n ((w.alloc (.deferred (some []))).heap.size,0)=ρ2 at ev2 sm2 hevo hl1
     have hargs:All2 (VR ρ2 ((w.alloc (.deferred (some []))).alloc (.loop { state:=.ready,pending:=none,fn:=fn,tmps:=a.tmps,params:=ps,assign:=asg,body:=body,defers:=w.heap.size }))) (.v false [.y (S.n + 1)] :: caps.map capV) (.func (.yield (w.heap.size + 1)) #[] #[] :: cvs):=
      .cons (V1.of ⟨(w.heap.size + 1,0),hl1,rfl⟩) (caps_ok (hcv.mono fun _ _=>PR.mono hevo.le))
     have hfree2:Xy ρ2 ((S.new .dfr).new (.loop N env ps.toList asg body .ready none S.n)) l1:=fun r hr b h3 h4=>by
      have h5:S.n + 2 ≤ b:=h3
      have h0:=hf0 r hr b (by omega) h4
      cases h6:ρ2 b with
      | none=>rfl
      | some y=>have:=hevo.dom b h0 (by rw [h6]; simp); have h7:b < S.n + 1 + 1:=this.2; omega
     have hcall:=ih _ _ _ _ h1 base ρ2 _ sm2 hfree2 _ hargs
     have hinv:(invoke (.fn (.func g) cvs.toArray) (#[] ++ #[.func (.yield (w.heap.size + 1)) #[] #[]])).run P ((w.alloc (.deferred (some []))).alloc (.loop { state:=.ready,pending:=none,fn:=fn,tmps:=a.tmps,params:=ps,assign:=asg,body:=body,defers:=w.heap.size }))=.ok (.enter g (.func (.yield (w.heap.size + 1)) #[] #[] :: cvs).toArray) ((w.alloc (.deferred (some []))).alloc (.loop { state:=.ready,pending:=none,fn:=fn,tmps:=a.tmps,params:=ps,assign:=asg,body:=body,defers:=w.heap.size })):=by
      have:=hent (.func (.yield (w.heap.size + 1)) #[] #[] :: cvs).toArray ((w.alloc (.deferred (some []))).alloc (.loop { state:=.ready,pending:=none,fn:=fn,tmps:=a.tmps,params:=ps,assign:=asg,body:=body,defers:=w.heap.size }))
      simp only [invoke]
      have hsp:(#[] ++ #[.func (.yield (w.heap.size + 1)) #[] #[]] ++ cvs.toArray:Array Value)=(.func (.yield (w.heap.size + 1)) #[] #[] :: cvs).toArray:=by apply Array.ext'; simp
      rw [hsp]; exact this
     refine ⟨w.heap.size + 1,[{ target:=.collected w.heap.size,args:=#[] }],_,{ target:=.fn (.func g) cvs.toArray,args:=#[] ++ #[.func (.yield (w.heap.size + 1)) #[] #[]] },_,g,_,_,run_enterLoop_outer fn a.tmps ps asg body,?_,fun f' hf'=>trivial,hinv,Db none,?_⟩
     ·simp only [resolve, hga, Deferred.ofValue, Sem.run_pure]
      simp [Act.eval]
     ·refine Cn (Calls.mono hcall ?_)
      rintro res w3 ⟨v,rfl,r,hr,ρ3,haft,hv⟩
      obtain ⟨q,h3,h4⟩:=(Ks h2).1 r hr
      unfold Cl at h3
      split at h3
      ·rename_i N' env' ps' asg' body' st pend dfr hlook
       obtain ⟨y,hy,hbr3,hget3,_⟩:=Dk haft.2 hlook
       have hyl:=haft.1.le _ _ hl1
       rw [hyl] at hy; injection hy with hy; subst hy
       obtain ⟨rec,hh,hr1,hr2,_⟩:=Fd hbr3
       split at h3
       ·cases h3
       ·rename_i hnb
        split at h3
        ·rename_i S2 hput
         obtain ⟨ev3,sm3⟩:=Nu haft.2 hget3 hyl hh hbr3 hput
         have hend:=run_endLoop (P:=P) hh (by rw [hr1]; intro hc; exact hnb hc)
         have hst:(w3.putObj (w.heap.size + 1) (.loop { rec with state:=.exhausted,pending:=pend }))=w3.putObj (w.heap.size + 1) (.loop { rec with state:=.exhausted }):=by rw [← hr2]
         rw [hst] at ev3 sm3
         have hn2:=My hput
         -- all together
         have fin:∀ q0:XO,q0.S=S2→q0.env=env→q0.ms=S.n :: ms→q0 ∈ outs→Q (toX q0.x) (Ea a) ([{ target:=.collected w.heap.size,args:=#[] }] ++ a.defers) (w3.putObj (w.heap.size + 1) (.loop { rec with state:=.exhausted })):=by
          intro q0 hS hE hM hin
          have hall:Aft cx base ρ S w q0 ρ3 (w3.putObj (w.heap.size + 1) (.loop { rec with state:=.exhausted })):=by
           refine ⟨?_,by rw [hS]; exact sm3⟩
           rw [hS]
           have hfq:=hf q0 hin
           rw [hS] at hfq
           refine (hevo.trans hs.cut haft.1 fun b h5 h6=>hfq b h5 (by omega)).trans hs.cut ev3 hfq
          refine hQ q0 hin ρ3 _ _ _ hall ?_ ?_
          ·rw [hE, ha.eq]
           exact he.mono hall.1.le hall.1.gro
          ·rw [hM]
           exact .cons ⟨(w.heap.size,0),(ev2.le.trans haft.1.le) _ _ hρ1n,rfl⟩ (hm.mono hall.1.le)
         refine ⟨rec.pending,_,hend,?_⟩
         clear hend
         generalize w3.putObj (w.heap.size + 1) (.loop { rec with state:=.exhausted })=w4 at fin ⊢
         rw [hr2]
         split at h3
         ·have hin := Vm h3 h4
          exact ⟨ha.size,fin _ rfl rfl rfl hin⟩
         ·have hin := Vm h3 h4
          exact wpIn_ret ⟨ha.size,fin _ rfl rfl rfl hin⟩
         ·have hin := Vm h3 h4
          exact wpIn_exit ⟨ha.size,fin _ rfl rfl rfl hin⟩
         ·cases h3
        ·cases h3
      ·cases h3
   ·cases h
 ·cases h
theorem ok_lp {n : Nat} (ih : Hyp P tab n) {inr : Bool} {N : Nat} {a : Code} {env : Gv} {ms : List Nat} {outs : List XO} (h : go P tab (n + 1) cx (.lp inr N a env ms) S = some outs) (hs : Sim cx base ρ S w) (hf : Xy ρ S outs) :
  Ml P (n + 1) cx base S outs ρ w (.lp inr N a env ms):=by
 intro hok ro e ds Q hro he hm hQ
 simp only [Xc,goB,goLp] at h
 obtain ⟨l1,h1,h2⟩:=Hg h
 have hpu : ∀ r ∈ l1, ∀ q, (match r.x with
  | .nrm=>go P tab n cx (.lp inr N a r.env r.ms) r.S
  | _=>some [r])=some q→Pu r.S.n q:=fun r _ q hq=>by
  split at hq
  ·exact Ss _ _ _ _ _ hq
  ·simp only [Option.some.injEq] at hq; subst hq; exact Pu.one (Nat.le_refl _)
 have hf1:=hf.fst h2 hpu
 have hp1:=Ss _ _ _ _ _ h1
 refine ih _ _ _ _ h1 base ρ w hs hf1 hok ro e ds (thn (Sb P N ro a Q n) Q) hro he hm fun r hr ρ1 w1 e1 ds1 haft he1 hm1=>?_
 obtain ⟨q,h3,h4⟩:=(Ks h2).1 r hr
 cases hx:r.x with
 | nrm=>
  rw [hx] at h3; simp only at h3
  refine ih _ _ _ _ h3 base ρ1 w1 haft.2 (hf.snd h4 haft.1 (hp1.2 r hr)) hok ro e1 ds1 Q hro he1 hm1 fun q hq ρ2 w2 e2 ds2 haft2 he2 hm2=>?_
  exact hQ q (h4 q hq) ρ2 w2 e2 ds2 (haft.trans hs haft2 (hf q (h4 q hq))) he2 hm2
 | ret=>
  rw [hx] at h3
  have:=hQ r (Vm h3 h4) ρ1 w1 e1 ds1 haft he1 hm1
  rw [hx] at this; exact this
 | exit id=>
  rw [hx] at h3
  have:=hQ r (Vm h3 h4) ρ1 w1 e1 ds1 haft he1 hm1
  rw [hx] at this; exact this
theorem go_ok (hmx:P.follows .mixedOrders=true) (htab:Be P tab):∀ n,Hyp P tab n:=by
 intro n
 induction n with
 | zero=>intro cx tk S outs h; rw [go_z] at h; cases h
 | succ n ih=>
  intro cx tk S outs h base ρ w hs hf
  cases tk with
  | o o env=>exact ok_o htab ih h hs hf
  | l all rest env=>exact ok_l ih h hs hf
  | c inr N c env ms=>exact ok_c hmx htab ih h hs hf
  | f f args=>exact ok_f htab ih h hs hf
  | r l args=>exact ok_r ih h hs hf
  | lp inr N a env ms=>exact ok_lp ih h hs hf
end
end
end Go.Proofs.Ytplaipkjhlkjgaa
/- A machine of plain data: a call without arguments that answers true. No program is named here. -/
namespace Go.Proofs.Ytplaipkjhlkjgaa
noncomputable section
open Go.RowKit
def fi (fn:Func):FI:=⟨fn,fn.body.getD .skip⟩
def tabL : List (Nat × FI) → Tab
 | []=>Mp.nil
 | p :: l=>Mp.set (tabL l) p.1 (some p.2)
section
variable {P:Program}
theorem tok_nil:Be P (tabL []):=fun f i h=>by unfold tabL at h; rw [Mp.get_nil] at h; cases h
theorem Kr {k:Nat} {fn:Func} {l:List (Nat × FI)} (he:Enters P k) (hf:P.funcs[k]?=some fn) (hb:fn.body=some (fi fn).c) (hc:okC fn.ntmps (fi fn).c=true) (h:Be P (tabL l)):Be P (tabL ((k,fi fn) :: l)):=fun f i hi=>by
 unfold tabL at hi
 rw [Mp.get_set] at hi
 by_cases hk:f=k
 ·subst hk
  rw [if_pos rfl] at hi
  injection hi with hi; subst hi
  exact ⟨he,hf,hb,hc⟩
 ·rw [if_neg hk] at hi; exact h f i hi
def cx0:Cx:=⟨fun _=>true,fun _=>true,0⟩
def S0:St:=⟨0,Mp.nil,[]⟩
def isTrue (v : AV) : Bool := match v with
 | .v false [.k (.bool b)]=>b
 | _=>false
def allT (x : Option (List XO)) : Bool := match x with
 | some l=>l.all fun r=>isTrue r.v
 | none=>false
theorem fn_closed (hmx:P.follows .mixedOrders=true) {tab:Tab} (htab:Be P tab) {n:Nat} {f:FuncId} {g:Gh} {w:World} (h:allT (go P tab n cx0 (.f f []) S0)=true):Fn P f #[] g w (fun _ _ v=>v=.bool true):=by
 unfold allT at h
 split at h
 ·rename_i outs ho
  have hs:Sim cx0 w.heap.size (fun _=>none) S0 w:=by
   refine ⟨fun b B _ hb=>?_,fun b b' y y' _ _ _ _ h1=>?_,fun b y h1=>?_,Nat.le_refl _,fun b hb=>absurd (Mp.get_nil b) hb,Nat.le_refl _⟩
   ·rw [show S0.get b=none from Mp.get_nil b] at hb; cases hb
   ·cases h1
   ·cases h1
  have hcl:=go_ok hmx htab n cx0 _ S0 outs ho w.heap.size (fun _=>none) w hs (fun _ _ _ _ _=>rfl) [] .nil
  refine Calls.mono hcl ?_
  rintro res w' ⟨v,rfl,r,hr,ρ',⟨ev,sm⟩,hv⟩
  refine ⟨v,rfl,g,⟨⟨ev.gro.os,ev.gro.tape,ev.gro.output,ev.gro.size,fun x hx=>?_⟩,fun _ _=>rfl,fun _ _=>rfl⟩,?_⟩
  ·rcases ev.frame x hx with h1 | ⟨b, y, h1, h2, _⟩
   ·exact h1
   ·have:=(sm.rng b y h1).1; omega
  ·rw [List.all_eq_true] at h
   have ht:=h r hr
   unfold isTrue at ht
   split at ht
   ·rename_i b hb
    subst ht
    rw [hb] at hv
    exact (V1.one hv).1
   ·cases ht
 ·cases h
end
end
end Go.Proofs.Ytplaipkjhlkjgaa
/- A machine of plain data: a long run in parts. No program is named here. -/
namespace Go.Proofs.Ytplaipkjhlkjgaa
noncomputable section
open Go.RowKit
section
variable {P:Program} {tab:Tab} {cx:Cx} {S:St} {outs:List XO}
theorem Xy.one {ρ:Rn} {r:XO} (hf:Xy ρ S outs) (hp:Pu r.S.n outs):Xy ρ S [r]:=fun q hq b h3 h4=>by
 rw [List.mem_singleton.1 hq] at h4
 obtain ⟨q0,hq0⟩:=List.exists_mem_of_ne_nil _ hp.1
 exact hf q0 hq0 b h3 (Nat.lt_of_lt_of_le h4 (hp.2 q0 hq0))
theorem Pu.le {m k:Nat} (h:m ≤ k) (hp:Pu k outs):Pu m outs:=⟨hp.1,fun r hr=>Nat.le_trans h (hp.2 r hr)⟩
def Iz (l:List Nat) (S:St):St:={ n:=S.n,h:=l.foldl (fun h b=>Mp.set h b (S.get b)) Mp.nil,log:=S.log }
theorem Pm {l:List Nat} {b:Nat} {B:Blk} (h:(Iz l S).get b=some B):S.get b=some B:=by
 have key:∀ (l:List Nat) (m:Mp Blk),(∀ b B,m.get b=some B→S.get b=some B)→∀ b B,(l.foldl (fun h b=>Mp.set h b (S.get b)) m).get b=some B→S.get b=some B:=by
  intro l
  induction l with
  | nil=>intro m hm b B hb; exact hm b B hb
  | cons c l ih=>
   intro m hm b B hb
   refine ih _ (fun b B hb=>?_) b B hb
   rw [Mp.get_set] at hb
   by_cases hc:b=c
   ·subst hc; rw [if_pos rfl] at hb; exact hb
   ·rw [if_neg hc] at hb; exact hm b B hb
 exact key l Mp.nil (fun b B hb=>by rw [Mp.get_nil] at hb; cases hb) b B h
theorem Og {l:List Nat} {b:Nat} (h:(Iz l S).get b ≠ none):S.get b ≠ none:=by
 cases hb:(Iz l S).get b with
 | none=>exact absurd hb h
 | some B=>rw [Pm hb]; simp
theorem keepS_no {l:List Nat} {b:Nat} (h:S.get b=none):(Iz l S).get b=none:=by
 cases hb:(Iz l S).get b with
 | none=>rfl
 | some B=>rw [Pm hb] at h; cases h
theorem Aft.keep (hc:cx.cut=0) {l:List Nat} {base:Nat} {ρ ρ':Rn} {w w':World} {r:XO} (h:Aft cx base ρ S w r ρ' w'):Aft cx base ρ S w { r with S:=Iz l r.S } ρ' w':=by
 obtain ⟨ev,sm⟩:=h
 refine ⟨⟨ev.n,ev.log,ev.wr,fun b hb _=>absurd hb (by omega),fun b hb hd=>keepS_no (ev.dead b hb hd),ev.le,ev.dom,ev.gro,ev.frame,fun b y h1 h2=>?_⟩,⟨fun b B hv hb=>sm.blk b B hv (Pm hb),fun b b' y y' hv hv' hb hb'=>sm.inj b b' y y' hv hv' (Og hb) (Og hb'),sm.rng,sm.base,fun b hb=>sm.bnd b (Og hb),sm.cut⟩⟩
 rcases ev.fresh b y h1 h2 with h3 | ⟨c,z,h3,h4,h5,h6⟩
 ·exact .inl h3
 ·exact .inr ⟨c,z,h3,h4,keepS_no h5,h6⟩
end
end
end Go.Proofs.Ytplaipkjhlkjgaa
