/- A machine of plain data: what it says of code, calls and Sb is so. No program is named here. -/
import Derived.Test.YtplaipkjhlkjgaaRm
namespace Go.Proofs.Ytplaipkjhlkjgaa
noncomputable section
open Go.RowKit
section
variable {α:Type} {f:α→Option (List XO)}
theorem Ks : ∀ {l : List α} {outs : List XO}, Ca f l = some outs → (∀ o ∈ l, ∃ a, f o = some a ∧ ∀ r ∈ a, r ∈ outs) ∧ ∀ r ∈ outs, ∃ o ∈ l, ∃ a, f o = some a ∧ r ∈ a
 | [],outs,h=>by simp only [Ca,Option.some.injEq] at h; subst h; exact ⟨fun _ h=>(by cases h),fun _ h=>(by cases h)⟩
 | o :: l,outs,h=>by
  unfold Ca at h
  split at h
  ·rename_i a b h1 h2
   simp only [Option.some.injEq] at h; subst h
   obtain ⟨ih1,ih2⟩:=Ks h2
   refine ⟨fun o' ho'=>?_,fun r hr=>?_⟩
   ·rcases List.mem_cons.1 ho' with rfl | ho'
    ·exact ⟨a,h1,fun r hr=>List.mem_append_left _ hr⟩
    ·obtain ⟨c,h3,h4⟩:=ih1 o' ho'; exact ⟨c,h3,fun r hr=>List.mem_append_right _ (h4 r hr)⟩
   ·rcases List.mem_append.1 hr with hr | hr
    ·exact ⟨o,by simp,a,h1,hr⟩
    ·obtain ⟨o',h3,c,h4,h5⟩:=ih2 r hr; exact ⟨o',by simp [h3],c,h4,h5⟩
  ·cases h
end
theorem Hg {x:Option (List XO)} {f:XO→Option (List XO)} {outs:List XO} (h:Xh x f=some outs):∃ l,x=some l∧Ca f l=some outs:=by
 cases x with
 | none=>cases h
 | some l=>exact ⟨l,rfl,by rw [← Dt]; exact h⟩
def Pu (m:Nat) (outs:List XO):Prop:=outs ≠ []∧∀ r ∈ outs,m ≤ r.S.n
theorem pu_cat {α:Type} {f:α→Option (List XO)} {l:List α} {outs:List XO} {m:Nat} (h:Ca f l=some outs) (hl:l ≠ []) (hf:∀ o ∈ l,∀ a,f o=some a→Pu m a):Pu m outs:=by
 obtain ⟨h1,h2⟩:=Ks h
 refine ⟨fun he=>?_,fun r hr=>?_⟩
 ·cases l with
  | nil=>exact hl rfl
  | cons o l=>
   obtain ⟨a,h3,h4⟩:=h1 o (by simp)
   cases a with
   | nil=>exact (hf o (by simp) _ h3).1 rfl
   | cons x xs=>have:=h4 x (by simp); rw [he] at this; cases this
 ·obtain ⟨o,h3,a,h4,h5⟩:=h2 r hr; exact (hf o h3 a h4).2 r h5
theorem Pu.one {m:Nat} {r:XO} (h:m ≤ r.S.n):Pu m [r]:=⟨by simp,fun q hq=>by rw [List.mem_singleton.1 hq]; exact h⟩
theorem Uc {x:Option (List XO)} {f:XO→Option (List XO)} {outs:List XO} {m:Nat} (h:Xh x f=some outs) (hx:∀ l,x=some l→Pu m l) (hf:∀ r a,m ≤ r.S.n→f r=some a→Pu r.S.n a):Pu m outs:=by
 obtain ⟨l,h1,h2⟩:=Hg h
 have hl:=hx l h1
 refine pu_cat h2 hl.1 fun o ho a ha=>?_
 have:=hf o a (hl.2 o ho) ha
 exact ⟨this.1,fun r hr=>Nat.le_trans (hl.2 o ho) (this.2 r hr)⟩
section
variable {P:Program} {tab:Tab} {cx:Cx} {S S':St}
theorem My {b:Nat} {B:Option Blk} (h:S.put cx b B=some S'):S'.n=S.n:=(Dh h).2.1
theorem Lh : ∀ {ms : List Nat} {S S' : St}, Jg cx S ms = some S' → S'.n = S.n
 | [],S,S',h=>by simp only [Jg,Option.some.injEq] at h; subst h; rfl
 | d :: ms,S,S',h=>by
  simp only [Jg] at h
  split at h
  ·split at h
   ·rename_i S1 h1; rw [Lh h,My h1]
   ·cases h
  ·cases h
theorem endLp_pu {l:Nat} {env:Gv} {ms:List Nat} {a:List XO} (h:Cl cx l env ms S=some a):Pu S.n a:=by
 unfold Cl at h
 split at h
 ·split at h
  ·cases h
  ·split at h
   ·rename_i S2 h2
    have:=My h2
    split at h <;> first
     | (cases h; done)
     | (simp only [Option.some.injEq] at h; subst h; exact Pu.one (Nat.le_of_eq this.symm))
   ·cases h
 ·cases h
theorem Ox {l:Nat} {x:AX} {a:List XO} (h:Ld cx l x S=some a):Pu S.n a:=by
 unfold Ld at h
 split at h
 ·split at h
  ·rename_i S2 h2
   simp only [Option.some.injEq] at h; subst h
   exact Pu.one (Nat.le_of_eq (My h2).symm)
  ·cases h
 ·cases h
theorem Nl {l:Nat} (h:Bq cx l S=some S'):S'.n=S.n:=by
 unfold Bq at h
 split at h
 ·exact My h
 ·cases h
theorem drw_n {run : Cx → Oper → Gv → St → Option (List XO)} {all : List Oper} {ms : List Nat} (hrun : ∀ cxk o env S q, run cxk o env S = some [q] → S.n ≤ q.S.n) : ∀ {l : List Oper} {rs : List Rc} {env : Gv} {S : St} {p : Gv × St}, drw run cx all ms l rs env S = some p → S.n ≤ p.2.n
 | [],rs,env,S,p,h=>by simp only [drw,Option.some.injEq] at h; subst h; exact Nat.le_refl _
 | o :: l,rs,env,S,p,h=>by
  simp only [drw] at h
  split at h
  ·split at h
   ·rename_i q hq
    have h1:=hrun _ _ _ _ _ hq
    have h2:=drw_n hrun h
    exact Nat.le_trans h1 h2
   ·cases h
  ·exact drw_n hrun h
  ·cases h
theorem Ss:∀ (n:Nat) (cx:Cx) (tk:Tk) (S:St) (outs:List XO),go P tab n cx tk S=some outs→Pu S.n outs:=by
 intro n
 induction n with
 | zero=>intro cx tk S outs h; rw [go_z] at h; cases h
 | succ n ih=>
  intro cx tk S outs h
  cases tk with
  | o o env=>
   simp only [Xc,goB,goO,Dt] at h
   split at h
   ·refine pu_cat h (by simp) fun r _ a ha => ?_
    cases r with
    | v x S'=>
     simp only [goA] at ha
     cases hb:Nat.ble S.n S'.n with
     | false=>rw [hb] at ha; cases ha
     | true=>
      rw [hb] at ha; simp only [cond_true,Option.some.injEq] at ha; subst ha
      exact Pu.one (Nat.le_of_ble_eq_true hb)
    | call f args=>exact ih _ _ _ _ ha
    | rnd l args=>exact ih _ _ _ _ ha
   ·cases h
  | l all rest env=>
   cases rest with
   | nil=>simp only [Xc,goB,goL,Option.some.injEq] at h; subst h; exact Pu.one (Nat.le_refl _)
   | cons o rest=>
    simp only [Xc,goB,goL,goL1,Ut,Jz,Np] at h
    split at h
    ·exact Uc h (fun l hl=>ih _ _ _ _ hl) fun r a _ ha=>ih _ _ _ _ ha
    ·exact ih _ _ _ _ h
    ·cases h
  | c inr N c env ms=>
   simp only [Xc,goB,goC,gSeq,gCond,gReg,gRng] at h
   split at h
   ·simp only [Option.some.injEq] at h; subst h; exact Pu.one (Nat.le_refl _)
   ·simp only [Option.some.injEq] at h; subst h; exact Pu.one (Nat.le_refl _)
   ·simp only [Option.some.injEq] at h; subst h; exact Pu.one (Nat.le_refl _)
   ·refine Uc h (fun l hl => ih _ _ _ _ hl) fun r a _ ha => ?_
    split at ha
    ·exact ih _ _ _ _ ha
    ·simp only [Option.some.injEq] at ha; subst ha; exact Pu.one (Nat.le_refl _)
   ·split at h
    ·exact ih _ _ _ _ h
    ·cases h
   ·refine Uc h (fun l hl => ih _ _ _ _ hl) fun r a _ ha => ?_
    simp only [Option.some.injEq] at ha; subst ha; exact Pu.one (Nat.le_refl _)
   ·exact ih _ _ _ _ h
   ·rename_i draw
    cases draw with
    | true=>
     simp only [cond_true] at h
     unfold drwX at h
     split at h
     ·rename_i p hp
      simp only [Option.some.injEq] at h; subst h
      exact Pu.one (drw_n (fun cxk o env S q hq=>(ih _ _ _ _ hq).2 q (by simp)) hp)
     ·cases h
    | false=>
     simp only [cond_false] at h
     refine Uc h (fun l hl=>ih _ _ _ _ hl) fun r a _ ha=>?_
     simp only [Option.some.injEq] at ha; subst ha; exact Pu.one (Nat.le_refl _)
   ·cases inr with
    | true=>simp at h
    | false=>
     simp only [cond_false] at h
     split at h
     ·rename_i g caps _
      cases hg:(tab.get g).isSome with
      | false=>rw [hg] at h; cases h
      | true=>
       rw [hg] at h; simp only [cond_true] at h
       refine Uc (m:=S.n) h (fun l hl=>?_) fun r a _ ha=>endLp_pu ha
       have:=ih _ _ _ _ hl
       exact ⟨this.1,fun r hr=>Nat.le_trans (by show S.n ≤ S.n + 1 + 1; omega) (this.2 r hr)⟩
     ·cases h
   ·cases h
  | lp inr N a env ms=>
   simp only [Xc,goB,goLp] at h
   refine Uc h (fun l hl=>ih _ _ _ _ hl) fun r a _ ha=>?_
   split at ha
   ·exact ih _ _ _ _ ha
   ·simp only [Option.some.injEq] at ha; subst ha; exact Pu.one (Nat.le_refl _)
  | f f args=>
   simp only [Xc,goB,goF] at h
   split at h
   ·rename_i i _
    cases hb:Nat.ble args.length i.fn.ntmps with
    | false=>rw [hb] at h; cases h
    | true=>
     rw [hb] at h; simp only [cond_true] at h
     refine Uc h (fun l hl=>ih _ _ _ _ hl) fun r a _ ha=>?_
     split at ha
     ·cases ha
     ·split at ha
      ·rename_i S2 h2
       split at ha
       ·simp only [Option.some.injEq] at ha; subst ha; exact Pu.one (Nat.le_of_eq (Lh h2).symm)
       ·cases ha
      ·cases ha
   ·cases h
  | r l args=>
   simp only [Xc,goB,goR] at h
   split at h
   ·rename_i N env ps asg body st pend d _
    cases hb:Nat.beq args.length ps.length with
    | false=>rw [hb] at h; cases h
    | true=>
     rw [hb] at h; simp only [cond_true] at h
     refine Uc h (fun l hl=>ih _ _ _ _ hl) fun r a _ ha=>?_
     split at ha
     ·split at ha
      ·rename_i S1 h1
       have:=Nl h1
       rw [← this]
       exact Uc ha (fun l hl=>ih _ _ _ _ hl) fun q b _ hb=>Ox hb
      ·cases ha
     ·cases ha
   ·cases h
end

/-! ### What is claimed -/
def toX : AX → Exit
 | .nrm=>.normal
 | .ret=>.ret
 | .exit id=>.exit id
def MkR (ρ:Rn) (ms:List Nat) (ds:List Deferred):Prop:=All2 (fun d (dd:Deferred)=>∃ y,ρ d=some y∧dd={ target:=.collected y.1,args:=#[] }) ms ds
theorem MkR.mono {ρ ρ':Rn} {ms:List Nat} {ds:List Deferred} (hr:Jf ρ ρ') (h:MkR ρ ms ds):MkR ρ' ms ds:=All2.mono (fun _ _ ⟨y,h1,h2⟩=>⟨y,hr _ _ h1,h2⟩) h
def Aft (cx:Cx) (base:Nat) (ρ:Rn) (S:St) (w:World) (r:XO) (ρ':Rn) (w':World):Prop:=Evo cx ρ S w ρ' r.S w'∧Sim cx base ρ' r.S w'
def Xy (ρ:Rn) (S:St) (outs:List XO):Prop:=∀ r ∈ outs,∀ b,S.n ≤ b→b < r.S.n→ρ b=none
def CallR (cx:Cx) (base:Nat) (ρ:Rn) (S:St) (w:World) (outs:List XO) (res:Ending) (w':World):Prop:=∃ v,res=.returned v∧∃ r ∈ outs,∃ ρ',Aft cx base ρ S w r ρ' w'∧VR ρ' w' r.v v
def Ml (P : Program) (n : Nat) (cx : Cx) (base : Nat) (S : St) (outs : List XO) (ρ : Rn) (w : World) : Tk → Prop
 | .c inr N c env ms => okC N c = true → ∀ ro e ds (Q : Jp), (inr = false → ro = none) → Xb ρ w env e → MkR ρ ms ds →
   (∀ r ∈ outs,∀ ρ' w' e' ds',Aft cx base ρ S w r ρ' w'→Xb ρ' w' r.env e'→MkR ρ' r.ms ds'→Q (toX r.x) e' ds' w')→E P N ro c Q e ds w
 | .lp inr N a env ms => okC N a = true → ∀ ro e ds (Q : Jp), (inr = false → ro = none) → Xb ρ w env e → MkR ρ ms ds →
   (∀ r ∈ outs,∀ ρ' w' e' ds',Aft cx base ρ S w r ρ' w'→Xb ρ' w' r.env e'→MkR ρ' r.ms ds'→Q (toX r.x) e' ds' w')→Sb P N ro a Q n e ds w
 | .l all rest env => ∀ N ro e ds (Q : Jp), rest.all (fun o => okO N o.dst && Xd o.op) = true → Xb ρ w env e →
   (∀ r ∈ outs,∀ ρ' w' e',Aft cx base ρ S w r ρ' w'→Xb ρ' w' r.env e'→Q .normal e' ds w')→EL P N ro all.toArray rest Q e ds w
 | .o o env=>∀ e (K:Value→World→Prop),Hb ρ w env e o.op.operands.toList→(∀ r ∈ outs,∀ ρ' w' v,Aft cx base ρ S w r ρ' w'→VR ρ' w' r.v v→K v w')→doE P o e w K
 | .f f args=>∀ vs:List Value,All2 (VR ρ w) args vs→Calls P f vs.toArray w (CallR cx base ρ S w outs)
 | .r l args=>∀ (y:Nat × Nat) (vs:List Value),ρ l=some y→All2 (VR ρ w) args vs→∃ fn tmps asg body,(Instr.yield y.1 vs.toArray).run P w=.ok (.round y.1 fn tmps asg body) w∧RoundIn Fence.wide 0 P y.1 fn tmps asg body w (CallR cx base ρ S w outs)
section
variable {P:Program} {tab:Tab} {cx:Cx} {base:Nat} {ρ ρ':Rn} {S:St} {w w':World}
theorem Xb.mono {ρ ρ':Rn} {w w':World} {env:Gv} {e:Env} (hr:Jf ρ ρ') (hg:Gro w w') (h:Xb ρ w env e):Xb ρ' w' env e:=fun t=>VR.mono hr hg (h t)
theorem Xb.set {env:Gv} {e:Env} {t:Nat} {a:AV} {v:Value} (h:Xb ρ w env e) (hv:VR ρ w a v):Xb ρ w (Mp.set env t (some a)) (upd e t v):=fun u=>by
 unfold Gv.at
 rw [Mp.get_set]
 by_cases hu:u=t
 ·subst hu; rw [if_pos rfl,Uq]; exact hv
 ·rw [if_neg hu,Yy _ _ hu]; exact h u
theorem Xb.put {env:Gv} {e:Env} {d:Option Nat} {a:AV} {v:Value} (h:Xb ρ w env e) (hv:VR ρ w a v):Xb ρ w (Ih env d a) (Qi e d v):=by
 cases d with
 | none=>exact h
 | some d=>exact h.set hv
theorem want_ok {ops:List Oper} {env:Gv} {e:Env} {o:Oper} {b:Bool} (h:Xs ops env o=some b) (he:Xb ρ w env e):Wants ops.toArray e o.guard b:=by
 unfold Xs at h
 split at h
 ·rename_i hg; simp only [Option.some.injEq] at h; subst h; rw [hg]; exact .plain
 ·rename_i j b0 hg
  rw [hg]
  split at h
  ·cases h
  ·rename_i d hd
   have hd':(ops.toArray[j]?).bind (·.dst)=some d:=by rw [List.getElem?_toArray]; exact hd
   have hv:=he d
   split at h
   ·rename_i b' hb'
    rw [hb'] at hv
    have hv':=(V1.one hv).1
    simp only [Option.some.injEq] at h
    cases b with
    | true=>
     have:b'=b0:=by simpa using h
     subst this; exact .yes hd' hv'
    | false=>exact .no hd' hv' h
   ·rename_i hb'
    rw [hb'] at hv
    simp only [Option.some.injEq] at h; subst h
    exact .off hd' hv
   ·cases h
theorem Xy.fst {l outs:List XO} {f:XO→Option (List XO)} (hf:Xy ρ S outs) (hc:Ca f l=some outs) (hp:∀ r ∈ l,∀ a,f r=some a→Pu r.S.n a):Xy ρ S l:=fun r hr b h1 h2=>by
 obtain ⟨a,h3,h4⟩:=(Ks hc).1 r hr
 have:=hp r hr a h3
 cases ha:a with
 | nil=>exact absurd ha this.1
 | cons q qs=>
  have hq:q ∈ a:=by rw [ha]; simp
  exact hf q (h4 q hq) b h1 (Nat.lt_of_lt_of_le h2 (this.2 q hq))
theorem Xy.snd {outs a:List XO} {r:XO} (hf:Xy ρ S outs) (hsub:∀ q ∈ a,q ∈ outs) (ev:Evo cx ρ S w ρ' r.S w') (hn:S.n ≤ r.S.n):Xy ρ' r.S a:=fun q hq b h1 h2=>by
 have h0:=hf q (hsub q hq) b (Nat.le_trans hn h1) h2
 cases h3:ρ' b with
 | none=>rfl
 | some y=>have:=ev.dom b h0 (by rw [h3]; simp); omega
theorem Aft.trans {r q:XO} {ρ'':Rn} {w'':World} (hs:Sim cx base ρ S w) (h:Aft cx base ρ S w r ρ' w') (k:Aft cx base ρ' r.S w' q ρ'' w'') (hf:∀ b,S.n ≤ b→b < q.S.n→ρ b=none):Aft cx base ρ S w q ρ'' w'':=
 ⟨h.1.trans hs.cut k.1 hf,k.2⟩
end
end
end Go.Proofs.Ytplaipkjhlkjgaa
