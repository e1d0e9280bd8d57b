/- The machine made for the kernel says what the machine of plain data says. No program is named here. -/
import Derived.Test.YtplaipkjhlkjgaaFa
import Derived.Test.YtplaipkjhlkjgaaProg
namespace Go.Proofs.Ytplaipkjhlkjgaa
noncomputable section
open Go.RowKit

def Hk (d:Bool) (x:Option (List XO)) (p:XO→Prop):Prop:=∃ outs,x=some outs∧(d=true→∃ q,outs=[q])∧∀ r ∈ outs,p r
section
variable {d:Bool} {x:Option (List XO)} {p q:XO→Prop}
theorem Hk.one {r:XO} (h:p r):Hk d (some [r]) p:=⟨[r],rfl,fun _=>⟨r,rfl⟩,fun s hs=>by rw [List.mem_singleton.1 hs]; exact h⟩
theorem Hk.mono (h:Hk d x p) (hp:∀ r,p r→q r):Hk d x q:=let ⟨o,h1,h2,h3⟩:=h; ⟨o,h1,h2,fun r hr=>hp r (h3 r hr)⟩
theorem Nf {α : Type} {f : α → Option (List XO)} : ∀ {l : List α}, (∀ r ∈ l, ∃ o, f r = some o ∧ ∀ s ∈ o, q s) → ∃ o, Ca f l = some o ∧ ∀ s ∈ o, q s
 | [],_=>⟨[],rfl,fun _ h=>by cases h⟩
 | r :: l,h=>by
  obtain ⟨o1,h1,h2⟩:=h r (by simp)
  obtain ⟨o2,h3,h4⟩:=Nf (l:=l) fun r hr=>h r (by simp [hr])
  refine ⟨o1 ++ o2,by simp only [Ca,h1,h3],fun s hs=>?_⟩
  rcases List.mem_append.1 hs with hs | hs
  ·exact h2 s hs
  ·exact h4 s hs
theorem Hk.bind {f:XO→Option (List XO)} (h:Hk d x p) (hf:∀ r,p r→Hk d (f r) q):Hk d (Xh x f) q:=by
 obtain ⟨o,rfl,h2,h3⟩:=h
 show Hk d (catA f o) q
 rw [Dt]
 cases d with
 | true=>
  obtain ⟨r,rfl⟩:=h2 rfl
  obtain ⟨o1,h4,h5,h6⟩:=hf r (h3 r (by simp))
  refine ⟨o1,by simp [Ca,h4],h5,h6⟩
 | false=>
  obtain ⟨o1,h4,h5⟩:=Nf (q:=q) (l:=o) fun r hr=>by
   obtain ⟨o1,h4,_,h6⟩:=hf r (h3 r hr)
   exact ⟨o1,h4,h6⟩
  exact ⟨o1,h4,(fun h=>by cases h),h5⟩
end
def IsA (k:KA) (r:XO):Prop:=r=xo1 r.S r.v∧k r.v r.S=true
structure FOk (R : FR) (g : Run) : Prop where
 o:∀ {d cx o env S k},R.o d cx o env S k=true→Hk d (g cx (.o o env) S) (IsA k)
 l:∀ {d cx all rest env S k},R.l d cx all rest env S k=true→Hk d (g cx (.l all rest env) S) fun r=>k r.env r.S=true
 c:∀ {d cx inr N c env ms S k},R.c d cx inr N c env ms S k=true→Hk d (g cx (.c inr N c env ms) S) fun r=>k r.x r.env r.ms r.S=true
 f:∀ {d cx f args S k},R.f d cx f args S k=true→Hk d (g cx (.f f args) S) (IsA k)
 r:∀ {d cx l args S k},R.r d cx l args S k=true→Hk d (g cx (.r l args) S) (IsA k)
 lp:∀ {d cx inr N a env ms S k},R.lp d cx inr N a env ms S k=true→Hk d (g cx (.lp inr N a env ms) S) fun r=>k r.x r.env r.ms r.S=true
section
variable {P:Program} {tab:Tab} {R:FR} {g:Run} {d:Bool} {cx:Cx} {S:St} {env:Gv}
theorem Fc {a b:Bool} (h:(bif a then b else false)=true):a=true∧b=true:=by cases a <;> simp_all
theorem recB_t {a b:Bool} (h:Bool.rec (motive:=fun _=>Bool) false b a=true):a=true∧b=true:=by cases a <;> simp_all
theorem kAR_ok (hR:FOk R g) {k:KA} {r:AR} (h:kAR R d cx S k r=true):Hk d (goA g cx S r) (IsA k):=by
 cases r with
 | v v S'=>
  simp only [kAR,Jz] at h
  obtain ⟨h1,h2⟩:=Fc h
  rw [Ut] at h2
  simp only [goA,h1,cond_true]
  exact Hk.one ⟨rfl,h2⟩
 | call f args=>exact hR.f h
 | rnd l args=>exact hR.r h
theorem kAll_mem {k : KA} : ∀ {l : List AR}, kAll R d cx S k l = true → ∀ r ∈ l, kAR R d cx S k r = true
 | [],_,_,hr=>by cases hr
 | a :: l,h,r,hr=>by
  simp only [kAll,Bool.and_eq_true] at h
  rcases List.mem_cons.1 hr with rfl | hr
  ·exact h.1
  ·exact kAll_mem h.2 r hr
theorem kARs_ok (hR:FOk R g) {k:KA} {x:Option (List AR)} (h:Lj R d cx S k x=true):Hk d (goO g cx S x) (IsA k):=by
 unfold Lj at h
 split at h
 ·rename_i r
  simp only [goO,Dt]
  obtain ⟨o,h1,h2,h3⟩:=kAR_ok hR h
  exact ⟨o,by simp [Ca,h1],h2,h3⟩
 ·rename_i r rs _
  cases d with
  | true=>cases h
  | false=>
   simp only [cond_false] at h
   obtain ⟨o,h1,h2⟩:=Nf (q:=IsA k) (f:=goA g cx S) (l:=r :: rs) fun a ha=>by
    obtain ⟨o,h3,_,h5⟩:=kAR_ok hR (kAll_mem h a ha)
    exact ⟨o,h3,h5⟩
   exact ⟨o,by simp only [goO,Dt,h1],(fun h=>by cases h),h2⟩
 ·cases h
theorem Uo {k:KA} {a:Option AV} (h:kA S k a=true):Lj R d cx S k (r1 S a)=true:=by
 cases a with
 | none=>cases h
 | some v=>
  have h':(fAV v fun v=>k v S)=true:=h
  rw [Ut] at h'
  simp only [r1,Option.map_some,Lj,kAR,Jz,Ut]
  rw [show Nat.ble S.n S.n=true from Nat.ble_eq_true_of_le (Nat.le_refl _)]
  exact h'
theorem kL_ok {k:KA} {a:Option AV} (h:kL S k a=true):Lj R d cx S k (r1 S a)=true:=by
 cases a with
 | none=>cases h
 | some v=>
  have h':(sAV v fun v=>k v S)=true:=h
  rw [sAV_eq] at h'
  exact Uo (by show (fAV v fun v=>k v S)=true; rw [Ut]; exact h')
theorem Ro {k:KA} {a:Option (AV × St)} (h:kB S k a=true):Lj R d cx S k (r2 a)=true:=by
 cases a with
 | none=>cases h
 | some p=>
  obtain ⟨v,S'⟩:=p
  have h':(fSt S' fun S'=>Bool.rec (motive:=fun _=>Bool) false (fAV v fun v=>k v S') (Nat.ble S.n S'.n))=true:=h
  rw [Jz] at h'
  obtain ⟨h1,h2⟩:=recB_t h'
  simp only [r2,Option.map_some,Lj,kAR,Jz,h1,cond_true]
  exact h2
theorem kS_ok {k:KA} {a:Option St} (h:kS S k a=true):Lj R d cx S k (r3 a)=true:=by
 cases a with
 | none=>cases h
 | some S'=>
  have h':(fSt S' fun S'=>Bool.rec (motive:=fun _=>Bool) false (k .u S') (Nat.ble S.n S'.n))=true:=h
  rw [Jz] at h'
  obtain ⟨h1,h2⟩:=recB_t h'
  simp only [r3,Option.map_some,Lj,kAR,Jz,h1,cond_true,Ut]
  exact h2
theorem Ay {x:Operand} {v:Value} (h:aop env x=some (.v false [.k v])):Ub env x=some v:=by
 cases x with
 | tmp t=>simp only [aop,Option.some.injEq] at h; simp [Ub,h,Pj,Jy,toV]
 | const u=>
  simp only [Ub,aop] at h ⊢
  have ho:=ofV_ok (ρ:=fun _=>none) (w:=default) h
  obtain ⟨vs,h1,h2,_⟩:=ho
  cases h2 with
  | cons h3 h4=>cases h4; rw [h3.1] at h1; simpa [toV] using h1
 | func f=>simp [aop] at h
 | global g=>cases h
theorem fop_ok {op:BinOp} {m n:Int} {k:AV→Bool} {s:Bool} (h:(fop op).run m n k s=true):s=true ∨ ∃ v,iop op m n=some v∧k (.v false [.k v])=true:=by
  have nb:∀ b:Bool,Bool.rec (motive:=fun _=>Bool) true false b=!b:=fun b=>by cases b <;> rfl
  cases op <;> first
    | exact .inl h
    | (simp only [fop, addI_eq, negI_eq, mulI_eq] at h
       rcases in64_ok h with h | ⟨h1,h2⟩
       · exact .inl h
       · refine .inr ⟨_, rfl, ?_⟩
         first
           | (rw [h1]; exact h2)
           | (rw [Int.sub_eq_add_neg,h1]; exact h2))
    | (simp only [fop, Bh, leI_eq, eqI_eq, nb] at h
       refine .inr ⟨_,rfl,?_⟩
       first
         | exact h
         | (have e : ∀ a b : Int, (!decide (a ≤ b)) = decide (b < a) := fun a b => by by_cases hh : a ≤ b <;> simp [hh] <;> omega
            rw [e] at h; exact h)
         | (simpa [bne] using h))
theorem binF_ok {op:BinOp} {x y:Operand} {a b:AV} {k:AV→Bool} {s:Bool} (hx:aop env x=some a) (hy:aop env y=some b) (h:binF (fop op) a b k s=true):s=true ∨ ∃ v,aInt env op x y=some v∧k v=true:=by
 unfold binF at h
 rcases a64_ok h with h3 | ⟨m,ha,h3⟩
 ·exact .inl h3
 rcases a64_ok h3 with h4 | ⟨n,hb,h4⟩
 ·exact .inl h4
 subst ha; subst hb
 rcases fop_ok h4 with h5 | ⟨v,h1,h2⟩
 ·exact .inl h5
 refine .inr ⟨_,?_,h2⟩
 unfold aInt
 rw [Ay hx,Ay hy]
 simp [h1]
theorem kv_ok {k:KA} {a:AV} (h:k a S=true):Lj R d cx S k (r1 S (some a))=true:=Uo (by show (fAV a fun v=>k v S)=true; rw [Ut]; exact h)
theorem cwl_ok {o:Oper} {c:Call} {k:KA} (h:(cwl P tab o c).run R d cx env S k=true):Lj R d cx S k (El P tab cx S env o c)=true:=by
 unfold cwl at h
 unfold El
 split at h <;> rename_i hc
 ·rename_i f
  simp only [hc]
  obtain ⟨a,h1,h2⟩:=Ba h
  rcases aFun_ok h2 with ⟨fn,l,rfl,h3⟩ | ⟨l,rfl,h3⟩
  ·obtain ⟨h4, h5⟩ := Fc h3
   obtain ⟨ys,h6,h7⟩:=pws_ok h5
   simp only [h1,h6,h4,cond_true]
   exact h7
  ·obtain ⟨ys, h6, h7⟩ := pws_ok h3
   simp only [h1,h6]
   exact h7
 ·simp only [hc]
  split at h
  ·rename_i x y t t' ha ht
   cases hb:Nat.beq t t' with
   | true=>rw [hb] at h; simp only [ha,ht,hb,cond_true]; exact Ro h
   | false=>rw [hb] at h; simp only [ha,ht,hb,cond_false]; exact Ro h
  ·cases h
 ·simp only [hc]
  split at h
  ·rename_i x t ha ht
   simp only [ha,ht]; exact Uo h
  ·cases h
 ·simp only [hc]
  split at h
  ·rename_i x y t t' ha ht
   simp only [ha,ht]; exact Ro h
  ·cases h
 ·simp only [hc]
  split at h
  ·rename_i x y t t' ha ht
   simp only [ha,ht]; exact kS_ok h
  ·cases h
 ·split
  ·exfalso; rename_i hv _ _ _ _ f hf; first | exact hv f hf | exact hc f hf
  ·contradiction
  ·contradiction
  ·contradiction
  ·contradiction
  ·exact Uo h
theorem ow_ok {o:Oper} {k:KA} (h:(ow P tab o).run R d cx env S k=true):Lj R d cx S k (Ni P tab cx S env o)=true:=by
 unfold ow at h
 unfold Ni
 split at h <;> rename_i hop
 ·rw [hop]; obtain ⟨a, h1, h2⟩ := Ba h
  simp only [aMove,h1]; exact kv_ok h2
 ·rw [hop]; obtain ⟨a, h1, h2⟩ := Ba h
  simp only [aMove,h1]; exact kv_ok h2
 ·rw [hop]; obtain ⟨a, h1, h2⟩ := Ba h
  obtain ⟨b,h3,h4⟩:=Ba h2
  rcases binF_ok h1 h3 h4 with h5 | ⟨v,h5,h6⟩
  ·exact Uo h5
  ·simp only [h5,orE]; exact kv_ok h6
 ·rw [hop]; obtain ⟨a, h1, h2⟩ := Ba h
  rcases Mr h2 with h3 | ⟨b,rfl,h3⟩
  ·cases h3
  simp only [aPick,Ay h1]
  cases b with
  | true=>obtain ⟨c,h4,h5⟩:=Ba h3; simp only [cond_true,h4]; exact kv_ok h5
  | false=>obtain ⟨c,h4,h5⟩:=Ba h3; simp only [cond_false,h4]; exact kv_ok h5
 ·rw [hop]; exact Uo h
 ·rw [hop]; exact Ro h
 ·rw [hop]; exact Ro h
 ·rw [hop]; exact kL_ok h
 ·rw [hop]; exact kS_ok h
 ·rw [hop]; exact Uo h
 ·rw [hop]; exact Uo h
 ·rw [hop]; exact Uo h
 ·rw [hop]; exact kL_ok h
 ·rw [hop]; exact Uo h
 ·rw [hop]; exact h
 ·rw [hop]; exact Uo h
 ·rw [hop]; exact kL_ok h
 ·rw [hop]; exact Ro h
 ·rw [hop]; exact Ro h
 ·rw [hop]; exact Ro h
 ·rw [hop]; exact Uo h
 ·rw [hop]; exact kS_ok h
 ·rw [hop]; exact kS_ok h
 ·rw [hop]; exact Ro h
 ·rw [hop]; exact kS_ok h
 ·rw [hop]; exact Uo h
 ·rw [hop]; exact Uo h
 ·rw [hop]; exact Ro h
 ·rw [hop]; exact h
 ·rw [hop]; exact Uo h
 ·rw [hop]; exact cwl_ok h
 ·rw [hop]; exact Uo h
 ·rw [hop]; exact Uo h
 ·cases h
theorem gB_ok {a:AV} {b yes no:Bool} (h:gB a b yes no=true):(∃ b',a=Rp b'∧((b' == b)=true∧yes=true ∨ (b' == b)=false∧no=true)) ∨ a=.u∧no=true:=by
 cases a with
 | v g cs=>
  rcases Mr (a:=.v g cs) h with h | ⟨b',h1,h2⟩
  ·cases h
  ·refine .inl ⟨b', h1, ?_⟩
   cases b' <;> cases b <;> first
    | exact .inl ⟨rfl,h2⟩
    | exact .inr ⟨rfl,h2⟩
 | t xs=>cases h
 | u=>exact .inr ⟨rfl,h⟩
theorem gw_ok {all : List Oper} {o : Oper} : match gw all o with
  | .no=>Xs all env o=some true
  | .on t b=>∀ {yes no:Bool},gB (env.at t) b yes no=true→Xs all env o=some true∧yes=true ∨ Xs all env o=some false∧no=true
  | .bad=>True:=by
 unfold gw Xs
 cases hg:o.guard with
 | none=>rfl
 | some p=>
  obtain ⟨j,b⟩:=p
  simp only
  cases hd:(all[j]?).bind (·.dst) with
  | none=>trivial
  | some t=>
   simp only
   intro yes no h
   rcases gB_ok h with ⟨b',h1,h2⟩ | ⟨h1,h2⟩
   ·rw [h1]
    rcases h2 with ⟨h2,h3⟩ | ⟨h2,h3⟩
    ·exact .inl ⟨by simp only [Rp,h2],h3⟩
    ·exact .inr ⟨by simp only [Rp,h2],h3⟩
   ·rw [h1]; exact .inr ⟨rfl,h2⟩
theorem lw_ok (hR:FOk R g) {all rest:List Oper} {k:KE} (h:(lw all rest).run R d cx env S k=true):Hk d (goL g cx all rest env S) fun r=>k r.env r.S=true:=by
 cases rest with
 | nil=>exact Hk.one h
 | cons o rest=>
  have run:(R.o d cx o env S fun v S=>(sw o.dst).run env v fun env=>R.l d cx all rest env S k)=true→Hk d (goL1 g cx all o rest env S (some true)) fun r=>k r.env r.S=true:=fun h=>by
   simp only [goL1,Jz,Ut,Np]
   refine (hR.o h).bind fun r hr=>?_
   have:=hr.2
   simp only [sw_eq] at this
   exact hR.l this
  have skip:((sw o.dst).run env .u fun env=>R.l d cx all rest env S k)=true→Hk d (goL1 g cx all o rest env S (some false)) fun r=>k r.env r.S=true:=fun h=>by
   rw [sw_eq] at h
   exact hR.l h
  simp only [goL]
  have hgw:=gw_ok (env:=env) (all:=all) (o:=o)
  unfold lw at h
  simp only at h
  cases hg:gw all o with
  | no=>rw [hg] at h hgw; rw [hgw]; exact run h
  | on t b=>
   rw [hg] at h hgw
   obtain ⟨a,h1,h2⟩:=Ba h
   simp only [aop,Option.some.injEq] at h1; subst h1
   rcases hgw h2 with ⟨h3,h4⟩ | ⟨h3,h4⟩
   ·rw [h3]; exact run h4
   ·rw [h3]; exact skip h4
  | bad=>rw [hg] at h; cases h
theorem fdrw_ok (hR : FOk R g) {all : List Oper} {ms : List Nat} {k : KE} : ∀ {l : List Oper} {mt : List Nat} {rs : List Rc} {env : Gv} {S : St}, mt = ms.drop rs.length → fdrw R cx all k l mt rs rs.length env S = true → ∃ p, drw (fun cxk o env S => g cxk (.o o env) S) cx all ms l rs env S = some p ∧ k p.1 p.2 = true
 | [],mt,rs,env,S,_,h=>⟨_,rfl,h⟩
 | o :: l,[],rs,env,S,_,h=>by cases h
 | o :: l,m :: ms',rs,env,S,hm,h=>by
  have hm0:ms.getD rs.length 0=m:=by
   have:(ms.drop rs.length)[0]?=some m:=by rw [← hm]; rfl
   rw [List.getElem?_drop,Nat.add_zero] at this
   rw [List.getD_eq_getElem?_getD,this]; rfl
  have hm1:ms'=ms.drop (rs.length + 1):=by
   have:(ms.drop rs.length).drop 1=ms':=by rw [← hm]; rfl
   rw [List.drop_drop] at this; exact this.symm
  have h':(dw all m o).run R cx rs rs.length env S (fun rs1 env S=>Dc (Nat.succ rs.length) fun n=>fdrw R cx all k l ms' rs1 n env S)=true:=h
  have run : (R.o true (dcx cx ((ftw o).f env) m rs S.n) o env S.bare fun v S' => (sw o.dst).run env v fun env' => fSt (S.back cx S') fun S1 => Dc (Nat.succ rs.length) fun n => fdrw R cx all k l ms' (rcY cx env o m rs.length rs S S' v :: rs) n env' S1) = true → Xs all env o = some true →
    ∃ p,drw (fun cxk o env S=>g cxk (.o o env) S) cx all ms (o :: l) rs env S=some p∧k p.1 p.2=true:=fun h hw=>by
   obtain ⟨outs,h1,h2,h3⟩:=hR.o h
   obtain ⟨q,rfl⟩:=h2 rfl
   have hq:=h3 q (by simp)
   have h4:=hq.2
   simp only [sw_eq,Jz,Xk] at h4
   simp only [rcY] at h4
   rw [← hq.1,ftw_eq,← hm0] at h4
   rw [ftw_eq,← hm0] at h1
   simp only [drw,hw,h1]
   exact fdrw_ok hR (rs:=_ :: rs) (by rw [List.length_cons]; exact hm1) h4
  have skip : ((sw o.dst).run env .u fun env' => Dc (Nat.succ rs.length) fun n => fdrw R cx all k l ms' (rcN env o rs.length S :: rs) n env' S) = true → Xs all env o = some false →
    ∃ p,drw (fun cxk o env S=>g cxk (.o o env) S) cx all ms (o :: l) rs env S=some p∧k p.1 p.2=true:=fun h hw=>by
   simp only [sw_eq,Xk] at h
   simp only [rcN] at h
   simp only [drw,hw]
   exact fdrw_ok hR (rs:=_ :: rs) (by rw [List.length_cons]; exact hm1) h
  have hgw:=gw_ok (env:=env) (all:=all) (o:=o)
  unfold dw at h'
  cases hg:gw all o with
  | no=>rw [hg] at h' hgw; exact run h' hgw
  | on t b=>
   rw [hg] at h' hgw
   obtain ⟨a,h1,h2⟩:=Ba h'
   simp only [aop,Option.some.injEq] at h1; subst h1
   rcases hgw h2 with ⟨h3,h4⟩ | ⟨h3,h4⟩
   ·exact run h4 h3
   ·exact skip h4 h3
  | bad=>rw [hg] at h'; cases h'
theorem fEnd_ok {l:Nat} {ms:List Nat} {k:KC} (h:fEnd cx l env ms S k=true):Hk d (Cl cx l env ms S) fun r=>k r.x r.env r.ms r.S=true:=by
 unfold fEnd at h
 split at h
 ·rename_i r hr
  rw [Jz] at h
  rw [hr]; exact Hk.one h
 ·cases h
theorem cw_ok (hR:FOk R g) {inr:Bool} {N:Nat} {c:Code} {ms:List Nat} {k:KC} (h:(cw tab inr N c).run R d cx env ms S k=true):Hk d (goC tab g cx inr N c env ms S) fun r=>k r.x r.env r.ms r.S=true:=by
 unfold cw at h
 split at h
 ·exact Hk.one h
 ·exact Hk.one h
 ·exact Hk.one h
 ·simp only [goC, gSeq]
  refine (hR.c h).bind fun r hr=>?_
  cases hx:r.x with
  | nrm=>rw [hx] at hr; exact hR.c hr
  | ret=>rw [hx] at hr; refine Hk.one ?_; rw [hx]; exact hr
  | exit id=>rw [hx] at hr; refine Hk.one ?_; rw [hx]; exact hr
 ·obtain ⟨a, h1, h2⟩ := Ba h
  rcases Mr h2 with h3 | ⟨b,rfl,h3⟩
  ·cases h3
  simp only [goC,Ay h1,gCond]
  cases b with
  | true=>exact hR.c h3
  | false=>exact hR.c h3
 ·simp only [goC]
  refine (hR.c h).bind fun r hr=>Hk.one hr
 ·exact hR.lp h
 ·rename_i ops draw
  obtain ⟨l⟩:=ops
  simp only [goC,gReg]
  cases draw with
  | false=>
   simp only [cond_false]
   exact (hR.l h).bind fun r hr=>Hk.one hr
  | true=>
   simp only [cond_true]
   obtain ⟨p,h1,h2⟩:=fdrw_ok hR (ms:=Ck l) (rs:=[]) rfl h
   rw [h1]
   exact Hk.one h2
 ·rename_i f ps asg body
  simp only [goC,gRng]
  cases inr with
  | true=>cases h
  | false=>
   simp only [cond_false] at h ⊢
   split at h
   ·rename_i gf caps hf
    obtain ⟨h1,h2⟩:=Fc h
    rw [hf]
    simp only [h1,cond_true]
    exact (hR.f h2).bind fun r hr=>fEnd_ok hr.2
   ·cases h
 ·cases h
theorem fF_ok (hR:FOk R g) {args:List AV} {k:KA} {i:Option FI} (h:fF P R d cx args S k i=true):Hk d (goF P g cx args S i) (IsA k):=by
  unfold fF at h
  split at h
  · rename_i i
    obtain ⟨h1,h2⟩:=Fc h
    simp only [goF,h1,cond_true]
    refine (hR.c h2).bind fun r hr=>?_
    have key : (match Jg cx r.S r.ms with
          | some S2 => fSt S2 fun S2 => match Ia P cx S2 r.env i.fn.results.toList with
            | some v=>fAV v fun v=>k v S2
            | none=>false
          | none=>false)=true→Hk d (match Jg cx r.S r.ms with
        | some S2 => match Ia P cx S2 r.env i.fn.results.toList with
          | some v=>some [xo1 S2 v]
          | none=>none
        | none=>none) (IsA k):=fun hk=>by
      split at hk
      · rename_i S2 h3
        rw [Jz] at hk
        split at hk
        · rename_i v h4
          rw [Ut] at hk
          exact Hk.one ⟨rfl,hk⟩
        · cases hk
      · cases hk
    cases hx:r.x with
    | nrm=>rw [hx] at hr; exact key hr
    | ret=>rw [hx] at hr; exact key hr
    | exit id=>rw [hx] at hr; cases hr
  · cases h
theorem fR_ok (hR:FOk R g) {l:Nat} {args:List AV} {k:KA} (h:fR R d cx l args S k=true):Hk d (goR g cx l args S) (IsA k):=by
 unfold fR at h
 split at h
 ·rename_i hl
  obtain ⟨h1,h2⟩:=Fc h
  simp only [goR,hl,h1,cond_true]
  refine (hR.c h2).bind fun r hr=>?_
  cases hx:r.x with
  | nrm=>
   rw [hx] at hr
   simp only at hr ⊢
   split at hr
   ·rename_i S1 hb
    rw [Jz] at hr
    simp only [hb]
    refine (hR.c hr).bind fun q hq=>?_
    split at hq
    ·rename_i r2 he
     rw [Jz] at hq
     rw [he]
     have hxo:r2=xo1 r2.S r2.v:=by
      unfold Ld at he
      split at he
      ·split at he
       ·simp only [Option.some.injEq,List.cons.injEq,and_true] at he; rw [← he]; rfl
       ·cases he
      ·cases he
     exact Hk.one ⟨hxo,hq⟩
    ·cases hq
   ·cases hr
  | ret=>rw [hx] at hr; cases hr
  | exit id=>rw [hx] at hr; cases hr
 ·cases h
theorem fr_ok:∀ n,FOk (fr P tab n) (go P tab n):=by
 intro n
 induction n with
 | zero=>exact ⟨(fun h=>by cases h),(fun h=>by cases h),(fun h=>by cases h),(fun h=>by cases h),(fun h=>by cases h),(fun h=>by cases h)⟩
 | succ n ih=>
  refine ⟨fun h=>?_,fun h=>?_,fun h=>?_,fun h=>?_,fun h=>?_,fun h=>?_⟩ <;> rw [Xc]
  ·exact kARs_ok ih (ow_ok h)
  ·exact lw_ok ih h
  ·exact cw_ok ih h
  ·exact fF_ok ih h
  ·exact fR_ok ih h
  ·simp only [goB, goLp]
   refine (ih.c h).bind fun r hr=>?_
   cases hx:r.x with
   | nrm=>rw [hx] at hr; exact ih.lp hr
   | ret=>rw [hx] at hr; refine Hk.one ?_; rw [hx]; exact hr
   | exit id=>rw [hx] at hr; refine Hk.one ?_; rw [hx]; exact hr
theorem fn_fast (hmx:P.follows .mixedOrders=true) (htab:Be P tab) {n:Nat} {f:FuncId} {gh:Gh} {w:World} (h:(fr P tab n).f false cx0 f [] S0 (fun v _=>isTrue v)=true):Fn P f #[] gh w (fun _ _ v=>v=.bool true):=by
 obtain ⟨outs,h1,_,h3⟩:=(fr_ok n).f h
 refine fn_closed hmx htab (n:=n) ?_
 rw [h1]
 simp only [allT,List.all_eq_true]
 exact fun r hr=>(h3 r hr).2
end
end
end Go.Proofs.Ytplaipkjhlkjgaa
/- Uw calls, run by the machine of plain data. -/
namespace Go.Proofs.Ytplaipkjhlkjgaa
open Go.RowKit
set_option maxRecDepth 100000
noncomputable def tabT:Tab:=⟨(.nd (.nd (.nd (.nd .nil none (.nd (.nd .nil (some (fi Try.f39)) .nil) none .nil)) none (.nd .nil none (.nd (.nd (.nd .nil (some (fi Try.f75)) .nil) none .nil) (some (fi Try.f27)) .nil))) none (.nd (.nd .nil none (.nd (.nd (.nd .nil (some (fi Try.f73)) .nil) none .nil) none .nil)) none (.nd (.nd (.nd (.nd .nil (some (fi Try.f69)) .nil) none .nil) (some (fi Try.f21)) .nil) (some (fi Try.f13)) (.nd (.nd (.nd .nil (some (fi Try.f77)) .nil) none .nil) none .nil)))) none (.nd (.nd (.nd .nil none (.nd (.nd .nil (some (fi Try.f40)) .nil) none .nil)) none (.nd .nil none (.nd (.nd (.nd .nil (some (fi Try.f76)) .nil) none .nil) none .nil))) none (.nd (.nd (.nd .nil none (.nd .nil (some (fi Try.f50)) .nil)) none (.nd (.nd (.nd .nil (some (fi Try.f74)) .nil) none .nil) (some (fi Try.f26)) .nil)) none (.nd (.nd .nil (some (fi Try.f22)) .nil) none .nil)))),[]⟩
noncomputable def tabLst:List (Nat × FI):=[(13,fi Try.f13),(21,fi Try.f21),(22,fi Try.f22),(26,fi Try.f26),(27,fi Try.f27),(39,fi Try.f39),(40,fi Try.f40),(50,fi Try.f50),(69,fi Try.f69),(73,fi Try.f73),(74,fi Try.f74),(75,fi Try.f75),(76,fi Try.f76),(77,fi Try.f77)]
theorem tab_eq:tabT=tabL tabLst:=by kernel_rfl
theorem mixedK:Try.prog.follows .mixedOrders=true:=by kernel_rfl
theorem tab_ok:Be Try.prog tabT:=by
 rw [tab_eq]
 exact
  Kr (enters_of Try.func13 (by kernel_rfl) rfl) Try.func13 rfl (by kernel_rfl) <|
  Kr (enters_of Try.func21 (by kernel_rfl) rfl) Try.func21 rfl (by kernel_rfl) <|
  Kr (enters_of Try.func22 (by kernel_rfl) rfl) Try.func22 rfl (by kernel_rfl) <|
  Kr (enters_of Try.func26 (by kernel_rfl) rfl) Try.func26 rfl (by kernel_rfl) <|
  Kr (enters_of Try.func27 (by kernel_rfl) rfl) Try.func27 rfl (by kernel_rfl) <|
  Kr (enters_of Try.func39 (by kernel_rfl) rfl) Try.func39 rfl (by kernel_rfl) <|
  Kr (enters_of Try.func40 (by kernel_rfl) rfl) Try.func40 rfl (by kernel_rfl) <|
  Kr (enters_of Try.func50 (by kernel_rfl) rfl) Try.func50 rfl (by kernel_rfl) <|
  Kr (enters_of Try.func69 (by kernel_rfl) rfl) Try.func69 rfl (by kernel_rfl) <|
  Kr (enters_of Try.func73 (by kernel_rfl) rfl) Try.func73 rfl (by kernel_rfl) <|
  Kr (enters_of Try.func74 (by kernel_rfl) rfl) Try.func74 rfl (by kernel_rfl) <|
  Kr (enters_of Try.func75 (by kernel_rfl) rfl) Try.func75 rfl (by kernel_rfl) <|
  Kr (enters_of Try.func76 (by kernel_rfl) rfl) Try.func76 rfl (by kernel_rfl) <|
  Kr (enters_of Try.func77 (by kernel_rfl) rfl) Try.func77 rfl (by kernel_rfl) <|
  tok_nil
theorem kn13:(fr Try.prog tabT 100000).f false cx0 13 [] S0 (fun v _=>isTrue v)=true:=by kernel_rfl
theorem wkK13 {gI:Gh} {wI:World}:Fn Try.prog 13 #[] gI wI (fun _ _ v=>v=.bool true):=fn_fast mixedK tab_ok kn13
end Go.Proofs.Ytplaipkjhlkjgaa
