/- A machine of plain data: literals, parts, lengths, append, and that the model does the same. No program is named here. -/
import Derived.Test.YtplaipkjhlkjgaaRf
namespace Go.Proofs.Ytplaipkjhlkjgaa
noncomputable section
open Go.RowKit
section
variable {cx:Cx} {base:Nat} {ρ:Rn} {S S':St} {w w':World} {env:Gv} {e:Env} {xs:List Operand} {P:Program}
/-! ### Parts -/
def aPart (P:Program) (t:TypeId) (cs:List C) (off:Nat):Option AV:=
 match Mt P t with
 | some (g,n)=>bif g || Nat.beq n 1 then (segC cs off n).map (.v g) else none
 | none=>none
theorem aPart_ok {t:TypeId} {cs:List C} {off:Nat} {a:AV} {vs:List Value} (h:aPart P t cs off=some a) (hr:CsR ρ w cs vs):∃ v,(∀ w',(part t vs.toArray off).run P w'=.ok v w')∧VR ρ w a v:=by
 unfold aPart at h
 split at h
 ·rename_i g n hi
  cases hg:(g || Nat.beq n 1) with
  | false=>rw [hg] at h; cases h
  | true=>
   rw [hg] at h; simp only [cond_true,Option.map_eq_some_iff] at h
   obtain ⟨s,h1,rfl⟩:=h
   obtain ⟨h2,h3⟩:=Mc h1 hr
   obtain ⟨ha,hz⟩:=Cy hi
   refine ⟨toV g ((vs.drop off).take n),fun w'=>?_,⟨_,rfl,h2,fun hgf=>by subst hgf; rw [h3]; exact Nat.eq_of_beq_eq_true (by simpa using hg)⟩⟩
   unfold part
   cases g with
   | true=>simp [Sem.run_bind,ha,hz,Result.andThen,List.extract_toArray,toV]
   | false=>
    have hn:n=1:=Nat.eq_of_beq_eq_true (by simpa using hg)
    subst hn
    have hlt:off < vs.length:=by rw [List.length_take,List.length_drop] at h3; omega
    have hget:(vs.toArray)[off]?=some vs[off]:=by rw [List.getElem?_toArray,List.getElem?_eq_getElem hlt]
    have hv:(List.take 1 (List.drop off vs)).headD undef=vs[off]:=by rw [List.drop_eq_getElem_cons hlt]; rfl
    simp only [toV,cond_false,hv,Sem.run_bind,ha,Result.andThen_ok,hget,Bool.false_eq_true,if_false,Sem.run_pure]
 ·cases h
def Aq (P:Program) (env:Gv) (s:TypeId) (x:Operand) (i:Nat):Option AV:=
 match aop env x,P.underlying s with
 | some (.v true cs), some (.struct fs) => match fs[i]? with
  | some f=>aPart P f.type cs f.offset
  | none=>none
 | _,_=>none
theorem aFieldV_ok (hs:Sim cx base ρ S w) {o:Oper} {s:TypeId} {x:Operand} {i:Nat} {a:AV} (hop:o.op=.field s x i) (ho:Hb ρ w env e o.op.operands.toList) (h:Aq P env s x i=some a):Hi cx base ρ S w a S ((execOp (ev e) o).run P w):=by
 unfold Aq at h
 split at h
 ·rename_i cs fs hx hu
  split at h
  ·rename_i f hf
   obtain ⟨vs,hv,hr,_⟩:=Qa hx ho (by simp [hop,Op.operands])
   obtain ⟨v,h1,h2⟩:=aPart_ok h hr
   refine Ti hs ?_ h2
   have hv':ev e x=.agg vs.toArray:=hv
   simp [execOp,hop,hv',Instr.field,run_underlying hu,Sem.run_bind,Result.andThen,hf,asAgg,h1]
  ·cases h
 ·cases h
def Ax (P:Program) (env:Gv) (t:TypeId) (x y:Operand):Option AV:=
 match aop env x,Ub env y,P.underlying t with
 | some (.v true cs),some (.int _ i),some (.array n el)=>
  match P.info? el with
  | some ti=>bif decide (0 ≤ i) && decide (i < n) then aPart P el cs (i.toNat * ti.size) else none
  | none=>none
 | _,_,_=>none
theorem aIndexV_ok (hs:Sim cx base ρ S w) {o:Oper} {t:TypeId} {x y:Operand} {a:AV} (hop:o.op=.index t x y) (ho:Hb ρ w env e o.op.operands.toList) (h:Ax P env t x y=some a):Hi cx base ρ S w a S ((execOp (ev e) o).run P w):=by
 unfold Ax at h
 split at h
 ·rename_i cs k i n el hx hy hu
  split at h
  ·rename_i ti hti
   cases hg:(decide (0 ≤ i) && decide (i < n)) with
   | false=>rw [hg] at h; cases h
   | true=>
    rw [hg] at h; simp only [cond_true] at h
    simp only [Bool.and_eq_true,decide_eq_true_eq] at hg
    obtain ⟨hg2,hg3⟩:=hg
    obtain ⟨vs,hv,hr,_⟩:=Qa hx ho (by simp [hop,Op.operands])
    have hi:=Kf hy ho (by simp [hop,Op.operands])
    obtain ⟨v,h1,h2⟩:=aPart_ok h hr
    refine Ti hs ?_ h2
    have hv':ev e x=.agg vs.toArray:=hv
    simp [execOp,hop,hv',hi,Instr.index,asIntOf,run_underlying hu,Sem.run_bind,Result.andThen,hg2,hg3,sizeOf,typeInfo,hti,h1]
  ·cases h
 ·cases h

/-! ### Literals -/
def Ps (place : Nat → Option (Nat × Nat)) : List C → List (Nat × Bool × List C) → Option (List C)
 | cs,[]=>some cs
 | cs, (i, p) :: rest => match place i with
  | none=>none
  | some (off,n)=>bif Nat.beq p.2.length n && Nat.ble (off + n) cs.length then Ps place (cs.take off ++ p.2 ++ cs.drop (off + n)) rest else none
theorem Oe {place : Nat → Option (Nat × Nat)} : ∀ {ps : List (Nat × Bool × List C)} {vs : List (Nat × Value)} {cs r : List C} {us : List Value}, Ps place cs ps = some r → CsR ρ w cs us →
  All2 (fun p v=>p.1=v.1∧V1 ρ w p.2 v.2) ps vs→∃ rs,Instr.fill place us.toArray vs=some rs.toArray∧CsR ρ w r rs
 | [],vs,cs,r,us,h,hr,hp=>by cases hp; simp only [Ps,Option.some.injEq] at h; subst h; exact ⟨us,rfl,hr⟩
 | (i,p) :: rest,vs,cs,r,us,h,hr,hp=>by
  cases hp with
  | cons h1 h2=>
   rename_i v vs'
   obtain ⟨j,v⟩:=v
   obtain ⟨rfl,hv⟩:i=j∧V1 ρ w p v:=h1
   simp only [Ps] at h
   cases hpl:place i with
   | none=>rw [hpl] at h; cases h
   | some q=>
    obtain ⟨off,n⟩:=q
    rw [hpl] at h; simp only at h
    cases hg:(Nat.beq p.2.length n && Nat.ble (off + n) cs.length) with
    | false=>rw [hg] at h; cases h
    | true=>
     rw [hg] at h; simp only [cond_true] at h
     simp only [Bool.and_eq_true] at hg
     have hn:=Nat.eq_of_beq_eq_true hg.1
     have hle:=Nat.le_of_ble_eq_true hg.2
     have hcl:=V1.cells hv
     have hvl:v.cells.size=n:=by have:=hcl.len; simp at this; omega
     have hul:=hr.len
     have hr':CsR ρ w (cs.take off ++ p.2 ++ cs.drop (off + n)) (us.take off ++ v.cells.toList ++ us.drop (off + n)):=((hr.take off).append hcl).append (hr.drop _)
     obtain ⟨rs,h3,h4⟩:=Oe h hr' h2
     refine ⟨rs,?_,h4⟩
     rw [Instr.fill,hpl]
     simp only
     have hcond:¬ ((decide (v.cells.size ≠ n) || decide (off + v.cells.size > us.toArray.size))=true):=by
      rw [Bool.not_eq_true,Bool.or_eq_false_iff,decide_eq_false_iff_not,decide_eq_false_iff_not]
      exact ⟨fun h=>h hvl,by have:us.toArray.size=us.length:=List.size_toArray; omega⟩
     rw [if_neg hcond]
     have hf:=Mv v.cells.toList 0 off us.toArray (by simp only [List.size_toArray,Array.length_toList]; omega)
     simp only [Nat.add_zero,Array.length_toList,hvl] at hf
     have h5:(Array.foldl (fun (cs:Array Value) (x:Value × Nat)=>cs.setIfInBounds (off + x.2) x.1) us.toArray v.cells.zipIdx)=(us.take off ++ v.cells.toList ++ us.drop (off + n)).toArray:=by
      apply Array.ext'
      rw [← Array.foldl_toList,Array.toList_zipIdx]
      exact hf
     rw [h5]
     exact h3
def Lu (env : Gv) : List (Nat × Operand) → Option (List (Nat × Bool × List C))
 | []=>some []
 | (i, x) :: ps => match aop env x, Lu env ps with
  | some (.v g cs),some l=>some ((i,g,cs) :: l)
  | _,_=>none
theorem Pn (ho : Hb ρ w env e xs) : ∀ {ps : List (Nat × Operand)} {l : List (Nat × Bool × List C)}, (∀ p ∈ ps, p.2 ∈ xs) → Lu env ps = some l → All2 (fun p v => p.1 = v.1 ∧ V1 ρ w p.2 v.2) l (ps.map fun (i, x) => (i, ev e x))
 | [],l,_,h=>by simp only [Lu,Option.some.injEq] at h; subst h; exact .nil
 | (i,x) :: ps,l,hm,h=>by
  unfold Lu at h
  split at h
  ·rename_i g cs l' h1 h2
   simp only [Option.some.injEq] at h; subst h
   exact .cons ⟨rfl,Qa h1 ho (hm (i,x) (by simp))⟩ (Pn ho (fun p hp=>hm p (by simp [hp])) h2)
  ·cases h
def placesOf (P:Program) (t:TypeId):Option (Nat→Option (Nat × Nat)):=
 match P.underlying t with
 | some (.struct fields)=>(fields.toList.mapM (fun f=>(P.info? f.type).map fun i=>(f.offset,i.size))).map fun l=>fun i=>l[i]?
 | some (.array _ el)=>(P.info? el).map fun ti=>fun i=>some (i * ti.size,ti.size)
 | _=>none
theorem Xl {t:TypeId} {p:Bool × List C} (h:De P t=some p):∃ it zv,P.info? t=some it∧it.zero=some zv∧∀ (ρ:Rn) (w:World),V1 ρ w p zv:=by
 unfold De at h
 cases hi:P.info? t with
 | none=>rw [hi] at h; cases h
 | some i=>
  rw [hi] at h
  simp only [Option.bind_some] at h
  cases hz:i.zero with
  | none=>rw [hz] at h; cases h
  | some z=>rw [hz] at h; exact ⟨i,z,rfl,hz,fun ρ w=>Lx h⟩
def aBuild (P:Program) (env:Gv) (t:TypeId) (ps:List (Nat × Operand)):Option AV:=
 match De P t,placesOf P t,Lu env ps with
 | some (true,z),some place,some l=>(Ps place z l).map (.v true)
 | _,_,_=>none
theorem aBuild_ok (hs:Sim cx base ρ S w) {o:Oper} {t:TypeId} {ps:Array (Nat × Operand)} {a:AV} (hop:o.op=.build t ps) (ho:Hb ρ w env e o.op.operands.toList) (h:aBuild P env t ps.toList=some a):Hi cx base ρ S w a S ((execOp (ev e) o).run P w):=by
 unfold aBuild at h
 split at h
 ·rename_i z place l hz hpl hps
  simp only [Option.map_eq_some_iff] at h
  obtain ⟨r,hr,rfl⟩:=h
  obtain ⟨it,zv,hit,hzr,hzv⟩:=Xl hz
  have hparts:=Pn ho (fun p hp=>by simp [hop,Op.operands]; exact ⟨p.1,by simpa using hp⟩) hps
  obtain ⟨rs,h1,h2⟩:=Oe hr (V1.cells (hzv ρ w)) hparts
  have hmap:(ps.map (fun (x:Nat × Operand)=>(x.1,ev e x.2))).toList=ps.toList.map (fun (x:Nat × Operand)=>(x.1,ev e x.2)):=Array.toList_map
  have hrun:(Instr.build t (ps.map (fun (x:Nat × Operand)=>(x.1,ev e x.2)))).run P w=.ok (.agg rs.toArray) w:=by
   refine run_build w t _ _ ?_
   unfold placesOf at hpl
   unfold Program.built
   rw [hit,hmap]
   cases hu:P.underlying t with
   | none=>rw [hu] at hpl; cases hpl
   | some dd=>
    rw [hu] at hpl
    cases dd with
    | struct fields=>
     simp only [Option.map_eq_some_iff] at hpl
     obtain ⟨pl,hm,rfl⟩:=hpl
     simp only [hzr,hm]
     rw [← h1]
     congr 1
     funext x; rw [List.getElem?_toArray]
    | array n el=>
     simp only [Option.map_eq_some_iff] at hpl
     obtain ⟨ti,hti,rfl⟩:=hpl
     simp only [hzr,hti]
     rw [← h1]
    | _=>cases hpl
  exact Ti (v:=.agg rs.toArray) hs (by simp [execOp,hop,hrun,Result.andThen]) (V1.agg h2)
 ·cases h
def repC (n:Nat) (z:List C):List C:=(List.replicate n z).flatten
theorem repC_ok {n:Nat} {z:List C} {vs:List Value} (h:CsR ρ w z vs):CsR ρ w (repC n z) (List.replicate n vs).flatten:=by
 unfold repC
 induction n with
 | zero=>exact .nil
 | succ n ih=>rw [List.replicate_succ,List.flatten_cons,List.replicate_succ,List.flatten_cons]; exact h.append ih
def Fb (P:Program) (S:St) (env:Gv) (t:TypeId) (n:Nat) (ps:List (Nat × Operand)):Option (AV × St):=
 match P.underlying t with
 | some (.slice el) => match Mt P el, De P el, Lu env ps with
  | some (_, z), some (_, zc), some l => bif Nat.beq zc.length z && Nat.blt 0 z && Nat.ble (n * z) 16777216 then
    match Ps (fun i=>some (i * z,z)) (repC n zc) l with
    | some r=>some (.v false [.s S.n 0 n (some n) z],S.new (.cells r el))
    | none=>none
   else none
  | _,_,_=>none
 | _=>none
theorem sl_new {arr:Array Value} {el:TypeId} {n z:Nat} (h:n * z ≤ arr.size) (hn:n ≤ maxLen):VR (Ua ρ S.n (w.heap.size,0)) (w.alloc (.cells arr el)) (.v false [.s S.n 0 n (some n) z]) (.slice (some ⟨w.heap.size,0,none⟩) n n):=
 V1.of ⟨(w.heap.size,0),n,Wf _ _ _,rfl,Nat.le_refl _,hn,fun c0 h=>by injection h,arr,el,Qk _ _,by simp only; omega⟩
theorem aBuildS_ok (hs:Sim cx base ρ S w) {o:Oper} {t:TypeId} {n:Nat} {ps:Array (Nat × Operand)} {a:AV} (hop:o.op=.buildSlice t n ps) (ho:Hb ρ w env e o.op.operands.toList) (h:Fb P S env t n ps.toList=some (a,S')) (hN:∀ b,S.n ≤ b→b < S'.n→ρ b=none):Hi cx base ρ S w a S' ((execOp (ev e) o).run P w):=by
 unfold Fb at h
 split at h
 ·rename_i el hu
  split at h
  ·rename_i g z g2 zc l hi hz hps
   cases hg:(Nat.beq zc.length z && Nat.blt 0 z && Nat.ble (n * z) 16777216) with
   | false=>rw [hg] at h; cases h
   | true=>
    rw [hg] at h; simp only [cond_true] at h
    split at h
    ·rename_i r hr
     simp only [Option.some.injEq,Prod.mk.injEq] at h
     obtain ⟨rfl,rfl⟩:=h
     simp only [Bool.and_eq_true] at hg
     have hz1:=Nat.eq_of_beq_eq_true hg.1.1
     have hz2:0 < z:=Nat.le_of_ble_eq_true hg.1.2
     have hz3:=Nat.le_of_ble_eq_true hg.2
     obtain ⟨zv,hzr,hzv⟩:=Sp hz
     have hzc:=V1.cells (hzv ρ w)
     have hzs:zv.cells.size=z:=by have:=hzc.len; simp at this; omega
     have hparts:=Pn ho (fun p hp=>by simp [hop,Op.operands]; exact ⟨p.1,by simpa using hp⟩) hps
     obtain ⟨rs,h1,h2⟩:=Oe hr (repC_ok hzc) hparts
     have hmap:(ps.map (fun (x:Nat × Operand)=>(x.1,ev e x.2))).toList=ps.toList.map (fun (x:Nat × Operand)=>(x.1,ev e x.2)):=Array.toList_map
     have hsz:=(Cy hi).2
     have hf:=hN S.n (Nat.le_refl _) (Nat.lt_succ_self _)
     have hrl:rs.length=n * z:=by
      have h3:=h2.len
      have h4:r.length=(repC n zc).length:=by
       clear h1 h2 hparts hps
       revert hr
       generalize repC n zc=cs
       induction l generalizing cs with
       | nil=>intro h; simp only [Ps,Option.some.injEq] at h; rw [h]
       | cons p l ih=>
        obtain ⟨i,p⟩:=p
        intro h
        simp only [Ps] at h
        cases hq:(Nat.beq p.2.length z && Nat.ble (i * z + z) cs.length) with
        | false=>rw [hq] at h; cases h
        | true=>
         rw [hq] at h; simp only [cond_true] at h
         rw [ih _ h]
         simp only [Bool.and_eq_true] at hq
         have:=Nat.eq_of_beq_eq_true hq.1
         have:=Nat.le_of_ble_eq_true hq.2
         simp only [List.length_append,List.length_take,List.length_drop]; omega
      rw [← h3,h4]; unfold repC; simp [hz1]
     have hbr:BR (Ua ρ S.n (w.heap.size,0)) (w.alloc (.cells rs.toArray el)) (.cells r el) (w.heap.size,0):=Nc hf h2 fun j v hj=>by rw [List.getElem?_toArray]; exact hj
     have hle:n ≤ n * z:=Nat.le_mul_of_pos_right _ hz2
     refine Vw hs (o:=.cells rs.toArray el) hf ?_ hbr (sl_new (by simp only [List.size_toArray]; omega) (by simp only [maxLen]; omega))
     have h24:¬ (n * z > 2 ^ 24):=by omega
     simp only [execOp,hop,Instr.buildSlice,Sem.run_bind,run_underlying hu,Result.andThen_ok,hsz]
     rw [if_neg h24]
     by_cases h0:n * z=0
     ·have hn0 : n = 0 := by rcases Nat.mul_eq_zero.1 h0 with h | h <;> omega
      subst hn0
      simp only [Nat.zero_mul,if_true,Sem.run_bind,Sem.run_pure,Result.andThen_ok]
      have h6:(Array.range 0).map (fun i=>(#[]:Array Value)[i % (#[]:Array Value).size]!)=([]:List Value).toArray:=by simp [Array.range]
      rw [h6]
      simp only [List.replicate_zero,List.flatten_nil] at h1
      rw [hmap,h1]
      simp [newRow]
     ·simp only [if_neg h0, Sem.run_bind, hzr, Result.andThen_ok, Sem.run_pure]
      have h6:=Dq zv.cells n
      rw [hzs] at h6
      rw [hzs,h6,hmap,h1]
      simp [newRow]
    ·cases h
  ·cases h
 ·cases h
end
end
end Go.Proofs.Ytplaipkjhlkjgaa
