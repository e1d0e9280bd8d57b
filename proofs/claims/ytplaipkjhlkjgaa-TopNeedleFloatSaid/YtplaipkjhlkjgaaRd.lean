/- A machine of plain data: its operations on memory, and that the model does the same. No program is named here. -/
import Derived.Test.YtplaipkjhlkjgaaRc
namespace Go.Proofs.Ytplaipkjhlkjgaa
noncomputable section
open Go.RowKit
section
variable {cx:Cx} {base:Nat} {ρ:Rn} {S S':St} {w w':World} {env:Gv} {e:Env} {xs:List Operand} {P:Program}
theorem Dk (hs:Sim cx base ρ S w) {b:Nat} {B:Blk} (h:S.look cx b=some B):∃ y,ρ b=some y∧BR ρ w B y∧S.get b=some B∧cx.vis b=true:=by
 obtain ⟨h1,h2⟩:=Re h
 obtain ⟨y,h3,h4⟩:=hs.blk b B h1 h2
 exact ⟨y,h3,h4,h2,h1⟩
theorem Vw (hs : Sim cx base ρ S w) {B : Blk} {o : Obj} {r : Result Next} {v : Value} {x : AV} (hf : ρ S.n = none) (hr : r = .ok (.value v) (w.alloc o)) (hB : BR (Ua ρ S.n (w.heap.size, 0)) (w.alloc o) B (w.heap.size, 0))
  (hv:VR (Ua ρ S.n (w.heap.size,0)) (w.alloc o) x v):Hi cx base ρ S w x (S.new B) r:=by
 obtain ⟨ev,sm⟩:=new_ok hs hf o B hB
 exact ⟨v,_,_,.inl hr,ev,sm,hv⟩
theorem Nc {cs:List C} {vs:List Value} {arr:Array Value} {t:TypeId} (hf:ρ S.n=none) (h:CsR ρ w cs vs) (ha:∀ (j:Nat) (v:Value),vs[j]?=some v→arr[j]?=some v):BR (Ua ρ S.n (w.heap.size,0)) (w.alloc (.cells arr t)) (.cells cs t) (w.heap.size,0):=
 ⟨arr,vs,Qk _ _,CsR.mono (Yq hf) (Ra _ _) h,fun j v hj=>by show arr[0 + j]?=some v; rw [Nat.zero_add]; exact ha j v hj⟩
theorem Az:VR (Ua ρ S.n (w.heap.size,0)) w' (.v false [.p S.n 0]) (.pointer (some ⟨w.heap.size,0,none⟩)):=V1.of ⟨(w.heap.size,0),Wf _ _ _,rfl⟩
def Nk (P:Program) (S:St) (t:TypeId):Option (AV × St):=(De P t).map fun p=>(.v false [.p S.n 0],S.new (.cells p.2 t))
theorem aAlloc_ok (hs:Sim cx base ρ S w) {o:Oper} {t:TypeId} {a:AV} (hop:o.op=.alloc t) (h:Nk P S t=some (a,S')) (hN:∀ b,S.n ≤ b→b < S'.n→ρ b=none):Hi cx base ρ S w a S' ((execOp (ev e) o).run P w):=by
 unfold Nk at h
 simp only [Option.map_eq_some_iff,Prod.mk.injEq] at h
 obtain ⟨p,hp,rfl,rfl⟩:=h
 obtain ⟨z,hz,hv⟩:=Sp hp
 have hf:=hN S.n (Nat.le_refl _) (Nat.lt_succ_self _)
 refine Vw hs (o:=.cells z.cells t) hf ?_ (Nc hf (hv ρ w).cells fun j v hj=>by simpa using hj) Az
 simp [execOp,hop,Instr.alloc,hz,newVar,newRow,Sem.run_bind,Result.andThen]
def aBox (S:St) (env:Gv) (t:TypeId) (x:Operand):Option (AV × St):=
 match aop env x with
 | some (.v _ cs)=>some (.v false [.p S.n 0],S.new (.cells cs t))
 | _=>none
theorem aBox_ok (hs:Sim cx base ρ S w) {o:Oper} {t:TypeId} {x:Operand} {a:AV} (hop:o.op=.box t x) (ho:Hb ρ w env e o.op.operands.toList) (h:aBox S env t x=some (a,S')) (hN:∀ b,S.n ≤ b→b < S'.n→ρ b=none):Hi cx base ρ S w a S' ((execOp (ev e) o).run P w):=by
 unfold aBox at h
 split at h
 ·rename_i g cs hx
  simp only [Option.some.injEq,Prod.mk.injEq] at h
  obtain ⟨rfl,rfl⟩:=h
  have hv:=Qa hx ho (by simp [hop,Op.operands])
  have hf:=hN S.n (Nat.le_refl _) (Nat.lt_succ_self _)
  refine Vw hs (o:=.cells (ev e x).cells t) hf ?_ (Nc hf (V1.cells hv) fun j v hj=>by simpa using hj) Az
  simp [execOp,hop,Instr.box,newVar,newRow,Result.andThen]
 ·cases h

/-! ### Loads and stores -/
def segC (cs:List C) (off n:Nat):Option (List C):=bif Nat.beq ((cs.drop off).take n).length n then some ((cs.drop off).take n) else none
theorem Mc {cs s:List C} {off n:Nat} {vs:List Value} (h:segC cs off n=some s) (hr:CsR ρ w cs vs):CsR ρ w s ((vs.drop off).take n)∧((vs.drop off).take n).length=n:=by
 unfold segC at h
 cases hb:Nat.beq ((cs.drop off).take n).length n with
 | false=>rw [hb] at h; cases h
 | true=>
  rw [hb] at h; simp only [cond_true,Option.some.injEq] at h; subst h
  have:=(hr.drop off).take n
  exact ⟨this,by rw [← this.len]; exact Nat.eq_of_beq_eq_true hb⟩
theorem Fy {vs:List Value} {off n j:Nat} {v:Value} (h:((vs.drop off).take n)[j]?=some v):vs[off + j]?=some v:=by
 rw [List.getElem?_take] at h
 split at h
 ·rw [List.getElem?_drop] at h; exact h
 ·cases h
theorem load_run {t : TypeId} {g : Bool} {n b off : Nat} {us : List Value} {arr : Array Value} {el : TypeId} (hi : Mt P t = some (g, n)) (hh : w.heap[b]? = some (.cells arr el (0, 0))) (hl : us.length = n) (hg : (g || Nat.beq n 1) = true)
  (hc:∀ (j:Nat) (v:Value),us[j]?=some v→arr[off + j]?=some v):(loadVar t ⟨b,off,none⟩).run P w=.ok (toV g us) w:=by
 obtain ⟨ha,hs⟩:=Cy hi
 have hcell:∀ (j:Nat) (v:Value),us[j]?=some v→w.cell? ⟨b,off + j,none⟩=some v:=fun j v hj=>by simp only [World.cell?,hh,Option.isSome_none,Bool.false_eq_true,if_false]; exact hc j v hj
 unfold loadVar
 cases g with
 | true=>
  have h1:=run_loadCells_list (P:=P) w ⟨b,off,none⟩ us (fun j c hj=>by rw [Qr]; exact hcell j c hj)
  rw [hl] at h1
  simp [Sem.run_bind,ha,hs,Result.andThen,h1,toV]
 | false=>
  have hn:n=1:=Nat.eq_of_beq_eq_true (by simpa using hg)
  rw [hn] at hl
  match us,hl with
  | [c],_=>
   have h1:=hcell 0 c rfl
   simp only [Nat.add_zero] at h1
   simp [Sem.run_bind,ha,Result.andThen,toV,run_load,h1]
def Me (P:Program) (cx:Cx) (S:St) (t:TypeId) (b off:Nat):Option AV:=
 match S.look cx b,Mt P t with
 | some (.cells cs _),some (g,n)=>bif g || Nat.beq n 1 then (segC cs off n).map (.v g) else none
 | _,_=>none
theorem Nd (hs:Sim cx base ρ S w) {t:TypeId} {b off:Nat} {a:AV} (h:Me P cx S t b off=some a):∃ y v,ρ b=some y∧(loadVar t ⟨y.1,y.2 + off,none⟩).run P w=.ok v w∧VR ρ w a v:=by
 unfold Me at h
 split at h
 ·rename_i cs el g n hl hi
  cases hg:(g || Nat.beq n 1) with
  | false=>rw [hg] at h; cases h
  | true=>
   rw [hg] at h; simp only [cond_true,Option.map_eq_some_iff] at h
   obtain ⟨s,h1,rfl⟩:=h
   obtain ⟨y,hy,⟨arr,vs,hh,hr,hc⟩,_⟩:=Dk hs hl
   obtain ⟨h2,h3⟩:=Mc h1 hr
   refine ⟨y,_,hy,load_run hi hh h3 hg fun j v hj=>by rw [Nat.add_assoc]; exact hc _ _ (Fy hj),?_⟩
   exact ⟨_,rfl,h2,fun hgf=>by subst hgf; rw [h3]; exact Nat.eq_of_beq_eq_true (by simpa using hg)⟩
 ·cases h
def aLoad (P:Program) (cx:Cx) (S:St) (env:Gv) (t:TypeId) (x:Operand):Option AV:=
 match aop env x with
 | some (.v false [.p b off])=>Me P cx S t b off
 | _=>none
theorem aLoad_ok (hs:Sim cx base ρ S w) {o:Oper} {t:TypeId} {x:Operand} {a:AV} (hop:o.op=.load t x) (ho:Hb ρ w env e o.op.operands.toList) (h:aLoad P cx S env t x=some a):Hi cx base ρ S w a S ((execOp (ev e) o).run P w):=by
 unfold aLoad at h
 split at h
 ·rename_i b off hx
  obtain ⟨y,hy,hv⟩:=V1.one (Qa hx ho (by simp [hop,Op.operands]))
  obtain ⟨y',v,hy',hrun,hr⟩:=Nd hs h
  rw [hy] at hy'; injection hy' with hy'; subst hy'
  exact Ti hs (by simp [execOp,hop,hv,Instr.loadAt,Instr.sureAddr,Result.andThen,hrun]) hr
 ·cases h
def Si (P:Program) (cx:Cx) (S:St) (t:TypeId) (b off:Nat) (xs:List C):Option St:=
 match S.look cx b,Mt P t with
 | some (.cells cs el),some (_,n)=>bif Nat.beq xs.length n && Nat.blt 0 n && Nat.ble (off + n) cs.length then S.put cx b (some (.cells (cs.take off ++ xs ++ cs.drop (off + n)) el)) else none
 | _,_=>none
theorem Un {arr:Array Value} {vs:List Value} {s:Nat} (hc:∀ (j:Nat) (v:Value),vs[j]?=some v→arr[s + j]?=some v) (h0:0 < vs.length):s + vs.length ≤ arr.size:=by
 have h1:=hc (vs.length - 1) _ (List.getElem?_eq_getElem (by omega))
 have:=(Array.getElem?_eq_some_iff.1 h1).1
 omega
theorem row_get {arr : Array Value} {vs us : List Value} {off s : Nat} (hc : ∀ (j : Nat) (v : Value), vs[j]? = some v → arr[s + j]? = some v) (hl : off + us.length ≤ vs.length) (h0 : 0 < vs.length) :
  ∀ (j:Nat) (v:Value),(vs.take off ++ us ++ vs.drop (off + us.length))[j]?=some v→((arr.toList.take (s + off) ++ us ++ arr.toList.drop (s + off + us.length)).toArray)[s + j]?=some v:=by
 intro j v hj
 have hsz:=Un hc h0
 have hal:arr.toList.length=arr.size:=Array.length_toList
 rw [List.getElem?_toArray]
 have hto:(vs.take off).length=off:=by rw [List.length_take]; omega
 have hta:(arr.toList.take (s + off)).length=s + off:=by rw [List.length_take]; omega
 rcases Nat.lt_or_ge j off with h1 | h1
 ·rw [List.append_assoc, List.getElem?_append_left (by omega)] at hj ⊢
  rw [List.getElem?_take,if_pos h1] at hj
  rw [List.getElem?_take,if_pos (by omega)]
  rw [Array.getElem?_toList]; exact hc _ _ hj
 ·rcases Nat.lt_or_ge j (off + us.length) with h2 | h2
  ·rw [List.append_assoc, List.getElem?_append_right (by omega), List.getElem?_append_left (by omega), hto] at hj
   rw [List.append_assoc,List.getElem?_append_right (by omega),List.getElem?_append_left (by omega),hta]
   rw [show s + j - (s + off)=j - off by omega]
   exact hj
  ·rw [List.getElem?_append_right (by rw [List.length_append]; omega), List.length_append, hto, List.getElem?_drop] at hj
   rw [List.getElem?_append_right (by rw [List.length_append]; omega),List.length_append,hta,List.getElem?_drop,Array.getElem?_toList]
   have:=hc _ _ hj
   rw [show s + off + us.length + (s + j - (s + off + us.length))=s + (off + us.length + (j - (off + us.length))) by omega]
   exact this
theorem aStoreAt_ok (hs : Sim cx base ρ S w) {t : TypeId} {b off : Nat} {g : Bool} {xs : List C} {u : Value} (h : Si P cx S t b off xs = some S') (hu : V1 ρ w (g, xs) u) :
  ∃ y w',ρ b=some y∧(storeVar t ⟨y.1,y.2 + off,none⟩ u).run P w=.ok () w'∧Evo cx ρ S w ρ S' w'∧Sim cx base ρ S' w':=by
 unfold Si at h
 split at h
 ·rename_i cs el g' n hl hi
  cases hg:(Nat.beq xs.length n && Nat.blt 0 n && Nat.ble (off + n) cs.length) with
  | false=>rw [hg] at h; cases h
  | true=>
   rw [hg] at h; simp only [cond_true] at h
   simp only [Bool.and_eq_true] at hg
   obtain ⟨⟨hg1,hg2⟩,hg3⟩:=hg
   have hn:=Nat.eq_of_beq_eq_true hg1
   have hn0:0 < n:=Nat.le_of_ble_eq_true hg2
   have hle:=Nat.le_of_ble_eq_true hg3
   obtain ⟨y,hy,⟨arr,vs,hh,hr,hc⟩,hget,hvis⟩:=Dk hs hl
   have hlen:=hr.len
   have hcells:=V1.cells hu
   have hul:u.cells.size=n:=by have:=hcells.len; simp at this; omega
   have hsz:=Un hc (by omega)
   have hrun:=Hq (P:=P) (w:=w) (t:=t) (v:=u) (b:=y.1) (o:=y.2 + off) (by rw [hul]; exact (Cy hi).2) hh (by omega) hcells.one
   have hul2:u.cells.toList.length=n:=by simpa using hul
   have hgro:Gro w (w.setRow y.1 (arr.toList.take (y.2 + off) ++ u.cells.toList ++ arr.toList.drop (y.2 + off + u.cells.size)).toArray):=Mi hh (by
    simp only [List.size_toArray,List.length_append,List.length_take,List.length_drop,Array.length_toList]; omega)
   obtain ⟨ev,sm⟩:=Xw hs hget hy hgro (Kt _ _) (fun x hx=>Qz _ _ hx) (fun B1 hB1=>by
    injection hB1 with hB1; subst hB1
    refine ⟨_,vs.take off ++ u.cells.toList ++ vs.drop (off + n),Tz _ _ hh,((hr.take off |>.append hcells).append (hr.drop (off + n))).mono fun _ _=>CR.mono (Jf.refl _) hgro,?_⟩
    rw [← hul2,hul,← hul2]
    exact row_get hc (by omega) (by omega)) h
   exact ⟨y,_,hy,hrun,ev,sm⟩
 ·cases h
def Oc (P:Program) (cx:Cx) (S:St) (env:Gv) (t:TypeId) (x y:Operand):Option St:=
 match aop env x,aop env y with
 | some (.v false [.p b off]),some (.v _ xs)=>Si P cx S t b off xs
 | _,_=>none
theorem aStore_ok (hs:Sim cx base ρ S w) {o:Oper} {t:TypeId} {x y:Operand} (hop:o.op=.store t x y) (ho:Hb ρ w env e o.op.operands.toList) (h:Oc P cx S env t x y=some S'):Hi cx base ρ S w .u S' ((execOp (ev e) o).run P w):=by
 unfold Oc at h
 split at h
 ·rename_i b off g xs hx hy
  obtain ⟨z,hz,hv⟩:=V1.one (Qa hx ho (by simp [hop,Op.operands]))
  have hu:V1 ρ w (g,xs) (ev e y):=Qa hy ho (by simp [hop,Op.operands])
  obtain ⟨z',w',hz',hrun,ev',sm⟩:=aStoreAt_ok hs h hu
  rw [hz] at hz'; injection hz' with hz'; subst hz'
  exact ⟨undef,w',ρ,.inr ⟨by simp [execOp,hop,hv,Instr.storeAt,Instr.sureAddr,Result.andThen,hrun],rfl⟩,ev',sm,rfl⟩
 ·cases h

/-! ### Addresses -/
def aField (P:Program) (env:Gv) (s:TypeId) (x:Operand) (i:Nat):Option AV:=
 match aop env x,P.underlying s with
 | some (.v false [.p b off]), some (.struct fs) => match fs[i]? with
  | some f => match P.info? f.type with
   | some ti=>bif Nat.blt 0 ti.size then some (.v false [.p b (off + f.offset)]) else none
   | none=>none
  | none=>none
 | _,_=>none
theorem aField_ok (hs:Sim cx base ρ S w) {o:Oper} {s:TypeId} {x:Operand} {i:Nat} {a:AV} (hop:o.op=.fieldAddr s x i) (ho:Hb ρ w env e o.op.operands.toList) (h:aField P env s x i=some a):Hi cx base ρ S w a S ((execOp (ev e) o).run P w):=by
 unfold aField at h
 split at h
 ·rename_i b off fs hx hu
  split at h
  ·rename_i f hf
   split at h
   ·rename_i ti hti
    cases hg:Nat.blt 0 ti.size with
    | false=>rw [hg] at h; cases h
    | true=>
     rw [hg] at h; simp only [cond_true,Option.some.injEq] at h; subst h
     have h0:ti.size ≠ 0:=by have:1 ≤ ti.size:=Nat.le_of_ble_eq_true hg; omega
     obtain ⟨y,hy,hv⟩:=V1.one (Qa hx ho (by simp [hop,Op.operands]))
     refine Ti (v:=.pointer (some ⟨y.1,y.2 + (off + f.offset),none⟩)) hs ?_ (V1.of ⟨y,hy,rfl⟩)
     simp [execOp,hop,hv,Instr.fieldAt,run_underlying hu,hf,Instr.sureAddr,fieldPlace,sizeOf,typeInfo,hti,h0,Qr,Nat.add_assoc,Result.andThen]
   ·cases h
  ·cases h
 ·cases h
def aIndex (P:Program) (env:Gv) (t:TypeId) (x y:Operand):Option AV:=
 match aop env x,Ub env y,P.underlying t with
 | some (.v false [.s b off len _ z]),some (.int _ i),some (.slice el)=>
  match P.info? el with
  | some ti=>bif Nat.beq ti.size z && decide (0 ≤ i) && decide (i < len) then some (.v false [.p b (off + i.toNat * z)]) else none
  | none=>none
 | some (.v false [.p b off]),some (.int _ i),some (.array len el)=>
  match P.info? el with
  | some ti=>bif decide (0 ≤ i) && decide (i < len) then some (.v false [.p b (off + i.toNat * ti.size)]) else none
  | none=>none
 | _,_,_=>none
theorem aIndex_ok (hs:Sim cx base ρ S w) {o:Oper} {t:TypeId} {x y:Operand} {a:AV} (hop:o.op=.indexAddr t x y) (ho:Hb ρ w env e o.op.operands.toList) (h:aIndex P env t x y=some a):Hi cx base ρ S w a S ((execOp (ev e) o).run P w):=by
 unfold aIndex at h
 split at h
 ·rename_i b off len cap z k i el hx hy hu
  split at h
  ·rename_i ti hti
   cases hg:(Nat.beq ti.size z && decide (0 ≤ i) && decide (i < len)) with
   | false=>rw [hg] at h; cases h
   | true=>
    rw [hg] at h; simp only [cond_true,Option.some.injEq] at h; subst h
    simp only [Bool.and_eq_true,decide_eq_true_eq] at hg
    obtain ⟨⟨hg1,hg2⟩,hg3⟩:=hg
    have hz:=Nat.eq_of_beq_eq_true hg1
    obtain ⟨y',c,hy',hv,_⟩:=V1.one (Qa hx ho (by simp [hop,Op.operands]))
    have hi:=Kf hy ho (by simp [hop,Op.operands])
    refine Ti (v:=.pointer (some ⟨y'.1,y'.2 + (off + i.toNat * z),none⟩)) hs ?_ (V1.of ⟨y',hy',rfl⟩)
    simp [execOp,hop,hv,hi,Instr.indexAt,asIntOf,Sem.run_bind,run_underlying hu,Result.andThen,hg2,hg3,sizeOf,typeInfo,hti,hz,Qr,Nat.add_assoc]
  ·cases h
 ·rename_i b off k i len el hx hy hu
  split at h
  ·rename_i ti hti
   cases hg:(decide (0 ≤ i) && decide (i < len)) with
   | false=>rw [hg] at h; cases h
   | true=>
    rw [hg] at h; simp only [cond_true,Option.some.injEq] at h; subst h
    simp only [Bool.and_eq_true,decide_eq_true_eq] at hg
    obtain ⟨hg2,hg3⟩:=hg
    obtain ⟨y',hy',hv⟩:=V1.one (Qa hx ho (by simp [hop,Op.operands]))
    have hi:=Kf hy ho (by simp [hop,Op.operands])
    refine Ti (v:=.pointer (some ⟨y'.1,y'.2 + (off + i.toNat * ti.size),none⟩)) hs ?_ (V1.of ⟨y',hy',rfl⟩)
    simp [execOp,hop,hv,hi,Instr.indexAt,asIntOf,Sem.run_bind,run_underlying hu,Result.andThen,hg2,hg3,sizeOf,typeInfo,hti,Qr,Nat.add_assoc,Instr.sureAddr]
  ·cases h
 ·cases h
def aNil (env:Gv) (x:Operand):Option AV:=
 match aop env x with
 | some (.v false [.p b off])=>some (.v false [.p b off])
 | some (.v false [.f fn l])=>some (.v false [.f fn l])
 | _=>none
theorem aNil_ok (hs:Sim cx base ρ S w) {o:Oper} {x:Operand} {a:AV} (hop:o.op=.nilCheck x) (ho:Hb ρ w env e o.op.operands.toList) (h:aNil env x=some a):Hi cx base ρ S w a S ((execOp (ev e) o).run P w):=by
 unfold aNil at h
 split at h
 ·rename_i b off hx
  injection h with h; subst h
  have hr:=Qa hx ho (x:=x) (by simp [hop,Op.operands])
  obtain ⟨y',hy',hv⟩:=V1.one hr
  exact Ti (v:=ev e x) hs (by simp [execOp,hop,hv]) hr
 ·rename_i fn l hx
  injection h with h; subst h
  have hr:=Qa hx ho (x:=x) (by simp [hop,Op.operands])
  obtain ⟨vs,hv,_⟩:=V1.one hr
  exact Ti (v:=ev e x) hs (by simp [execOp,hop,hv]) hr
 ·cases h
end
end
end Go.Proofs.Ytplaipkjhlkjgaa
