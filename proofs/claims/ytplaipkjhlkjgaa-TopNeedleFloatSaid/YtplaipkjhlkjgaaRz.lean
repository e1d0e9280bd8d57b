/- A machine of plain data: copy, delete, maps that something was taken out of, places of maps; and that the model does the same. No program is named here. -/
import Derived.Test.YtplaipkjhlkjgaaRk
import Derived.Test.YtplaipkjhlkjgaaCp
namespace Go.Proofs.Ytplaipkjhlkjgaa
noncomputable section
open Go.RowKit
section
variable {cx:Cx} {base:Nat} {ρ:Rn} {S S':St} {w w':World} {env:Gv} {e:Env} {xs:List Operand} {P:Program}
def mnN (a b:Nat):Nat:=bif Nat.ble a b then a else b
theorem mnN_eq (a b:Nat):mnN a b=min a b:=by
  unfold mnN
  cases h:Nat.ble a b with
  | true=>have:=Nat.le_of_ble_eq_true h; simp; omega
  | false => have : ¬ a ≤ b := fun h2 => by rw [Nat.ble_eq_true_of_le h2] at h; cases h
             simp; omega
/-! ### copy -/
def Eo (P:Program) (cx:Cx) (S:St) (env:Gv) (t:TypeId) (x y:Operand):Option (AV × St):=
 match P.underlying t,aop env x,aop env y with
 | some (.slice el), some (.v false [.s b off len cap z]), some c => match P.info? el with
  | some ti => match srcC cx S ti.size c, S.look cx b with
   | some (n, l), some (.cells cs el2) => bif Nat.beq el2 el && Nat.beq z ti.size && Nat.blt 0 z && Nat.ble (off + mnN n len * z) cs.length && Nat.blt 0 (mnN n len) then
     (S.put cx b (some (.cells (cs.take off ++ l.take (mnN n len * z) ++ cs.drop (off + mnN n len * z)) el))).map fun S1=>(.v false [.k (.int .i64 (Int.ofNat (mnN n len)))],S1)
    else none
   | _,_=>none
  | none=>none
 | _,_,_=>none
theorem aCopy_ok (hs : Sim cx base ρ S w) {o : Oper} {t t2 : TypeId} {x y : Operand} {a : AV} (hop : o.op = .call { callee := .builtin .copy, args := #[x, y], argTypes := #[t, t2] }) (ho : Hb ρ w env e o.op.operands.toList) (h : Eo P cx S env t x y = some (a, S')) :
  Hi cx base ρ S w a S' ((execOp (ev e) o).run P w):=by
 have hmx:x ∈ o.op.operands.toList:=by simp [hop,Op.operands,Call.operands]
 have hmy:y ∈ o.op.operands.toList:=by simp [hop,Op.operands,Call.operands]
 have hexec:∀ v w',(Builtin.copy_ #[t,t2] o.type #[ev e x,ev e y]).run P w=.ok v w'→(execOp (ev e) o).run P w=.ok (.value v) w':=fun v w' hr=>by
  simp only [execOp,hop,resolve,invoke,builtin,Sem.run_bind,Sem.run_pure,Result.andThen_ok,List.map_toArray,List.map_cons,List.map_nil,hr]
 unfold Eo at h
 split at h
 ·rename_i el b off len cap z c hu hx hy
  split at h
  ·rename_i ti hi
   split at h
   ·rename_i n l cs el2 hsrc hlook
    cases hg:(Nat.beq el2 el && Nat.beq z ti.size && Nat.blt 0 z && Nat.ble (off + mnN n len * z) cs.length && Nat.blt 0 (mnN n len)) with
    | false=>rw [hg] at h; cases h
    | true=>
     rw [hg] at h; simp only [cond_true,Option.map_eq_some_iff,Prod.mk.injEq] at h
     obtain ⟨S1,hput,rfl,rfl⟩:=h
     simp only [Bool.and_eq_true] at hg
     obtain ⟨⟨⟨⟨g1,g2⟩,g3⟩,g4⟩,g5⟩:=hg
     have g1:=Nat.eq_of_beq_eq_true g1
     have g2:=Nat.eq_of_beq_eq_true g2
     have g3:0 < z:=Nat.le_of_ble_eq_true g3
     have g4:=Nat.le_of_ble_eq_true g4
     have g5:0 < mnN n len:=Nat.le_of_ble_eq_true g5
     rw [mnN_eq] at g4 g5 hput
     rw [mnN_eq]
     obtain ⟨m,hm⟩:∃ m,min n len=m:=⟨_,rfl⟩
     have hmn:m ≤ n:=by omega
     rw [hm] at g4 g5 hput ⊢
     subst g1; subst g2
     obtain ⟨yy,cc,hy1,hxv,_⟩:=V1.one (Qa hx ho hmx)
     obtain ⟨y',hy',⟨arr,us,hh,hr,hc⟩,hget,_⟩:=Dk hs hlook
     rw [hy1] at hy'; injection hy' with hy'; subst hy'
     obtain ⟨vs,hvs,hvl,hcase⟩:=srcC_ok hs hsrc (Qa hy ho hmy)
     have hlen:=hr.len
     have hpos:0 < m * ti.size:=Nat.mul_pos g5 g3
     have hsz:=Un hc (by omega)
     have hn0:n ≠ 0:=by omega
     rcases hcase with ⟨h0,_⟩ | ⟨b2,off2,c2,hyv,hcells⟩
     ·exact absurd h0 hn0
     have htk:(vs.take (m * ti.size)).length=m * ti.size:=by
      rw [List.length_take,hvl]
      exact Nat.min_eq_left (Nat.mul_le_mul_right _ hmn)
     have hnews:(Builtin.firstCells ti.size (m) (.slice (some ⟨b2,off2,none⟩) n c2)).run P w=.ok (vs.take (m * ti.size)).toArray w:=
      run_firstCells_some (P:=P) w ti.size _ ⟨b2,off2,none⟩ n c2 _ htk fun j v hj=>by
       rw [List.getElem?_take] at hj
       split at hj
       ·exact hcells j v hj
       ·cases hj
     have hones:∀ v ∈ vs.take (m * ti.size),v.oneCell'=true:=fun v hv=>hvs.one v (List.mem_of_mem_take hv)
     have hfit:yy.2 + off + (vs.take (m * ti.size)).length ≤ arr.size:=by rw [htk]; omega
     have hnews:(Builtin.firstCells ti.size (min n len) (.slice (some ⟨b2,off2,none⟩) n c2)).run P w=.ok (vs.take (m * ti.size)).toArray w:=by rw [hm]; exact hnews
     have hrun:=Nw (P:=P) (t:=t) (t2:=t2) (ty:=o.type) (dl:=len) (dc:=cc) (o:=yy.2 + off) hu hi (sl:=n) (sv:=.slice (some ⟨b2,off2,none⟩) n c2) rfl hnews hh (.inl rfl) hfit hones
     have hgro:Gro w (w.setRow yy.1 (arr.toList.take (yy.2 + off) ++ vs.take (m * ti.size) ++ arr.toList.drop (yy.2 + off + (vs.take (m * ti.size)).length)).toArray):=Mi hh (by
      simp only [List.size_toArray,List.length_append,List.length_take,List.length_drop,Array.length_toList]; simp only [List.length_take] at hfit; omega)
     obtain ⟨ev',sm⟩:=Xw hs hget hy1 hgro (Kt _ _) (fun x hx=>Qz _ _ hx) (fun B1 hB1=>by
      injection hB1 with hB1; subst hB1
      refine ⟨_,us.take off ++ vs.take (m * ti.size) ++ us.drop (off + m * ti.size),Tz _ _ hh,((hr.take off |>.append (hvs.take _)).append (hr.drop _)).mono fun _ _=>CR.mono (Jf.refl _) hgro,?_⟩
      have hk:=row_get (us:=vs.take (m * ti.size)) (off:=off) hc (by rw [htk]; omega) (by omega)
      rw [htk] at hk ⊢
      exact hk) hput
     refine ⟨.int .i64 (Int.ofNat (m)),_,ρ,.inl ?_,ev',sm,V1.of ⟨rfl,rfl⟩⟩
     refine hexec _ _ ?_
     rw [hxv,hyv]
     rw [hm] at hrun
     exact hrun
   ·cases h
  ·cases h
 ·cases h

/-! ### Maps that something was taken out of -/
def EntD (ρ:Rn) (w:World) (es:List (Value × Bool × List C)) (arr:Array MapEntry):Prop:=∀ (i:Nat) (p:Value × Bool × List C) (e:MapEntry),es[i]?=some p→arr[i]?=some e→e.key=p.1∧V1 ρ w p.2 e.val
theorem Pf {es:List (Value × Bool × List C)} {arr:Array MapEntry} (hl:arr.size=es.length) (h:EntD ρ w es arr):arr.toList.map (·.key)=es.map (·.1):=by
 apply List.ext_getElem?
 intro i
 rw [List.getElem?_map,List.getElem?_map]
 rcases Nat.lt_or_ge i es.length with h1 | h1
 ·have h2 : i < arr.size := by omega
  have h3:i < arr.toList.length:=by simpa using h2
  rw [List.getElem?_eq_getElem h1,List.getElem?_eq_getElem h3]
  have:=(h i _ _ (List.getElem?_eq_getElem h1) (Array.getElem?_eq_getElem h2)).1
  simpa using this
 ·rw [List.getElem?_eq_none h1,List.getElem?_eq_none (by simp; omega)]; rfl
def Nt (cx : Cx) (S : St) (b : Nat) : Option (List (Value × Bool × List C)) := match S.look cx b with
 | some (.map es)=>some es
 | some (.mapd es)=>some es
 | _=>none
theorem Mo (hs : Sim cx base ρ S w) {b : Nat} {es : List (Value × Bool × List C)} (h : Nt cx S b = some es) :
  ∃ y arr clock B0,ρ b=some y∧w.heap[y.1]?=some (.map arr clock)∧arr.size=es.length∧S.get b=some B0∧EntD ρ w es arr:=by
 unfold Nt at h
 split at h
 ·rename_i es' hl
  simp only [Option.some.injEq] at h; subst h
  obtain ⟨y,hy,⟨arr,hh,hsz,hent⟩,hg,_⟩:=Dk hs hl
  exact ⟨y,arr,_,_,hy,hh,hsz,hg,fun i p e h1 h2=>⟨(hent i p e h1 h2).1,(hent i p e h1 h2).2.1⟩⟩
 ·rename_i es' hl
  simp only [Option.some.injEq] at h; subst h
  obtain ⟨y,hy,⟨arr,clock,hh,hsz,hent⟩,hg,_⟩:=Dk hs hl
  exact ⟨y,arr,clock,_,hy,hh,hsz,hg,hent⟩
 ·cases h
theorem Cp (hs : Sim cx base ρ S w) {b : Nat} {y : Nat × Nat} {es' : List (Value × Bool × List C)} {arr arr' : Array MapEntry} {clock clock' : Nat} {B0 : Blk} (hy : ρ b = some y) (hh : w.heap[y.1]? = some (.map arr clock)) (hget : S.get b = some B0) (hsz : arr'.size = es'.length)
  (hent:EntD ρ w es' arr') (hput:S.put cx b (some (.mapd es'))=some S') :
  Evo cx ρ S w ρ S' (w.putObj y.1 (.map arr' clock'))∧Sim cx base ρ S' (w.putObj y.1 (.map arr' clock')):=by
 have hgro:Gro w (w.putObj y.1 (.map arr' clock')):=Ff hh (fun _ _ _ h=>by cases h)
 exact Xw hs hget hy hgro (Yg _ _ _) (fun x hx=>World.putObj_heap_other hx) (fun B1 hB1=>by
  injection hB1 with hB1; subst hB1
  exact ⟨arr',clock',World.putObj_heap_same (Gg hh),hsz,fun i p e h1 h2=>⟨(hent i p e h1 h2).1,V1.mono (Jf.refl _) hgro (hent i p e h1 h2).2⟩⟩) hput
def Rb (P:Program) (cx:Cx) (S:St) (env:Gv) (t:TypeId) (x y:Operand):Option St:=
 match P.underlying t,aop env x,Ub env y with
 | some (.map kt _), some (.v false [.m b]), some k => match Nt cx S b with
  | some es => bif Vz P es.isEmpty kt k then match Af P kt k (es.map (·.1)) with
    | some (some i)=>S.put cx b (some (.mapd (es.eraseIdx i)))
    | some none=>S.put cx b (some (.mapd es))
    | none=>none
   else none
  | none=>none
 | _,_,_=>none
theorem entD_erase {es:List (Value × Bool × List C)} {arr:Array MapEntry} (h:EntD ρ w es arr) (i:Nat):EntD ρ w (es.eraseIdx i) (arr.eraseIdxIfInBounds i):=fun j p en h1 h2=>by
 rw [List.getElem?_eraseIdx] at h1
 have h3:(arr.eraseIdxIfInBounds i).toList=arr.toList.eraseIdx i:=by simp
 rw [← Array.getElem?_toList,h3,List.getElem?_eraseIdx,Array.getElem?_toList,Array.getElem?_toList] at h2
 by_cases hj:j < i
 ·rw [if_pos hj] at h1 h2; exact h j p en h1 h2
 ·rw [if_neg hj] at h1 h2; exact h (j + 1) p en h1 h2
theorem aDelete_ok (hs : Sim cx base ρ S w) {o : Oper} {t t2 : TypeId} {x y : Operand} (hop : o.op = .call { callee := .builtin .delete, args := #[x, y], argTypes := #[t, t2] }) (ho : Hb ρ w env e o.op.operands.toList) (h : Rb P cx S env t x y = some S') :
  Hi cx base ρ S w .u S' ((execOp (ev e) o).run P w):=by
 have hmx:x ∈ o.op.operands.toList:=by simp [hop,Op.operands,Call.operands]
 have hmy:y ∈ o.op.operands.toList:=by simp [hop,Op.operands,Call.operands]
 have hexec:∀ v w',(Builtin.delete_ #[t,t2] o.type #[ev e x,ev e y]).run P w=.ok v w'→(execOp (ev e) o).run P w=.ok (.value v) w':=fun v w' hr=>by
  simp only [execOp,hop,resolve,invoke,builtin,Sem.run_bind,Sem.run_pure,Result.andThen_ok,List.map_toArray,List.map_cons,List.map_nil,hr]
 unfold Rb at h
 split at h
 ·rename_i kt et b k hu hx hy
  split at h
  ·rename_i es hm
   have hk:=Kf hy ho hmy
   obtain ⟨q,hq,hxv⟩:=V1.one (Qa hx ho hmx)
   obtain ⟨q',arr,clock,B0,hq',hh,hsz,hget,hent⟩:=Mo hs hm
   rw [hq] at hq'; injection hq' with hq'; subst hq'
   cases hko:Vz P es.isEmpty kt k with
   | false=>rw [hko] at h; cases h
   | true=>
    rw [hko] at h; simp only [cond_true] at h
    rw [← emp_eq hsz] at hko
    have hkr:=Vp hko w
    have hkeys:=Pf hsz hent
    rw [← hkeys] at h
    split at h
    ·rename_i i hix
     obtain ⟨r',h1,h2,h3⟩:=Kn hix w
     cases r' with
     | none=>cases h2
     | some jv=>
      obtain ⟨j,v⟩:=jv
      simp only [Option.map_some,Option.some.injEq] at h2
      subst h2
      have hil:i < es.length:=by
       have:=h3 i v rfl
       simp only [Option.map_eq_some_iff] at this
       obtain ⟨en,hen,_⟩:=this
       have:=(List.getElem?_eq_some_iff.1 hen).1
       simp at this; omega
      have hsz2:(arr.eraseIdxIfInBounds i).size=(es.eraseIdx i).length:=by
       have h3:(arr.eraseIdxIfInBounds i).toList=arr.toList.eraseIdx i:=by simp
       rw [← Array.length_toList,h3,List.length_eraseIdx,List.length_eraseIdx,Array.length_toList,hsz]
      obtain ⟨ev',sm⟩:=Cp (clock':=clock) hs hq hh hget hsz2 (entD_erase hent i) h
      refine ⟨undef,_,ρ,.inl ?_,ev',sm,rfl⟩
      refine hexec _ _ ?_
      rw [hxv,hk]
      simp [Builtin.delete_,run_underlying hu,Sem.run_bind,Result.andThen,Qy hh rfl,hkr,h1,Kz hh rfl,undef]
    ·rename_i hix
     obtain ⟨r',h1,h2,h3⟩:=Kn hix w
     cases r' with
     | some jv=>cases h2
     | none=>
      obtain ⟨ev',sm⟩:=Cp (clock':=clock) hs hq hh hget hsz hent h
      refine ⟨undef,_,ρ,.inl ?_,ev',sm,rfl⟩
      refine hexec _ _ ?_
      rw [hxv,hk]
      simp [Builtin.delete_,run_underlying hu,Sem.run_bind,Result.andThen,Qy hh rfl,hkr,h1,Kz hh rfl,undef]
    ·cases h
  ·cases h
 ·cases h
def Lc (P:Program) (cx:Cx) (S:St) (env:Gv) (t:TypeId) (x y:Operand) (ok:Bool):Option AV:=
 match P.underlying t,aop env x,Ub env y with
 | some (.map kt et), some (.v false [.m b]), some k => match Nt cx S b with
  | some es => bif Vz P es.isEmpty kt k then
   match Af P kt k (es.map (·.1)) with
   | some (some i)=>(es[i]?).map fun p=>bif ok then .t [(p.2.1,p.2.2),(false,[.k (.bool true)])] else .v p.2.1 p.2.2
   | some none=>(De P et).map fun p=>bif ok then .t [(p.1,p.2),(false,[.k (.bool false)])] else .v p.1 p.2
   | none=>none
   else none
  | none=>none
 | _,_,_=>none
theorem aLookupD_ok (hs:Sim cx base ρ S w) {o:Oper} {t:TypeId} {x y:Operand} {ok:Bool} {a:AV} (hop:o.op=.lookup t x y ok) (ho:Hb ρ w env e o.op.operands.toList) (h:Lc P cx S env t x y ok=some a):Hi cx base ρ S w a S ((execOp (ev e) o).run P w):=by
 unfold Lc at h
 split at h
 ·rename_i kt et b k hu hx hy
  split at h
  ·rename_i es hm
   have hk:=Kf hy ho (by simp [hop,Op.operands])
   obtain ⟨q,hq,hxv⟩:=V1.one (Qa hx ho (by simp [hop,Op.operands]))
   obtain ⟨q',arr,clock,B0,hq',hh,hsz,hget,hent⟩:=Mo hs hm
   rw [hq] at hq'; injection hq' with hq'; subst hq'
   cases hko:Vz P es.isEmpty kt k with
   | false=>rw [hko] at h; cases h
   | true=>
    rw [hko] at h; simp only [cond_true] at h
    rw [← emp_eq hsz] at hko
    have hkr:=Vp hko w
    have hkeys:=Pf hsz hent
    rw [← hkeys] at h
    have hm : ∀ (r : Option (Nat × Value)), (Instr.findKey kt k arr.toList).run P w = .ok r w → ∀ v ok', (r = none ∧ ok' = false ∧ (zeroValue et).run P w = .ok v w ∨ ∃ i, r = some (i, v) ∧ ok' = true) →
      (execOp (ev e) o).run P w=.ok (.value (if ok=true then .tuple #[v,.bool ok'] else v)) w:=by
     intro r hr v ok' hcase
     rcases hcase with ⟨rfl,rfl,hz⟩ | ⟨i,rfl,rfl⟩
     ·cases ok <;> simp [execOp,hop,hxv,hk,Instr.lookup,run_underlying hu,Sem.run_bind,Result.andThen,hkr,hr,hz,Qy hh rfl]
     ·cases ok <;> simp [execOp,hop,hxv,hk,Instr.lookup,run_underlying hu,Sem.run_bind,Result.andThen,hkr,hr,Qy hh rfl]
    split at h
    ·rename_i i hix
     obtain ⟨r',h1,h2,h3⟩:=Kn hix w
     cases r' with
     | none=>cases h2
     | some jv=>
      obtain ⟨j,v⟩:=jv
      simp only [Option.map_some,Option.some.injEq] at h2
      subst h2
      have h4:=h3 i v rfl
      simp only [Option.map_eq_some_iff] at h4 h
      obtain ⟨en,hen,rfl⟩:=h4
      obtain ⟨p,hp,rfl⟩:=h
      rw [Array.getElem?_toList] at hen
      have hv:=(hent i p en hp hen).2
      refine Ti hs (hm _ h1 en.val true (.inr ⟨i,rfl,rfl⟩)) ?_
      cases ok with
      | true=>exact ⟨[en.val,.bool true],rfl,.cons hv (.cons (V1.of ⟨rfl,rfl⟩) .nil)⟩
      | false=>exact hv
    ·rename_i hix
     obtain ⟨r',h1,h2,h3⟩:=Kn hix w
     cases r' with
     | some jv=>cases h2
     | none=>
      simp only [Option.map_eq_some_iff] at h
      obtain ⟨p,hp,rfl⟩:=h
      obtain ⟨z,hz,hzv⟩:=Sp hp
      refine Ti hs (hm _ h1 z false (.inl ⟨rfl,rfl,hz w⟩)) ?_
      cases ok with
      | true=>exact ⟨[z,.bool false],rfl,.cons (hzv ρ w) (.cons (V1.of ⟨rfl,rfl⟩) .nil)⟩
      | false=>exact hzv ρ w
    ·cases h
  ·cases h
 ·cases h
def Ur (P:Program) (cx:Cx) (S:St) (env:Gv) (t:TypeId) (x y z:Operand):Option St:=
 match P.underlying t,aop env x,Ub env y,aop env z with
 | some (.map kt _), some (.v false [.m b]), some k, some (.v g cs) => match Nt cx S b with
  | some es => bif Vz P false kt k then match Af P kt k (es.map (·.1)) with
    | some (some i) => match es[i]? with
     | some p=>bif Instr.sameBits 10000 p.1 k then S.put cx b (some (.mapd (es.set i (k,g,cs)))) else none
     | none=>none
    | some none=>S.put cx b (some (.mapd (es ++ [(k,g,cs)])))
    | none=>none
   else none
  | _=>none
 | _,_,_,_=>none
theorem Pz (hs:Sim cx base ρ S w) {o:Oper} {t:TypeId} {x y z:Operand} (hop:o.op=.mapUpdate t x y z ∨ o.op=.insert t x y z) (ho:Hb ρ w env e o.op.operands.toList) (h:Ur P cx S env t x y z=some S'):Hi cx base ρ S w .u S' ((execOp (ev e) o).run P w):=by
 have hm:x ∈ o.op.operands.toList∧y ∈ o.op.operands.toList∧z ∈ o.op.operands.toList:=by rcases hop with hop | hop <;> simp [hop,Op.operands]
 unfold Ur at h
 split at h
 ·rename_i kt et b k g cs hu hx hy hz
  split at h
  ·rename_i es hmo
   have hk:=Kf hy ho hm.2.1
   obtain ⟨q,hq,hxv⟩:=V1.one (Qa hx ho hm.1)
   have hzr:V1 ρ w (g,cs) (ev e z):=Qa hz ho hm.2.2
   obtain ⟨q',arr,clock,B0,hq',hh,hsz,hget,hent⟩:=Mo hs hmo
   rw [hq] at hq'; injection hq' with hq'; subst hq'
   cases hko:Vz P false kt k with
   | false=>rw [hko] at h; cases h
   | true=>
    rw [hko] at h; simp only [cond_true] at h
    have hkr:=Vp hko w
    have hkeys:=Pf hsz hent
    rw [← hkeys] at h
    split at h
    ·rename_i i hix
     obtain ⟨r',h1,h2,h3⟩:=Kn hix w
     cases r' with
     | none=>cases h2
     | some jv=>
      obtain ⟨j,v⟩:=jv
      simp only [Option.map_some,Option.some.injEq] at h2
      subst h2
      split at h
      ·rename_i p hp
       cases hsb:Instr.sameBits 10000 p.1 k with
       | false=>rw [hsb] at h; cases h
       | true=>
        rw [hsb] at h; simp only [cond_true] at h
        have h4:=h3 i v rfl
        simp only [Option.map_eq_some_iff] at h4
        obtain ⟨en,hen,rfl⟩:=h4
        rw [Array.getElem?_toList] at hen
        obtain ⟨hek,_⟩:=hent i p en hp hen
        have hil:i < es.length:=(List.getElem?_eq_some_iff.1 hp).1
        obtain ⟨ev',sm⟩:=Cp (clock':=clock) (arr':=arr.modify i fun e'=>{ e' with key:=k,val:=ev e z }) hs hq hh hget (by simp [hsz]) (fun j p' e' hp' he'=>by
         obtain ⟨e0,h5,rfl⟩:=Mb he'
         by_cases hij:i=j
         ·subst hij
          rw [List.getElem?_set_self hil] at hp'; injection hp' with hp'; subst hp'
          rw [if_pos rfl]
          exact ⟨rfl,hzr⟩
         ·rw [List.getElem?_set_ne hij] at hp'; rw [if_neg hij]; exact hent j p' e0 hp' h5) h
        refine ⟨undef,_,ρ,.inr ⟨?_,rfl⟩,ev',sm,rfl⟩
        have hkey:(((arr[i]?).map (·.key)).getD k)=p.1:=by rw [hen]; simp [hek]
        rcases hop with hop | hop <;> simp [execOp,hop,hxv,hk,Instr.mapUpdate,run_underlying hu,Sem.run_bind,Result.andThen,Qy hh rfl,hkr,h1,hkey,Instr.keyThatStays,hsb,Kz hh rfl]
      ·cases h
    ·rename_i hix
     obtain ⟨r',h1,h2,h3⟩:=Kn hix w
     cases r' with
     | some jv=>cases h2
     | none=>
      obtain ⟨ev',sm⟩:=Cp (clock':=clock + 1) (arr':=arr.push { key:=k,val:=ev e z,born:=clock }) hs hq hh hget (by simp [hsz]) (fun j p' e' hp' he'=>by
       rw [Array.getElem?_push] at he'
       by_cases hj:j=arr.size
       ·rw [if_pos hj] at he'; injection he' with he'; subst he'
        rw [List.getElem?_append_right (by omega),hj,hsz,Nat.sub_self] at hp'
        simp at hp'; subst hp'
        exact ⟨rfl,hzr⟩
       ·rw [if_neg hj] at he'
        have hjl:=(Array.getElem?_eq_some_iff.1 he').1
        rw [List.getElem?_append_left (by omega)] at hp'
        exact hent j p' e' hp' he') h
      refine ⟨undef,_,ρ,.inr ⟨?_,rfl⟩,ev',sm,rfl⟩
      rcases hop with hop | hop <;> simp [execOp,hop,hxv,hk,Instr.mapUpdate,run_underlying hu,Sem.run_bind,Result.andThen,Qy hh rfl,hkr,h1,Kz hh rfl]
    ·cases h
  ·cases h
 ·cases h

/-! ### Places of maps -/
def Vo (P:Program) (cx:Cx) (S:St) (env:Gv) (t:TypeId) (x y:Operand):Option (AV × St):=
 match P.underlying t,aop env x,Ub env y with
 | some (.map kt et), some (.v false [.m b]), some k => match S.look cx b with
  | some (.map es) => bif Vz P false kt k then match Af P kt k (es.map (·.1)) with
    | some (some i) => match es[i]? with
     | some p=>bif Instr.sameBits 10000 p.1 k then (S.put cx b (some (.map (es.set i (k,p.2))))).map fun S1=>(.t [p.2,(false,[.k (.int .i64 (Int.ofNat i))])],S1) else none
     | none=>none
    | some none => match De P et with
     | some z=>(S.put cx b (some (.map (es ++ [(k,z)])))).map fun S1=>(.t [z,(false,[.k (.int .i64 (Int.ofNat es.length))])],S1)
     | none=>none
    | none=>none
   else none
  | _=>none
 | _,_,_=>none
theorem aMapEntry_ok (hs:Sim cx base ρ S w) {o:Oper} {t:TypeId} {x y:Operand} {a:AV} (hop:o.op=.mapEntry t x y) (ho:Hb ρ w env e o.op.operands.toList) (h:Vo P cx S env t x y=some (a,S')):Hi cx base ρ S w a S' ((execOp (ev e) o).run P w):=by
 have hm:x ∈ o.op.operands.toList∧y ∈ o.op.operands.toList:=by simp [hop,Op.operands]
 unfold Vo at h
 split at h
 ·rename_i kt et b k hu hx hy
  split at h
  ·rename_i es hlook
   have hk:=Kf hy ho hm.2
   obtain ⟨q,hq,hxv⟩:=V1.one (Qa hx ho hm.1)
   obtain ⟨q',arr,hq',hh,hsz,hget,hent⟩:=Lp hs hlook
   rw [hq] at hq'; injection hq' with hq'; subst hq'
   cases hko:Vz P false kt k with
   | false=>rw [hko] at h; cases h
   | true=>
    rw [hko] at h; simp only [cond_true] at h
    have hkr:=Vp hko w
    have hkeys:=Oy hsz hent
    rw [← hkeys] at h
    split at h
    ·rename_i i hix
     obtain ⟨r',h1,h2,h3⟩:=Kn hix w
     cases r' with
     | none=>cases h2
     | some jv=>
      obtain ⟨j,v⟩:=jv
      simp only [Option.map_some,Option.some.injEq] at h2
      subst h2
      split at h
      ·rename_i p hp
       cases hsb:Instr.sameBits 10000 p.1 k with
       | false=>rw [hsb] at h; cases h
       | true=>
        rw [hsb] at h; simp only [cond_true,Option.map_eq_some_iff,Prod.mk.injEq] at h
        obtain ⟨S1,hput,rfl,rfl⟩:=h
        have h4:=h3 i v rfl
        simp only [Option.map_eq_some_iff] at h4
        obtain ⟨en,hen,rfl⟩:=h4
        rw [Array.getElem?_toList] at hen
        obtain ⟨hek,hev,heb⟩:=hent i p en hp hen
        have hil:i < es.length:=(List.getElem?_eq_some_iff.1 hp).1
        obtain ⟨ev',sm⟩:=Cr (arr':=arr.modify i fun e'=>{ e' with key:=k }) hs hq hh hget (by simp [hsz]) (fun j p' e' hp' he'=>by
         obtain ⟨e0,h5,rfl⟩:=Mb he'
         by_cases hij:i=j
         ·subst hij
          rw [List.getElem?_set_self hil] at hp'; injection hp' with hp'; subst hp'
          rw [if_pos rfl]
          have h6:=hent i p e0 hp h5
          exact ⟨rfl,h6.2.1,h6.2.2⟩
         ·rw [List.getElem?_set_ne hij] at hp'; rw [if_neg hij]; exact hent j p' e0 hp' h5) hput
        have hgro:Gro w (w.putObj q.1 (.map (arr.modify i fun e'=>{ e' with key:=k }) (arr.modify i fun e'=>{ e' with key:=k }).size)):=ev'.gro
        refine ⟨.tuple #[en.val,.int .i64 (Int.ofNat i)],_,ρ,.inl ?_,ev',sm,⟨[en.val,.int .i64 (Int.ofNat i)],rfl,.cons (V1.mono (Jf.refl _) hgro hev) (.cons (V1.of ⟨rfl,rfl⟩) .nil)⟩⟩
        have hkey:(((arr[i]?).map (·.key)).getD k)=p.1:=by rw [hen]; simp [hek]
        have hsize:(arr.modify i fun e'=>{ e' with key:=k }).size=arr.size:=by simp
        rw [hsize]
        simp [execOp,hop,hxv,hk,Instr.mapEntry,run_underlying hu,Sem.run_bind,Result.andThen,Qy hh rfl,hkr,h1,hkey,Instr.keyThatStays,hsb,Kz hh rfl,goInt]
        rw [hen]; simp [heb]
      ·cases h
    ·rename_i hix
     obtain ⟨r',h1,h2,h3⟩:=Kn hix w
     cases r' with
     | some jv=>cases h2
     | none=>
      split at h
      ·rename_i z hz
       simp only [Option.map_eq_some_iff,Prod.mk.injEq] at h
       obtain ⟨S1,hput,rfl,rfl⟩:=h
       obtain ⟨zv,hzr,hzv⟩:=Sp hz
       obtain ⟨ev',sm⟩:=Cr (arr':=arr.push { key:=k,val:=zv,born:=arr.size }) hs hq hh hget (by simp [hsz]) (fun j p' e' hp' he'=>by
        rw [Array.getElem?_push] at he'
        by_cases hj:j=arr.size
        ·rw [if_pos hj] at he'; injection he' with he'; subst he'
         rw [List.getElem?_append_right (by omega),hj,hsz,Nat.sub_self] at hp'
         simp at hp'; subst hp'
         exact ⟨rfl,hzv ρ w,hj.symm⟩
        ·rw [if_neg hj] at he'
         have hjl:=(Array.getElem?_eq_some_iff.1 he').1
         rw [List.getElem?_append_left (by omega)] at hp'
         exact hent j p' e' hp' he') hput
       refine ⟨.tuple #[zv,.int .i64 (Int.ofNat es.length)],_,ρ,.inl ?_,ev',sm,⟨[zv,.int .i64 (Int.ofNat es.length)],rfl,.cons (hzv ρ _) (.cons (V1.of ⟨rfl,rfl⟩) .nil)⟩⟩
       have hsize:(arr.push { key:=k,val:=zv,born:=arr.size }).size=arr.size + 1:=by simp
       rw [hsize]
       simp [execOp,hop,hxv,hk,Instr.mapEntry,run_underlying hu,Sem.run_bind,Result.andThen,Qy hh rfl,hkr,h1,hzr,Kz hh rfl,goInt,hsz]
      ·cases h
    ·cases h
  ·cases h
 ·cases h
def Yk (cx:Cx) (S:St) (env:Gv) (x y z:Operand):Option St:=
 match aop env x,Ub env y,aop env z with
 | some (.v false [.m b]), some (.int .i64 n), some (.v g cs) => match S.look cx b with
  | some (.map es) => bif decide (0 ≤ n) then match es[n.toNat]? with
    | some p=>S.put cx b (some (.map (es.set n.toNat (p.1,g,cs))))
    | none=>none
   else none
  | _=>none
 | _,_,_=>none
theorem Nj (hs:Sim cx base ρ S w) {o:Oper} {t:TypeId} {x y z:Operand} (hop:o.op=.entryStore t x y z) (ho:Hb ρ w env e o.op.operands.toList) (h:Yk cx S env x y z=some S'):Hi cx base ρ S w .u S' ((execOp (ev e) o).run P w):=by
 have hm:x ∈ o.op.operands.toList∧y ∈ o.op.operands.toList∧z ∈ o.op.operands.toList:=by simp [hop,Op.operands]
 unfold Yk at h
 split at h
 ·rename_i b n g cs hx hy hz
  split at h
  ·rename_i es hlook
   have hk:=Kf hy ho hm.2.1
   obtain ⟨q,hq,hxv⟩:=V1.one (Qa hx ho hm.1)
   have hzr:V1 ρ w (g,cs) (ev e z):=Qa hz ho hm.2.2
   obtain ⟨q',arr,hq',hh,hsz,hget,hent⟩:=Lp hs hlook
   rw [hq] at hq'; injection hq' with hq'; subst hq'
   cases hg:decide (0 ≤ n) with
   | false=>rw [hg] at h; cases h
   | true=>
    rw [hg] at h; simp only [cond_true] at h
    have hn0:=of_decide_eq_true hg
    obtain ⟨i,rfl⟩:=Int.eq_ofNat_of_zero_le hn0
    simp only [Int.toNat_natCast] at h
    split at h
    ·rename_i p hp
     have hil:i < es.length:=(List.getElem?_eq_some_iff.1 hp).1
     have hia:i < arr.size:=by omega
     have hfind:arr.findIdx? (fun e=>(e.born:Int) == (i:Int))=some i:=by
      rw [Array.findIdx?_eq_some_iff_getElem]
      refine ⟨hia,?_,fun j hj=>?_⟩
      ·have := (hent i p arr[i] hp (Array.getElem?_eq_getElem hia)).2.2
       simp [this]
      ·have hjl : j < es.length := by omega
       have:=(hent j _ arr[j] (List.getElem?_eq_getElem hjl) (Array.getElem?_eq_getElem (by omega))).2.2
       simp [this]; omega
     obtain ⟨ev',sm⟩:=Cr (arr':=arr.modify i fun e'=>{ e' with val:=ev e z }) hs hq hh hget (by simp [hsz]) (fun j p' e' hp' he'=>by
      obtain ⟨e0,h5,rfl⟩:=Mb he'
      by_cases hij:i=j
      ·subst hij
       rw [List.getElem?_set_self hil] at hp'; injection hp' with hp'; subst hp'
       rw [if_pos rfl]
       have h6:=hent i p e0 hp h5
       exact ⟨h6.1,hzr,h6.2.2⟩
      ·rw [List.getElem?_set_ne hij] at hp'; rw [if_neg hij]; exact hent j p' e0 hp' h5) h
     refine ⟨undef,_,ρ,.inr ⟨?_,rfl⟩,ev',sm,rfl⟩
     have hsize:(arr.modify i fun e'=>{ e' with val:=ev e z }).size=arr.size:=by simp
     rw [hsize]
     simp [execOp,hop,hxv,hk,Instr.entryStore,asInt,asIntOf,Sem.run_bind,Result.andThen,Qy hh rfl,hfind,Kz hh rfl]
    ·cases h
  ·cases h
 ·cases h
end
end
end Go.Proofs.Ytplaipkjhlkjgaa
