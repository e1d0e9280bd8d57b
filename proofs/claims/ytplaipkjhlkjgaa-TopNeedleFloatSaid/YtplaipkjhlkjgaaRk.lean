/- A machine of plain data: maps that are written and ranged over, and that the model does the same. No program is named here. -/
import Derived.Test.YtplaipkjhlkjgaaRj
namespace Go.Proofs.Ytplaipkjhlkjgaa
noncomputable section
open Go.RowKit
section
variable {cx:Cx} {base:Nat} {ρ:Rn} {S S':St} {w w':World} {env:Gv} {e:Env} {xs:List Operand} {P:Program}
theorem Lp (hs : Sim cx base ρ S w) {b : Nat} {es : List (Value × Bool × List C)} (h : S.look cx b = some (.map es)) :
  ∃ y arr,ρ b=some y∧w.heap[y.1]?=some (.map arr arr.size)∧arr.size=es.length∧S.get b=some (.map es)∧(∀ (i:Nat) (p:Value × Bool × List C) (e:MapEntry),es[i]?=some p→arr[i]?=some e→Oj ρ w i p e):=by
 obtain ⟨y,hy,⟨arr,hh,hsz,hent⟩,hg,_⟩:=Dk hs h
 exact ⟨y,arr,hy,hh,hsz,hg,hent⟩
theorem ment_mono {w w':World} (hg:Gro w w') {i:Nat} {p:Value × Bool × List C} {e:MapEntry} (h:Oj ρ w i p e):Oj ρ w' i p e:=⟨h.1,V1.mono (Jf.refl _) hg h.2.1,h.2.2⟩
theorem Cr (hs : Sim cx base ρ S w) {b : Nat} {y : Nat × Nat} {es es' : List (Value × Bool × List C)} {arr arr' : Array MapEntry} (hy : ρ b = some y) (hh : w.heap[y.1]? = some (.map arr arr.size)) (hget : S.get b = some (.map es)) (hsz : arr'.size = es'.length)
  (hent:∀ (i:Nat) (p:Value × Bool × List C) (e:MapEntry),es'[i]?=some p→arr'[i]?=some e→Oj ρ w i p e) (hput:S.put cx b (some (.map es'))=some S') :
  Evo cx ρ S w ρ S' (w.putObj y.1 (.map arr' arr'.size))∧Sim cx base ρ S' (w.putObj y.1 (.map arr' arr'.size)):=by
 have hgro:Gro w (w.putObj y.1 (.map arr' arr'.size)):=Ff hh (fun _ _ _ h=>by cases h)
 exact Xw hs hget hy hgro (Yg _ _ _) (fun x hx=>World.putObj_heap_other hx) (fun B1 hB1=>by
  injection hB1 with hB1; subst hB1
  exact ⟨arr',World.putObj_heap_same (Gg hh),hsz,fun i p e h1 h2=>ment_mono hgro (hent i p e h1 h2)⟩) hput
theorem Mb {arr:Array MapEntry} {f:MapEntry→MapEntry} {i j:Nat} {e:MapEntry} (h:(arr.modify i f)[j]?=some e):∃ e0,arr[j]?=some e0∧e=if i=j then f e0 else e0:=by
 rw [Array.getElem?_modify] at h
 by_cases hij:i=j
 ·rw [if_pos hij] at h
  simp only [Option.map_eq_some_iff] at h
  obtain ⟨e0,h1,h2⟩:=h
  exact ⟨e0,h1,by rw [if_pos hij]; exact h2.symm⟩
 ·rw [if_neg hij] at h; exact ⟨e,h,by rw [if_neg hij]⟩
def Xp (P:Program) (cx:Cx) (S:St) (env:Gv) (t:TypeId) (x y z:Operand):Option St:=
 match P.underlying t,aop env x,Ub env y,aop env z with
 | some (.map kt _), some (.v false [.m b]), some k, some (.v g cs) => match S.look cx b with
  | some (.map es) => bif Vz P false kt k then match Af P kt k (es.map (·.1)) with
    | some (some i) => match es[i]? with
     | some p=>bif Instr.sameBits 10000 p.1 k then S.put cx b (some (.map (es.set i (k,g,cs)))) else none
     | none=>none
    | some none=>S.put cx b (some (.map (es ++ [(k,g,cs)])))
    | none=>none
   else none
  | _=>none
 | _,_,_,_=>none
theorem Mw (hs:Sim cx base ρ S w) {o:Oper} {t:TypeId} {x y z:Operand} (hop:o.op=.mapUpdate t x y z ∨ o.op=.insert t x y z) (ho:Hb ρ w env e o.op.operands.toList) (h:Xp P cx S env t x y z=some S'):Hi cx base ρ S w .u S' ((execOp (ev e) o).run P w):=by
 have hm:x ∈ o.op.operands.toList∧y ∈ o.op.operands.toList∧z ∈ o.op.operands.toList:=by rcases hop with hop | hop <;> simp [hop,Op.operands]
 unfold Xp at h
 split at h
 ·rename_i kt et b k g cs hu hx hy hz
  split at h
  ·rename_i es hlook
   have hk:=Kf hy ho hm.2.1
   obtain ⟨q,hq,hxv⟩:=V1.one (Qa hx ho hm.1)
   have hzr:V1 ρ w (g,cs) (ev e z):=Qa hz ho hm.2.2
   obtain ⟨q',arr,hq',hh,hsz,hget,hent⟩:=Lp hs hlook
   rw [hq] at hq'; injection hq' with hq'; subst hq'
   cases hko:Vz P false kt k with
   | false=>rw [hko] at h; cases h
   | true=>
    rw [hko] at h; simp only [cond_true] at h
    have hkr:=Vp hko w
    have hkeys:=Oy hsz hent
    rw [← hkeys] at h
    split at h
    ·rename_i i hix
     obtain ⟨r',h1,h2,h3⟩:=Kn hix w
     cases r' with
     | none=>cases h2
     | some jv=>
      obtain ⟨j,v⟩:=jv
      simp only [Option.map_some,Option.some.injEq] at h2
      subst h2
      split at h
      ·rename_i p hp
       cases hsb:Instr.sameBits 10000 p.1 k with
       | false=>rw [hsb] at h; cases h
       | true=>
        rw [hsb] at h; simp only [cond_true] at h
        have h4:=h3 i v rfl
        simp only [Option.map_eq_some_iff] at h4
        obtain ⟨en,hen,rfl⟩:=h4
        rw [Array.getElem?_toList] at hen
        obtain ⟨hek,_,_⟩:=hent i p en hp hen
        have hil:i < es.length:=(List.getElem?_eq_some_iff.1 hp).1
        obtain ⟨ev',sm⟩:=Cr (arr':=arr.modify i fun e'=>{ e' with key:=k,val:=ev e z }) hs hq hh hget (by simp [hsz]) (fun j p' e' hp' he'=>by
         obtain ⟨e0,h5,rfl⟩:=Mb he'
         by_cases hij:i=j
         ·subst hij
          rw [List.getElem?_set_self hil] at hp'; injection hp' with hp'; subst hp'
          rw [if_pos rfl]
          have h6:=hent i p e0 hp h5
          exact ⟨rfl,hzr,h6.2.2⟩
         ·rw [List.getElem?_set_ne hij] at hp'; rw [if_neg hij]; exact hent j p' e0 hp' h5) h
        refine ⟨undef,_,ρ,.inr ⟨?_,rfl⟩,ev',sm,rfl⟩
        have hkey:(((arr[i]?).map (·.key)).getD k)=p.1:=by rw [hen]; simp [hek]
        have hsize:(arr.modify i fun e'=>{ e' with key:=k,val:=ev e z }).size=arr.size:=by simp
        rw [hsize]
        rcases hop with hop | hop <;> simp [execOp,hop,hxv,hk,Instr.mapUpdate,run_underlying hu,Sem.run_bind,Result.andThen,Qy hh rfl,hkr,h1,hkey,Instr.keyThatStays,hsb,Kz hh rfl]
      ·cases h
    ·rename_i hix
     obtain ⟨r',h1,h2,h3⟩:=Kn hix w
     cases r' with
     | some jv=>cases h2
     | none=>
      obtain ⟨ev',sm⟩:=Cr (arr':=arr.push { key:=k,val:=ev e z,born:=arr.size }) hs hq hh hget (by simp [hsz]) (fun j p' e' hp' he'=>by
       rw [Array.getElem?_push] at he'
       by_cases hj:j=arr.size
       ·rw [if_pos hj] at he'; injection he' with he'; subst he'
        rw [List.getElem?_append_right (by omega),hj,hsz,Nat.sub_self] at hp'
        simp at hp'; subst hp'
        exact ⟨rfl,hzr,hj.symm⟩
       ·rw [if_neg hj] at he'
        have hjl:=(Array.getElem?_eq_some_iff.1 he').1
        rw [List.getElem?_append_left (by omega)] at hp'
        exact hent j p' e' hp' he') h
      refine ⟨undef,_,ρ,.inr ⟨?_,rfl⟩,ev',sm,rfl⟩
      have hsize:(arr.push { key:=k,val:=ev e z,born:=arr.size }).size=arr.size + 1:=by simp
      rw [hsize]
      rcases hop with hop | hop <;> simp [execOp,hop,hxv,hk,Instr.mapUpdate,run_underlying hu,Sem.run_bind,Result.andThen,Qy hh rfl,hkr,h1,Kz hh rfl]
    ·cases h
  ·cases h
 ·cases h

/-! ### Ranges over maps -/
def Ou (P:Program) (cx:Cx) (S:St) (env:Gv) (t:TypeId) (x:Operand):Option (AV × St):=
 match P.underlying t,aop env x with
 | some (.map _ _), some (.v false [.m b]) => match S.look cx b with
  | some (.map es)=>some (.v false [.p S.n 0],S.new (.iter (some b) es.length [] es.length))
  | _=>none
 | some (.map _ _),some (.v false [.k (.map none)])=>some (.v false [.p S.n 0],S.new (.iter none 0 [] 0))
 | _,_=>none
theorem aRange_ok (hs:Sim cx base ρ S w) {o:Oper} {t:TypeId} {x:Operand} {a:AV} (hop:o.op=.range t x) (ho:Hb ρ w env e o.op.operands.toList) (h:Ou P cx S env t x=some (a,S')) (hN:∀ b,S.n ≤ b→b < S'.n→ρ b=none):Hi cx base ρ S w a S' ((execOp (ev e) o).run P w):=by
 unfold Ou at h
 split at h
 ·rename_i kt et b hu hx
  split at h
  ·rename_i es hlook
   simp only [Option.some.injEq,Prod.mk.injEq] at h
   obtain ⟨rfl,rfl⟩:=h
   obtain ⟨q,hq,hxv⟩:=V1.one (Qa hx ho (by simp [hop,Op.operands]))
   obtain ⟨q',arr,hq',hh,hsz,hget,hent⟩:=Lp hs hlook
   rw [hq] at hq'; injection hq' with hq'; subst hq'
   have hf:=hN S.n (Nat.le_refl _) (Nat.lt_succ_self _)
   refine Vw hs (o:=.mapIter (some q.1) arr.size #[] arr.size) hf ?_ ⟨some q.1,by rw [← hsz]; exact Qk _ _,rfl,q,Yq hf _ _ hq,rfl⟩ Az
   simp [execOp,hop,hxv,Instr.range,run_underlying hu,Sem.run_bind,Result.andThen,Qy hh rfl]
  ·cases h
 ·rename_i kt et hu hx
  simp only [Option.some.injEq,Prod.mk.injEq] at h
  obtain ⟨rfl,rfl⟩:=h
  have hxv:=(V1.one (Qa hx ho (by simp [hop,Op.operands]))).1
  have hf:=hN S.n (Nat.le_refl _) (Nat.lt_succ_self _)
  refine Vw hs (o:=.mapIter none 0 #[] 0) hf ?_ ⟨none,Qk _ _,rfl,rfl⟩ Az
  simp [execOp,hop,hxv,Instr.range,run_underlying hu,Sem.run_bind,Result.andThen]
 ·cases h
def aEntry (cx:Cx) (S:St) (env:Gv) (x:Operand):Option AV:=
 match aop env x with
 | some (.v false [.p r 0]) => match S.look cx r with
  | some (.iter (some m) _ seen last) => match S.look cx m, seen.getLast? with
   | some (.map es), some i => bif Nat.beq es.length last then match es[i]? with
     | some p=>(of1 p.1).map fun q=>.t [q,p.2]
     | none=>none
    else none
   | _,_=>none
  | _=>none
 | _=>none
theorem find_born {arr:Array MapEntry} {i:Nat} {en:MapEntry} (hb:∀ (j:Nat) (e:MapEntry),arr[j]?=some e→e.born=j) (hi:arr[i]?=some en):arr.find? (·.born == i)=some en:=by
 rw [← Array.find?_toList]
 have hil:i < arr.toList.length:=by simpa using (Array.getElem?_eq_some_iff.1 hi).1
 rw [List.find?_eq_some_iff_getElem]
 refine ⟨by simp [hb i en hi],i,hil,by have:=(Array.getElem?_eq_some_iff.1 hi).2; simpa using this,fun j hj=>?_⟩
 have hjl:j < arr.size:=by simp at hil; omega
 have:=hb j arr[j] (Array.getElem?_eq_getElem hjl)
 simp [this]; omega
theorem aEntry_ok (hs:Sim cx base ρ S w) {o:Oper} {x:Operand} {a:AV} (hop:o.op=.entry x) (ho:Hb ρ w env e o.op.operands.toList) (h:aEntry cx S env x=some a):Hi cx base ρ S w a S ((execOp (ev e) o).run P w):=by
 unfold aEntry at h
 split at h
 ·rename_i r hx
  split at h
  ·rename_i m since seen last hl
   split at h
   ·rename_i es i hm hi
    cases hg:Nat.beq es.length last with
    | false=>rw [hg] at h; cases h
    | true=>
     rw [hg] at h; simp only [cond_true] at h
     have hlast:=Nat.eq_of_beq_eq_true hg
     split at h
     ·rename_i p hp
      simp only [Option.map_eq_some_iff] at h
      obtain ⟨q,hq,rfl⟩:=h
      obtain ⟨y,hy,hxv⟩:=V1.one (Qa hx ho (by simp [hop,Op.operands]))
      obtain ⟨y',hy',⟨mr,hh,h0,hmr⟩,_⟩:=Dk hs hl
      rw [hy] at hy'; injection hy' with hy'; subst hy'
      rw [h0] at hxv
      obtain ⟨z,hz,rfl⟩:=hmr
      obtain ⟨z',arr,hz',hh2,hsz,hget,hent⟩:=Lp hs hm
      rw [hz] at hz'; injection hz' with hz'; subst hz'
      have hil:i < arr.size:=by rw [hsz]; exact (List.getElem?_eq_some_iff.1 hp).1
      have hen:=Array.getElem?_eq_getElem hil
      obtain ⟨hk,hv,hb⟩:=hent i p _ hp hen
      have hborn:∀ (j:Nat) (e:MapEntry),arr[j]?=some e→e.born=j:=fun j e he=>by
       have hjl:j < es.length:=by rw [← hsz]; exact (Array.getElem?_eq_some_iff.1 he).1
       exact (hent j _ e (List.getElem?_eq_getElem hjl) he).2.2
      have hf:=find_born hborn hen
      have hback:seen.toArray.back?=some i:=by rw [List.back?_toArray]; exact hi
      have hclock:(arr.size != last)=false:=by rw [hsz,hlast]; simp
      refine Ti (v:=.tuple #[arr[i].key,arr[i].val]) hs ?_ ⟨[arr[i].key,arr[i].val],rfl,.cons (by rw [hk]; exact Lx hq) (.cons hv .nil)⟩
      simp only [execOp,hop,hxv,Instr.entry,Sem.run_bind,Qy hh rfl,Result.andThen_ok,hback,Qy hh2 rfl,hclock,Bool.false_eq_true,if_false,Sem.run_pure,hf]
     ·cases h
   ·cases h
  ·cases h
 ·cases h
def leftIx (n:Nat) (seen:List Nat):List Nat:=(List.range n).filter fun i=>!seen.contains i
def Dr (S : St) (cx : Cx) (r m since : Nat) (seen : List Nat) (es : List (Value × Bool × List C)) : List Nat → Option (List (AV × St))
 | []=>some []
 | i :: is => match es[i]?, S.put cx r (some (.iter (some m) since (seen ++ [i]) es.length)), Dr S cx r m since seen es is with
  | some p, some S1, some l => match of1 p.1 with
   | some q=>some ((.t [(false,[.k (.bool true)]),q,p.2],S1) :: l)
   | none=>none
  | _,_,_=>none
def Iy (cx:Cx) (S:St) (env:Gv) (x:Operand):Option (List (AV × St)):=
 match aop env x with
 | some (.v false [.p r 0]) => match S.look cx r with
  | some (.iter (some m) since seen last) => match S.look cx m with
   | some (.map es) => bif Nat.beq es.length since && Nat.beq es.length last then
     match leftIx es.length seen with
     | []=>some [(.t [(false,[.k (.bool false)])],S)]
     | l=>Dr S cx r m since seen es l
    else none
   | _=>none
  | some (.iter none _ _ _)=>some [(.t [(false,[.k (.bool false)])],S)]
  | _=>none
 | _=>none
theorem Pv {cx:Cx} {S:St} {r m since:Nat} {seen:List Nat} {es:List (Value × Bool × List C)}:∀ {is:List Nat} {l:List (AV × St)},Dr S cx r m since seen es is=some l→∀ i ∈ is,
  ∃ p S1 q,es[i]?=some p∧S.put cx r (some (.iter (some m) since (seen ++ [i]) es.length))=some S1∧of1 p.1=some q∧(.t [(false,[.k (.bool true)]),q,p.2],S1) ∈ l
 | [],l,_,i,hi=>by cases hi
 | j :: is,l,h,i,hi=>by
  simp only [Dr] at h
  split at h
  ·rename_i p S1 l' h1 h2 h3
   split at h
   ·rename_i q hq
    simp only [Option.some.injEq] at h; subst h
    rcases List.mem_cons.1 hi with rfl | hi
    ·exact ⟨p,S1,q,h1,h2,hq,by simp⟩
    ·obtain ⟨p', S1', q', a, b, c, d⟩ := Pv h3 i hi
     exact ⟨p',S1',q',a,b,c,by simp [d]⟩
   ·cases h
  ·cases h
theorem left_ents {arr : Array MapEntry} {n : Nat} {seen : List Nat} (hn : arr.size = n) (hb : ∀ (j : Nat) (e : MapEntry), arr[j]? = some e → e.born = j) :
  (arr.filter fun e=>!seen.toArray.contains e.born).toList.map (·.born)=leftIx n seen:=by
 rw [Array.toList_filter]
 have hm:arr.toList.map (·.born)=List.range n:=by
  apply List.ext_getElem?
  intro j
  rw [List.getElem?_map]
  rcases Nat.lt_or_ge j n with h | h
  ·have hj : j < arr.size := by omega
   rw [List.getElem?_eq_getElem (by simpa using hj),List.getElem?_range h]
   simp [hb j arr[j] (Array.getElem?_eq_getElem hj)]
  ·rw [List.getElem?_eq_none (by simp; omega),List.getElem?_eq_none (by simp; omega)]; rfl
 unfold leftIx
 rw [← hm,List.filter_map]
 congr 1
 apply List.filter_congr
 intro x _
 simp
theorem choose_run (w:World) {n:Nat} (hn:0 < n):∃ k w1,k < n∧(w1=w ∨ w1=w.drew)∧(choose (.mapNext n)).run P w=.ok k w1:=by
 rcases Nat.lt_or_ge 1 n with h | h
 ·refine ⟨w.tape w.drawn (.mapNext n) % n, w.drew, Nat.mod_lt _ hn, .inr rfl, ?_⟩
  have:Question.forced (.mapNext n)=false:=by simp [Question.forced]; omega
  show (if Question.forced (.mapNext n)=true then Result.ok 0 w else Result.ok (w.tape w.drawn (.mapNext n) % n) w.drew)=_
  rw [this]; rfl
 ·refine ⟨0, w, hn, .inl rfl, ?_⟩
  have:Question.forced (.mapNext n)=true:=by simp [Question.forced]; omega
  show (if Question.forced (.mapNext n)=true then Result.ok 0 w else Result.ok (w.tape w.drawn (.mapNext n) % n) w.drew)=_
  rw [this]; rfl
theorem aNext_ok (hs:Sim cx base ρ S w) {o:Oper} {x:Operand} {l:List (AV × St)} (hop:o.op=.next x false) (ho:Hb ρ w env e o.op.operands.toList) (h:Iy cx S env x=some l):∃ p ∈ l,Hi cx base ρ S w p.1 p.2 ((execOp (ev e) o).run P w):=by
  have hm:x ∈ o.op.operands.toList:=by simp [hop,Op.operands]
  unfold Iy at h
  split at h
  · rename_i r hx
    obtain ⟨y,hy,hxv⟩:=V1.one (Qa hx ho hm)
    split at h
    · rename_i m since seen last hl
      obtain ⟨y',hy',⟨mr,hh,h0,hmr⟩,hgr,hvr⟩:=Dk hs hl
      rw [hy] at hy'; injection hy' with hy'; subst hy'
      rw [h0] at hxv
      obtain ⟨z,hz,rfl⟩:=hmr
      split at h
      · rename_i es hlm
        obtain ⟨z',arr,hz',hh2,hsz,hget,hent⟩:=Lp hs hlm
        rw [hz] at hz'; injection hz' with hz'; subst hz'
        have hborn:∀ (j:Nat) (e:MapEntry),arr[j]?=some e→e.born=j:=fun j e he=>by
          have hjl:j < es.length:=by rw [← hsz]; exact (Array.getElem?_eq_some_iff.1 he).1
          exact (hent j _ e (List.getElem?_eq_getElem hjl) he).2.2
        cases hg:(Nat.beq es.length since && Nat.beq es.length last) with
        | false=>rw [hg] at h; cases h
        | true=>
          rw [hg] at h; simp only [cond_true] at h
          simp only [Bool.and_eq_true] at hg
          have hsince:=Nat.eq_of_beq_eq_true hg.1
          have hlast:=Nat.eq_of_beq_eq_true hg.2
          have hall:(!seen.toArray.isEmpty && !arr.isEmpty && arr.all (fun e=>e.born ≥ last))=false:=by
            cases ha:arr.isEmpty with
            | true=>simp
            | false=>
              have h0:0 < arr.size:=by
                rcases Nat.eq_zero_or_pos arr.size with h1 | h1
                · have : arr = #[] := Array.eq_empty_of_size_eq_zero h1
                  subst this; simp at ha
                · exact h1
              have:arr.all (fun e=>e.born ≥ last)=false:=by
                rw [Array.all_eq_false]
                refine ⟨0,h0,?_⟩
                have:=hborn 0 arr[0] (Array.getElem?_eq_getElem h0)
                simp only [this,decide_eq_true_eq]; omega
              rw [this]; simp
          have hlen:=left_ents (seen:=seen) hsz hborn
          generalize hleft:arr.filter (fun e=>!seen.toArray.contains e.born)=left at hlen
          have hmemL:∀ en ∈ left.toList,en ∈ arr.toList:=fun en hen=>by
            rw [← hleft,Array.toList_filter] at hen; exact (List.mem_filter.1 hen).1
          have hbl:∀ en ∈ left.toList,en.born < since:=fun en hen=>by
            obtain ⟨j,hj⟩:=List.getElem?_of_mem (hmemL en hen)
            rw [Array.getElem?_toList] at hj
            have:=hborn j en hj
            have:=(Array.getElem?_eq_some_iff.1 hj).1
            omega
          have hold:left.filter (fun e=>decide (e.born < since))=left:=by
            rw [Array.filter_eq_self]; intro a ha; simpa using hbl a (by simpa using ha)
          have hnew:left.filter (fun e=>decide (e.born ≥ since))=#[]:=by
            rw [Array.filter_eq_empty_iff]; intro a ha; have:=hbl a (by simpa using ha); simp; omega
          have hnext : (execOp (ev e) o).run P w = ((do
              let k ← choose (.mapNext ((if left.isEmpty then #[none] else #[]) ++ (left ++ #[]).map some:Array (Option MapEntry)).size)
              match ((if left.isEmpty then #[none] else #[]) ++ (left ++ #[]).map some:Array (Option MapEntry))[k]? with
              | some (some e) => do
                setObj y.1 (.mapIter (some z.1) since (seen.toArray.push e.born) arr.size)
                pure (.tuple #[.bool true,e.key,e.val])
              | some none=>pure (.tuple #[.bool false])
              | none => stuck "Next: no such candidate" : Sem Value) >>= fun v => (pure (.value v) : Sem Next)).run P w := by
            simp only [execOp,hop,hxv,Instr.next]
            simp only [Sem.run_bind,Qy hh rfl,Result.andThen_ok,Qy hh2 rfl,hall,Bool.false_eq_true,if_false,hleft,hold,hnew]
            rfl
          rw [hnext]
          split at h
          · rename_i hl0
            simp only [Option.some.injEq] at h; subst h
            have hle:left=#[]:=by
              rw [hl0] at hlen
              have:left.toList=[]:=List.map_eq_nil_iff.1 hlen
              exact Array.toList_eq_nil_iff.1 this
            subst hle
            refine ⟨_,List.mem_singleton.2 rfl,Ti (v:=.tuple #[.bool false]) hs ?_ ⟨[.bool false],rfl,.cons (V1.of ⟨rfl,rfl⟩) .nil⟩⟩
            have e1:((if (#[]:Array MapEntry).isEmpty=true then #[none] else #[]) ++ ((#[]:Array MapEntry) ++ #[]).map some:Array (Option MapEntry))=#[none]:=by simp
            have hc:(choose (.mapNext (#[none]:Array (Option MapEntry)).size)).run P w=.ok 0 w:=rfl
            rw [e1]
            simp only [Sem.run_bind,hc,Result.andThen_ok]
            rfl
          · rename_i hl0
            have hne:left.isEmpty=false:=by
              cases hb:left.isEmpty with
              | false=>rfl
              | true=>
                have:left=#[]:=by simpa using hb
                subst this
                exact absurd hlen.symm (by simpa using hl0)
            have hpos:0 < left.size:=by
              rcases Nat.eq_zero_or_pos left.size with h1 | h1
              · have : left = #[] := Array.eq_empty_of_size_eq_zero h1
                subst this; simp at hne
              · exact h1
            obtain ⟨k,w1,hk,hw1,hch⟩:=choose_run (P:=P) w hpos
            have hen:=Array.getElem?_eq_getElem hk
            have hmem:left[k].born ∈ leftIx es.length seen:=by
              rw [← hlen]; exact List.mem_map.2 ⟨left[k],by simp,rfl⟩
            obtain ⟨p,S1,q,hp,hput,hq,hin⟩:=Pv h _ hmem
            obtain ⟨j,hj⟩:=List.getElem?_of_mem (hmemL left[k] (by simp))
            rw [Array.getElem?_toList] at hj
            have hjb:=hborn j _ hj
            rw [hjb] at hp hput
            obtain ⟨hkey,hval,_⟩:=hent j p _ hp hj
            have hs1:Sim cx base ρ S w1:=by rcases hw1 with rfl | rfl; exact hs; exact hs.drew
            have hev1:Evo cx ρ S w ρ S w1:=by rcases hw1 with rfl | rfl; exact Evo.refl hs.cut; exact Ov hs.cut
            have hh1:w1.heap=w.heap:=by rcases hw1 with rfl | rfl <;> rfl
            have hhy:w1.heap[y.1]?=some (.mapIter (some z.1) since seen.toArray last):=by rw [hh1]; exact hh
            have hgro:Gro w1 (w1.putObj y.1 (.mapIter (some z.1) since (seen.toArray.push j) arr.size)):=Ff hhy (fun _ _ _ h=>by cases h)
            obtain ⟨ev',sm⟩:=Xw hs1 hgr hy hgro (Yg _ _ _) (fun x hx=>World.putObj_heap_other hx) (fun B1 hB1=>by
              injection hB1 with hB1; subst hB1
              exact ⟨some z.1,by rw [World.putObj_heap_same (Gg hhy),hsz]; simp,h0,z,hz,rfl⟩) hput
            obtain ⟨_,hn1,_,_⟩:=Dh hput
            refine ⟨_,hin,.tuple #[.bool true,left[k].key,left[k].val],_,ρ,.inl ?_,hev1.trans hs.cut ev' (fun b h1 h2=>by have h3:b < S1.n:=h2; omega),sm,⟨[.bool true,left[k].key,left[k].val],rfl,.cons (V1.of ⟨rfl,rfl⟩) (.cons (by rw [hkey]; exact Lx hq) (.cons (V1.mono (Jf.refl _) (hev1.gro.trans hgro) hval) .nil))⟩⟩
            have hsize:((if left.isEmpty=true then #[none] else #[]) ++ (left ++ #[]).map some:Array (Option MapEntry)).size=left.size:=by rw [hne]; simp
            have hgetk:((if left.isEmpty=true then #[none] else #[]) ++ (left ++ #[]).map some:Array (Option MapEntry))[k]?=some (some left[k]):=by rw [hne]; simp [hk]
            rw [hsize]
            simp only [Sem.run_bind,hch,hgetk,Kz hhy rfl,Result.andThen_ok,Sem.run_pure,hjb]
      · cases h
    · rename_i since seen last hl
      simp only [Option.some.injEq] at h; subst h
      obtain ⟨y',hy',⟨mr,hh,h0,hmr⟩,_⟩:=Dk hs hl
      rw [hy] at hy'; injection hy' with hy'; subst hy'
      rw [h0] at hxv
      have hmr':mr=none:=hmr
      subst hmr'
      refine ⟨_,List.mem_singleton.2 rfl,Ti (v:=.tuple #[.bool false]) hs ?_ ⟨[.bool false],rfl,.cons (V1.of ⟨rfl,rfl⟩) .nil⟩⟩
      simp [execOp,hop,hxv,Instr.next,Sem.run_bind,Qy hh rfl,Result.andThen]
    · cases h
  · cases h
end
end
end Go.Proofs.Ytplaipkjhlkjgaa
