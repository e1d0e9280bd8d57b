/- A machine of plain data: append, and that the model does the same. No program is named here. -/
import Derived.Test.YtplaipkjhlkjgaaRh
import Derived.Lib.AppendZerosOnto
namespace Go.Proofs.Ytplaipkjhlkjgaa
noncomputable section
open Go.RowKit Go.Lib
section
variable {cx:Cx} {base:Nat} {ρ:Rn} {S S':St} {w w':World} {env:Gv} {e:Env} {xs:List Operand} {P:Program}
def isSl : AV → Bool
 | .v false [.s _ _ _ _ _]=>true
 | .v false [.e _]=>true
 | .v false [.k (.slice none 0 0)]=>true
 | _=>false
def appTo (cx : Cx) (S : St) (el : TypeId) (bytes z n : Nat) (l : List C) : AV → Option (AV × St)
 | .v false [.k (.slice none 0 0)]=>bif Nat.ble (n * bytes) 140737488355328 && Nat.ble n 1099511627776 then some (.v false [.s S.n 0 n none z],S.new (.cells l el)) else none
 | .v false [.e true]=>bif Nat.ble (n * bytes) 140737488355328 && Nat.ble n 1099511627776 then some (.v false [.s S.n 0 n none z],S.new (.cells l el)) else none
 | .v false [.s b off len cap z2] => match S.look cx b with
  | some (.cells cs el2) => match segC cs off (len * z) with
   | some old => bif Nat.ble ((len + n) * bytes) 140737488355328 && Nat.ble (len + n) 1099511627776 && Nat.beq z2 z then
     match cap with
     | some c => bif Nat.ble (len + n) c then
       bif Nat.beq el2 el && Nat.ble (off + (len + n) * z) cs.length then
        (S.put cx b (some (.cells (cs.take (off + len * z) ++ l ++ cs.drop (off + len * z + n * z)) el))).map fun S1=>(.v false [.s b off (len + n) (some c) z],S1)
       else none
      else some (.v false [.s S.n 0 (len + n) none z],S.new (.cells (old ++ l) el))
     | none=>bif Nat.beq el2 el then (S.put cx b none).map fun S1=>(.v false [.s S.n 0 (len + n) none z],S1.new (.cells (old ++ l) el)) else none
    else none
   | none=>none
  | _=>none
 | _=>none
def aApp (P:Program) (cx:Cx) (S:St) (env:Gv) (t:TypeId) (x y:Operand):Option (AV × St):=
 match P.underlying t with
 | some (.slice el) => match P.info? el, De P el, aop env x, aop env y with
  | some ti, some (_, zc), some a, some c => match srcC cx S ti.size c with
   | some (n,l)=>bif Nat.beq zc.length ti.size && Nat.blt 0 ti.size then bif Nat.beq n 0 then (bif isSl a then some (a,S) else none) else appTo cx S el ti.bytes ti.size n l a else none
   | none=>none
  | _,_,_,_=>none
 | _=>none
theorem app_room (w : World) (t ty e : TypeId) (i : TypeInfo) (ht : P.underlying t = some (.slice e)) (hi : P.info? e = some i)
  (g off o sLen sCap:Nat) (cur:Array Value) (hg:w.heap[g]?=some (.cells cur e (0,0)))
  (a:Addr) (m c:Nat) (news:List Value) (hl:news.length=m * i.size) (hnews:∀ j u,news[j]?=some u→w.cell? (a.add j)=some u) (h1:∀ u ∈ news,u.oneCell'=true)
  (hroom:sLen + m ≤ sCap) (ho:off + sLen * i.size=o) (hfit:o + news.length ≤ cur.size) :
  (Builtin.append_ #[t, t] ty #[.slice (some ⟨g, off, none⟩) sLen sCap, .slice (some a) m c]).run P w =
   .ok (.slice (some ⟨g,off,none⟩) (sLen + m) sCap) (w.setRow g (cur.toList.take o ++ news ++ cur.toList.drop (o + news.length)).toArray):=by
 subst ho
 have hf:=run_firstCells_some (P:=P) w i.size m a m c news hl hnews
 have hst:=run_storeCells_at P g (off + sLen * i.size) e news 0 cur w hg (by simpa using hfit) h1
 simp only [Nat.add_zero] at hst
 have had:(⟨g,off,none⟩:Addr).add (sLen * i.size)=⟨g,off + sLen * i.size,none⟩:=Qr ..
 simp [Builtin.append_,run_underlying ht,sizeOf,typeInfo,hi,Builtin.lenOf,hroom,hf,had,hst]
theorem aApp_ok (hs:Sim cx base ρ S w) {o:Oper} {t:TypeId} {x y:Operand} {a:AV} (hop:o.op=.call { callee:=.builtin .append,args:=#[x,y],argTypes:=#[t,t] }) (ho:Hb ρ w env e o.op.operands.toList) (h:aApp P cx S env t x y=some (a,S')) (hN:∀ b,S.n ≤ b→b < S'.n→ρ b=none):Hi cx base ρ S w a S' ((execOp (ev e) o).run P w):=by
 have hmx:x ∈ o.op.operands.toList:=by simp [hop,Op.operands,Call.operands]
 have hmy:y ∈ o.op.operands.toList:=by simp [hop,Op.operands,Call.operands]
 have hexec:∀ v w',(Builtin.append_ #[t,t] o.type #[ev e x,ev e y]).run P w=.ok v w'→(execOp (ev e) o).run P w=.ok (.value v) w':=fun v w' hr=>by
  simp only [execOp,hop,resolve,invoke,builtin,Sem.run_bind,Sem.run_pure,Result.andThen_ok,List.map_toArray,List.map_cons,List.map_nil,hr]
 unfold aApp at h
 split at h
 ·rename_i el hu
  split at h
  ·rename_i ti g zc ax ay hti hz hx hy
   split at h
   ·rename_i n l hsrc
    cases hg:(Nat.beq zc.length ti.size && Nat.blt 0 ti.size) with
    | false=>rw [hg] at h; cases h
    | true=>
     rw [hg] at h; simp only [cond_true] at h
     simp only [Bool.and_eq_true] at hg
     have hzl:=Nat.eq_of_beq_eq_true hg.1
     have hz0:0 < ti.size:=Nat.le_of_ble_eq_true hg.2
     obtain ⟨it,zv,hit,hzr,hzv⟩:=Xl hz
     rw [hti] at hit; injection hit with hit; subst hit
     have hzc:=V1.cells (hzv ρ w)
     have hzs:zv.cells.size=ti.size:=by have:=hzc.len; simp at this; omega
     obtain ⟨news,hnr,hnl,hsv⟩:=srcC_ok hs hsrc (Qa hy ho hmy)
     have hxr:=Qa hx ho hmx
     cases hn:Nat.beq n 0 with
     | true=>
      rw [hn] at h; simp only [cond_true] at h
      cases hsl:isSl ax with
      | false=>rw [hsl] at h; cases h
      | true=>
       rw [hsl] at h; simp only [cond_true,Option.some.injEq,Prod.mk.injEq] at h
       obtain ⟨rfl,rfl⟩:=h
       have hn0:=Nat.eq_of_beq_eq_true hn
       subst hn0
       have hyv:∃ ad c,ev e y=.slice ad 0 c:=by
        rcases hsv with ⟨_,h1⟩ | ⟨b,off,c,h1,_⟩
        ·exact h1
        ·exact ⟨_,c,h1⟩
       obtain ⟨ad,c,hyv⟩:=hyv
       have hxv:∃ ad n c,ev e x=.slice ad n c∧n ≤ c:=by
        unfold isSl at hsl
        split at hsl
        ·obtain ⟨q,c,_,h2,h3,_⟩:=V1.one hxr; exact ⟨_,_,c,h2,h3⟩
        ·obtain ⟨ad,c,h2,_⟩:=V1.one hxr; exact ⟨_,_,c,h2,Nat.zero_le _⟩
        ·exact ⟨none,0,0,(V1.one hxr).1,Nat.le_refl _⟩
        ·cases hsl
       obtain ⟨ad2,n2,c2,hxv,hle⟩:=hxv
       refine Ti hs (hexec _ _ ?_) hxr
       rw [hxv,hyv]
       exact Bb t o.type el ti hu hti ad2 n2 c2 hle ad c
     | false=>
      rw [hn] at h; simp only [cond_false] at h
      have hn0:0 < n:=by rcases Nat.eq_zero_or_pos n with h1 | h1; (subst h1; cases hn); exact h1
      obtain ⟨yb,yoff,yc,hyv,hcell⟩:∃ b off c,ev e y=.slice (some ⟨b,off,none⟩) n c∧∀ j x,news[j]?=some x→w.cell? ((⟨b,off,none⟩:Addr).add j)=some x:=by
       rcases hsv with ⟨h1,_⟩ | h1
       ·omega
       ·exact h1
      -- into a new block
      have grow : ∀ (olds : List Value) (cs : List C) (ad : Option Addr) (len c : Nat), CsR ρ w cs olds → olds.length = len * ti.size → ev e x = .slice ad len c → c < len + n → (len + n) * ti.bytes ≤ 140737488355328 → len + n ≤ 1099511627776 →
        (∀ p,ad=some p→∀ j v,olds[j]?=some v→w.cell? (p.add j)=some v)→(ad=none→len=0∧c=0) →
        (execOp (ev e) o).run P w=.ok (.value (.slice (some ⟨w.heap.size,0,none⟩) (len + n) (grownCap w (len + n) c el))) (w.drew.alloc (.cells ((olds ++ news).toArray ++ Builtin.zeroCells zv.cells (grownCap w (len + n) c el - (len + n))) el)):=by
       intro olds cs ad len c hr hl hv hc hb1 hb2 hcells hnil
       refine hexec _ _ ?_
       rw [hv,hyv]
       cases ad with
       | none=>
        obtain ⟨rfl,rfl⟩:=hnil rfl
        have:olds=[]:=List.eq_nil_of_length_eq_zero (by rw [hl,Nat.zero_mul])
        subst this
        have hrun:=run_append_nil (P:=P) w t o.type el ti zv hu hti hzr ⟨yb,yoff,none⟩ n yc news hnl hcell hn0 (by omega) (by rw [Nat.zero_add] at hb1; omega)
        simp only [Nat.zero_add,List.nil_append]
        exact hrun
       | some p=>
        have hrun:=run_append_grow (P:=P) w t o.type el ti zv hu hti hzr p len c olds hl (hcells p rfl) ⟨yb,yoff,none⟩ n yc news hnl hcell hc (by omega) (growslice_fits (by omega) hb1)
        rw [hrun]
        simp
      unfold appTo at h
      split at h
      ·cases hg2 : (Nat.ble (n * ti.bytes) 140737488355328 && Nat.ble n 1099511627776) with
       | false=>rw [hg2] at h; cases h
       | true=>
        rw [hg2] at h; simp only [cond_true,Option.some.injEq,Prod.mk.injEq] at h
        obtain ⟨rfl,rfl⟩:=h
        simp only [Bool.and_eq_true] at hg2
        have hb1:=Nat.le_of_ble_eq_true hg2.1
        have hb2:=Nat.le_of_ble_eq_true hg2.2
        have hf:=hN S.n (Nat.le_refl _) (Nat.lt_succ_self _)
        have hr:=grow [] [] none 0 0 .nil (by simp) (V1.one hxr).1 (by omega) (by simpa using hb1) (by omega) (fun _ h=>by cases h) (fun _=>⟨rfl,rfl⟩)
        simp only [Nat.zero_add,List.nil_append] at hr
        obtain ⟨ρ',ev',sm,hv⟩:=Sf (need:=n) (old:=0) hs hf hnr hnl hzs hb2 (el:=el)
        exact ⟨_,_,ρ',.inl hr,ev',sm,hv⟩
      ·cases hg2 : (Nat.ble (n * ti.bytes) 140737488355328 && Nat.ble n 1099511627776) with
       | false=>rw [hg2] at h; cases h
       | true=>
        rw [hg2] at h; simp only [cond_true,Option.some.injEq,Prod.mk.injEq] at h
        obtain ⟨rfl,rfl⟩:=h
        simp only [Bool.and_eq_true] at hg2
        have hb1:=Nat.le_of_ble_eq_true hg2.1
        have hb2:=Nat.le_of_ble_eq_true hg2.2
        have hf:=hN S.n (Nat.le_refl _) (Nat.lt_succ_self _)
        obtain ⟨ad,c,hxv,hc0⟩:=V1.one hxr
        have hc0:=hc0 rfl
        subst hc0
        have hr:=grow [] [] (some ad) 0 0 .nil (by simp) hxv (by omega) (by simpa using hb1) (by omega) (fun _ _ j v hj=>by simp at hj) (fun h=>by cases h)
        simp only [Nat.zero_add,List.nil_append] at hr
        obtain ⟨ρ',ev',sm,hv⟩:=Sf (need:=n) (old:=0) hs hf hnr hnl hzs hb2 (el:=el)
        exact ⟨_,_,ρ',.inl hr,ev',sm,hv⟩
      ·rename_i b off len cap z2
       split at h
       ·rename_i cs el2 hlook
        split at h
        ·rename_i old hold
         cases hg2:(Nat.ble ((len + n) * ti.bytes) 140737488355328 && Nat.ble (len + n) 1099511627776 && Nat.beq z2 ti.size) with
         | false=>rw [hg2] at h; cases h
         | true=>
          rw [hg2] at h; simp only [cond_true] at h
          simp only [Bool.and_eq_true] at hg2
          have hb1:=Nat.le_of_ble_eq_true hg2.1.1
          have hb2:=Nat.le_of_ble_eq_true hg2.1.2
          have hz2:=Nat.eq_of_beq_eq_true hg2.2
          subst hz2
          obtain ⟨q,c,hq,hxv,hlc,hcm,hcap,arr0,el0,hh0,hroom⟩:=V1.one hxr
          obtain ⟨q',hq',⟨arr,vs,hh,hr,hc⟩,hget,hvis⟩:=Dk hs hlook
          rw [hq] at hq'; injection hq' with hq'; subst hq'
          rw [hh0] at hh; injection hh with hh; injection hh with hh1 hh2; subst hh1; subst hh2
          obtain ⟨hor,hol⟩:=Mc hold hr
          have hoc:∀ j v,((vs.drop off).take (len * ti.size))[j]?=some v→w.cell? ((⟨q.1,q.2 + off,none⟩:Addr).add j)=some v:=fun j v hj=>by
           rw [Qr,Nat.add_assoc]
           simp only [World.cell?,hh0,Option.isSome_none,Bool.false_eq_true,if_false]
           exact hc _ _ (Fy hj)
          have hjr:CsR ρ w (old ++ l) ((vs.drop off).take (len * ti.size) ++ news):=hor.append hnr
          have hjl:((vs.drop off).take (len * ti.size) ++ news).length=(len + n) * ti.size:=by rw [List.length_append,hol,hnl,Nat.add_mul]
          split at h
          ·rename_i c1
           have hcc:=hcap c1 rfl
           subst hcc
           cases hfit:Nat.ble (len + n) c with
           | true=>
            rw [hfit] at h; simp only [cond_true] at h
            have hfit':=Nat.le_of_ble_eq_true hfit
            cases hg3:(Nat.beq el0 el && Nat.ble (off + (len + n) * ti.size) cs.length) with
            | false=>rw [hg3] at h; cases h
            | true=>
             rw [hg3] at h; simp only [cond_true,Option.map_eq_some_iff,Prod.mk.injEq] at h
             obtain ⟨S1,hput,rfl,rfl⟩:=h
             simp only [Bool.and_eq_true] at hg3
             have hel:=Nat.eq_of_beq_eq_true hg3.1
             have hcl:=Nat.le_of_ble_eq_true hg3.2
             subst hel
             have hlen:=hr.len
             have hmul:(len + n) * ti.size=len * ti.size + n * ti.size:=Nat.add_mul _ _ _
             have hsz:=Un hc (by have:=Nat.mul_pos (show 0 < len + n by omega) hz0; omega)
             have hrun:=app_room (P:=P) w t o.type el0 ti hu hti q.1 (q.2 + off) (q.2 + (off + len * ti.size)) len c arr0 hh0 ⟨yb,yoff,none⟩ n yc news hnl hcell hnr.one hfit' (by omega) (by rw [hnl]; omega)
             have hgro:Gro w (w.setRow q.1 (arr0.toList.take (q.2 + (off + len * ti.size)) ++ news ++ arr0.toList.drop (q.2 + (off + len * ti.size) + news.length)).toArray):=Mi hh0 (by
              simp only [List.size_toArray,List.length_append,List.length_take,List.length_drop,Array.length_toList]; omega)
             obtain ⟨ev',sm⟩:=Xw hs hget hq hgro (Kt _ _) (fun x hx=>Qz _ _ hx) (fun B1 hB1=>by
              injection hB1 with hB1; subst hB1
              refine ⟨_,vs.take (off + len * ti.size) ++ news ++ vs.drop (off + len * ti.size + n * ti.size),Tz _ _ hh0,(((hr.take _).append hnr).append (hr.drop _)).mono fun _ _=>CR.mono (Jf.refl _) hgro,?_⟩
              rw [← hnl]
              exact row_get hc (by omega) (by have:=Nat.mul_pos (show 0 < len + n by omega) hz0; omega)) hput
             refine ⟨_,_,ρ,.inl (hexec _ _ (by rw [hxv,hyv]; exact hrun)),ev',sm,V1.of ⟨q,c,hq,rfl,hfit',hcm,fun c0 h=>by injection h,?_⟩⟩
             obtain ⟨cs',h8,h9⟩:=hgro.cells _ _ _ _ hh0
             exact ⟨cs',_,h8,by rw [h9]; omega⟩
           | false=>
            rw [hfit] at h; simp only [cond_false,Option.some.injEq,Prod.mk.injEq] at h
            obtain ⟨rfl,rfl⟩:=h
            have hlt:c < len + n:=by
             rcases Nat.lt_or_ge c (len + n) with h1 | h1
             ·exact h1
             ·rw [Nat.ble_eq_true_of_le h1] at hfit; cases hfit
            have hf:=hN S.n (Nat.le_refl _) (Nat.lt_succ_self _)
            have hr2:=grow _ _ (some ⟨q.1,q.2 + off,none⟩) len c hor hol hxv hlt hb1 hb2 (fun p hp j v hj=>by injection hp with hp; subst hp; exact hoc j v hj) (fun h=>by cases h)
            obtain ⟨ρ',ev',sm,hv⟩:=Sf (need:=len + n) (old:=c) hs hf hjr hjl hzs hb2 (el:=el)
            exact ⟨_,_,ρ',.inl hr2,ev',sm,hv⟩
          ·cases hg3 : (Nat.beq el0 el) with
           | false=>rw [hg3] at h; cases h
           | true=>
            rw [hg3] at h; simp only [cond_true,Option.map_eq_some_iff,Prod.mk.injEq] at h
            obtain ⟨S1,hput,rfl,rfl⟩:=h
            have hel:=Nat.eq_of_beq_eq_true hg3
            subst hel
            obtain ⟨hm1,hn1,hl1,hget1⟩:=Dh hput
            have hf:ρ S.n=none:=hN S.n (Nat.le_refl _) (by show S.n < S1.n + 1; omega)
            rcases Nat.lt_or_ge c (len + n) with hlt | hge
            ·-- no room
             obtain ⟨ev1,sm1⟩:=Xw hs hget hq (Gro.refl w) rfl (fun _ _=>rfl) (B:=none) (fun _ h=>by cases h) hput
             have hr2:=grow _ _ (some ⟨q.1,q.2 + off,none⟩) len c hor hol hxv hlt hb1 hb2 (fun p hp j v hj=>by injection hp with hp; subst hp; exact hoc j v hj) (fun h=>by cases h)
             obtain ⟨ρ',ev',sm,hv⟩:=Sf (need:=len + n) (old:=c) sm1 (by rw [hn1]; exact hf) hjr hjl hzs hb2 (el:=el0)
             rw [hn1] at hv
             refine ⟨_,_,ρ',.inl hr2,ev1.trans hs.cut ev' (fun b h1 h2=>?_),sm,hv⟩
             exact hN b h1 h2
            ·-- there is room
             have hlen:=hr.len
             have hmul:(len + n) * ti.size=len * ti.size + n * ti.size:=Nat.add_mul _ _ _
             have hck:(len + n) * ti.size ≤ c * ti.size:=Nat.mul_le_mul_right _ hge
             have hrun:=app_room (P:=P) w t o.type el0 ti hu hti q.1 (q.2 + off) (q.2 + (off + len * ti.size)) len c arr0 hh0 ⟨yb,yoff,none⟩ n yc news hnl hcell hnr.one hge (by omega) (by rw [hnl]; omega)
             have hgro:Gro w (w.setRow q.1 (arr0.toList.take (q.2 + (off + len * ti.size)) ++ news ++ arr0.toList.drop (q.2 + (off + len * ti.size) + news.length)).toArray):=Mi hh0 (by
              simp only [List.size_toArray,List.length_append,List.length_take,List.length_drop,Array.length_toList]; omega)
             have hal:arr0.toList.length=arr0.size:=Array.length_toList
             have hbr:BR (Ua ρ S.n (q.1,q.2 + off)) (w.setRow q.1 (arr0.toList.take (q.2 + (off + len * ti.size)) ++ news ++ arr0.toList.drop (q.2 + (off + len * ti.size) + news.length)).toArray) (.cells (old ++ l) el0) (q.1,q.2 + off):=by
              refine ⟨_,(vs.drop off).take (len * ti.size) ++ news,Tz _ _ hh0,CsR.mono (Yq hf) hgro hjr,fun j v hj=>?_⟩
              rw [List.getElem?_toArray]
              show (arr0.toList.take (q.2 + (off + len * ti.size)) ++ news ++ arr0.toList.drop (q.2 + (off + len * ti.size) + news.length))[q.2 + off + j]?=some v
              have hta:(arr0.toList.take (q.2 + (off + len * ti.size))).length=q.2 + (off + len * ti.size):=by rw [List.length_take]; omega
              rcases Nat.lt_or_ge j (len * ti.size) with h1 | h1
              ·rw [List.getElem?_append_left (by omega)] at hj
               rw [List.append_assoc,List.getElem?_append_left (by omega),List.getElem?_take,if_pos (by omega),Array.getElem?_toList]
               have:=hc _ _ (Fy hj)
               rwa [← Nat.add_assoc] at this
              ·rw [List.getElem?_append_right (by omega), hol] at hj
               have hj2:=(List.getElem?_eq_some_iff.1 hj).1
               rw [List.append_assoc,List.getElem?_append_right (by omega),List.getElem?_append_left (by omega),hta,show q.2 + off + j - (q.2 + (off + len * ti.size))=j - len * ti.size by omega]
               exact hj
             obtain ⟨ev',sm⟩:=take_ok hs hget hq hgro (Kt _ _) (fun x hx=>Qz _ _ hx) hf hbr hput
             refine ⟨_,_,_,.inl (hexec _ _ (by rw [hxv,hyv]; exact hrun)),ev',sm,V1.of ⟨(q.1,q.2 + off),c,Wf _ _ _,rfl,hge,hcm,(fun c0 h=>by cases h),?_⟩⟩
             obtain ⟨cs',h8,h9⟩:=hgro.cells _ _ _ _ hh0
             exact ⟨cs',_,h8,by rw [h9]; simp only; omega⟩
        ·cases h
       ·cases h
      ·cases h
   ·cases h
  ·cases h
 ·cases h
def aAppZ (P:Program) (S:St) (env:Gv) (t tn:TypeId) (x y:Operand):Option (AV × St):=
 match P.underlying t,P.underlying tn,aop env x,Ub env y with
 | some (.slice el), some (.int .i64), some (.v false [.k (.slice none 0 0)]), some (.int .i64 n) => match P.info? el, De P el with
  | some ti, some (_, zc) => bif Nat.beq zc.length ti.size && Nat.blt 0 ti.size && decide (0 < n) && decide (n ≤ 1099511627776) && Nat.ble (n.toNat * ti.bytes) 140737488355328 then
    some (.v false [.s S.n 0 n.toNat none ti.size],S.new (.cells (repC n.toNat zc) el)) else none
  | _,_=>none
 | _,_,_,_=>none
theorem Pd (z:Array Value) (n:Nat):(Builtin.zeroCells z n).toList=(List.replicate n z.toList).flatten:=by
 have:=Dq z n
 unfold Builtin.zeroCells
 rw [this]
theorem aAppZ_ok (hs:Sim cx base ρ S w) {o:Oper} {t tn:TypeId} {x y:Operand} {a:AV} (hop:o.op=.call { callee:=.builtin .append,args:=#[x,y],argTypes:=#[t,tn] }) (ho:Hb ρ w env e o.op.operands.toList) (h:aAppZ P S env t tn x y=some (a,S')) (hN:∀ b,S.n ≤ b→b < S'.n→ρ b=none):Hi cx base ρ S w a S' ((execOp (ev e) o).run P w):=by
 have hmx:x ∈ o.op.operands.toList:=by simp [hop,Op.operands,Call.operands]
 have hmy:y ∈ o.op.operands.toList:=by simp [hop,Op.operands,Call.operands]
 unfold aAppZ at h
 split at h
 ·rename_i el n hu htn hx hy
  split at h
  ·rename_i ti g zc hti hz
   cases hg:(Nat.beq zc.length ti.size && Nat.blt 0 ti.size && decide (0 < n) && decide (n ≤ 1099511627776) && Nat.ble (n.toNat * ti.bytes) 140737488355328) with
   | false=>rw [hg] at h; cases h
   | true=>
    rw [hg] at h; simp only [cond_true,Option.some.injEq,Prod.mk.injEq] at h
    obtain ⟨rfl,rfl⟩:=h
    simp only [Bool.and_eq_true,decide_eq_true_eq] at hg
    obtain ⟨⟨⟨⟨g1,g2⟩,g3⟩,g4⟩,g5⟩:=hg
    have hzl:=Nat.eq_of_beq_eq_true g1
    have hz0:0 < ti.size:=Nat.le_of_ble_eq_true g2
    have hb':=Nat.le_of_ble_eq_true g5
    have hxv:=(V1.one (Qa hx ho hmx)).1
    have hyv:=Kf hy ho hmy
    obtain ⟨it,zv,hit,hzr,hzv⟩:=Xl hz
    rw [hti] at hit; injection hit with hit; subst hit
    have hzc:=V1.cells (hzv ρ w)
    have hzs:zv.cells.size=ti.size:=by have:=hzc.len; simp at this; omega
    obtain ⟨k,rfl⟩:=Int.eq_ofNat_of_zero_le (Int.le_of_lt g3)
    simp only [Int.toNat_natCast] at hb' hN ⊢
    have hrun:=run_append_grow_zeros (P:=P) w t tn o.type el ti zv .i64 .i64 hu htn hti hzr none 0 0 [] (run_firstCells_none w.drew ti.size 0 0 0) k (by omega) hz0 (by omega) (by omega) (by omega) (by rw [Nat.zero_add]; exact growslice_fits (by omega) hb')
    simp only [Nat.zero_add] at hrun
    have hf:=hN S.n (Nat.le_refl _) (Nat.lt_succ_self _)
    have hrep:=Pd zv.cells k
    obtain ⟨ρ',ev',sm,hv⟩:=Sf (need:=k) (old:=0) (vs:=(List.replicate k zv.cells.toList).flatten) hs hf (repC_ok hzc) (by simp [hzs]) hzs (by omega) (el:=el)
    refine ⟨_,_,ρ',.inl ?_,ev',sm,hv⟩
    have harr:(#[] ++ Builtin.zeroCells zv.cells k:Array Value)=(List.replicate k zv.cells.toList).flatten.toArray:=by
     apply Array.ext'; simp [hrep]
    rw [harr] at hrun
    simp only [execOp,hop,resolve,invoke,builtin,Sem.run_bind,Sem.run_pure,Result.andThen_ok,List.map_toArray,List.map_cons,List.map_nil,hxv,hyv]
    have hrun':(Builtin.append_ #[t,tn] o.type #[.slice none 0 0,.int .i64 (k:Int)]).run P w=_:=hrun
    rw [hrun']
    rfl
  ·cases h
 ·cases h
end
end
end Go.Proofs.Ytplaipkjhlkjgaa
