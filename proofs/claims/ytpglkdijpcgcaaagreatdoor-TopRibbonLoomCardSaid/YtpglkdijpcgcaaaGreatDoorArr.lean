/- Arrays. No program is named here. -/
import Derived.Test.YtpglkdijpcgcaaaGreatDoorOwn
import Derived.ChangeKeysEq
namespace Go.Proofs.YtpglkdijpcgcaaaGreatDoor
open Go.RowKit

theorem Bk {α:Type} {n:Nat} {x:Vector α n} {i:Int} {a:α} (hi:idx x.toList i=some a):0≤i∧∃ h:i.toNat<n,x[i.toNat]=a:=by
 obtain ⟨h0,hi'⟩:=Wp hi
 obtain ⟨hlt,ha⟩:=List.getElem?_eq_some_iff.1 hi'
 refine ⟨h0,by simpa using hlt,?_⟩
 simpa using ha
section
variable {P:Program} {e:Env} {w:World} {x y:Operand}
theorem Wt {α:Type} [GoT α] {n:Nat} {m:Nat→Nat} {p:Value} {v:Vector α n} {i:Int} {a:α} (hp:PT m w v p) (hi:idx v.toList i=some a):PT m w a (S p (i.toNat*GoT.k α)):=by
 obtain ⟨b,o,cs,rfl,hb,hm,hr,hc⟩:=hp
 obtain ⟨h0,hlt,rfl⟩:=Bk hi
 have hk:i.toNat*GoT.k α+GoT.k α≤n*GoT.k α:=by
  have:(i.toNat+1)*GoT.k α≤n*GoT.k α:=Nat.mul_le_mul_right _ hlt
  rw [Nat.add_mul,Nat.one_mul] at this;exact this
 have hm':o+n*GoT.k α≤m b:=hm
 refine ⟨b,o+i.toNat*GoT.k α,_,rfl,hb,by omega,hr.2 i.toNat hlt,fun j c hj=>?_⟩
 rw [List.getElem?_take] at hj
 split at hj
 ·rw [List.getElem?_drop] at hj
  rw [Nat.add_assoc]
  exact hc _ _ hj
 ·cases hj
theorem G9 {α:Type} [GoT α] {n:Nat} {t et:TypeId} {p:Value} {v:Vector α n} {k:IntKind} {i:Int} {a:α} (ht:P.underlying t=some (.array n et)) (hs:∀ w,(sizeOf et).run P w=.ok (GoT.k α) w)
  (hx:X e x=p) (hp:∃ b o,p=.pointer (some ⟨b,o,none⟩)) (hy:X e y=.int k i) (hi:idx v.toList i=some a):Pur P (.indexAddr t x y) e (S p (i.toNat*GoT.k α)):=fun _ _ _ _ _ w'=>by
 obtain ⟨b,o,rfl⟩:=hp
 obtain ⟨h0,hlt,_⟩:=Bk hi
 have hl:i<(n:Int):=by omega
 simp [execOp,hx,hy,Instr.indexAt,Instr.sureAddr,asIntOf,Sem.run_bind,run_underlying ht,h0,hl,hs,Wg,S]
theorem RV_idxA {α:Type} [GoT α] {n:Nat} {m:Nat→Nat} {u:Value} {v:Vector α n} {i:Int} {a:α} (hv:RV m w v u) (hi:idx v.toList i=some a):RV m w a (partV (GoT.agg α) (i.toNat*GoT.k α) (GoT.k α) u):=by
 obtain ⟨h0,hlt,rfl⟩:=Bk hi
 exact ⟨_,hv.cells.2 i.toNat hlt,rfl⟩
theorem P_indexA {α:Type} [GoT α] {n:Nat} {m:Nat→Nat} {t et:TypeId} {u:Value} {v:Vector α n} {k:IntKind} {i:Int} {a:α} (ht:P.underlying t=some (.array n et)) (ha:∀ w,(isAgg et).run P w=.ok (GoT.agg α) w) (hs:∀ w,(sizeOf et).run P w=.ok (GoT.k α) w)
  (hx:X e x=u) (hv:RV m w v u) (hy:X e y=.int k i) (hi:idx v.toList i=some a):Pur P (.index t x y) e (partV (GoT.agg α) (i.toNat*GoT.k α) (GoT.k α) u):=fun _ _ _ _ _ w'=>by
 obtain ⟨cs,hr,rfl⟩:=hv
 obtain ⟨h0,hlt,_⟩:=Bk hi
 have hl:i<(n:Int):=by omega
 have h1:=hr.2 i.toNat hlt
 have hx':X e x=.agg cs.toArray:=hx
 simp only [execOp,hx',hy,Instr.index,asIntOf,Sem.run_bind,Sem.run_pure,Result.andThen_ok,run_underlying ht]
 rw [if_pos ⟨h0,hl⟩]
 simp only [Sem.run_bind,hs,Result.andThen_ok]
 unfold part
 show _=Result.ok (Next.value (toV (GoT.agg α) ((cs.drop (i.toNat*GoT.k α)).take (GoT.k α)))) w'
 cases hg:GoT.agg α with
 | true=>
  rw [hg] at ha
  simp [Sem.run_bind,ha,hs,Result.andThen,toV,List.extract_toArray]
 | false=>
  rw [hg] at ha
  have hl:=GoT.len h1
  rw [GoT.k1 hg] at hl h1 ⊢
  have hlt2:i.toNat*1<cs.length:=by simp at hl;omega
  have hget:(cs.toArray)[i.toNat*1]?=some cs[i.toNat*1]:=by rw [List.getElem?_toArray,List.getElem?_eq_getElem hlt2]
  have hv:(List.take 1 (List.drop (i.toNat*1) cs)).headD undef=cs[i.toNat*1]:=by rw [List.drop_eq_getElem_cons hlt2];rfl
  simp only [toV,cond_false,hv,Sem.run_bind,ha,Result.andThen,hget,Bool.false_eq_true,if_false,Sem.run_pure]
theorem Bn {t et:TypeId} {n s:Nat} {zc:List Value} {xs:List (Nat × Operand)} {vs:List (Nat × Value)} (ch:List (List Value)) (ht:P.underlying t=some (.array n et))
  (hl:((P.info? t).bind (·.zero)).map (·.cells.toList)=some zc) (hs:(P.info? et).map (·.size)=some s) (hz:zc=ch.flatten) (hc:∀ c∈ch,c.length=s) (hps:Parts e xs vs) (hfit:C3 ch vs) :
  Pur P (.build t xs.toArray) e (.agg (Tk ch vs).flatten.toArray):=fun _ _ _ _ _ w=>by
 have hb:P.built t vs=some (Tk ch vs).flatten.toArray:=by
  unfold Program.built
  cases hi:P.info? t with
  | none=>rw [hi] at hl;cases hl
  | some it=>
   rw [hi] at hl
   simp only [Option.bind_some] at hl
   cases hzz:it.zero with
   | none=>rw [hzz] at hl;cases hl
   | some z=>
    rw [hzz] at hl
    cases hie:P.info? et with
    | none=>rw [hie] at hs;cases hs
    | some ie=>
     rw [hie] at hs
     simp only [Option.map_some,Option.some.injEq] at hs hl
     simp only [ht,hzz,hie,hs]
     have h3:z.cells=ch.flatten.toArray:=by rw [← hz,← hl]
     rw [h3]
     refine Dj vs ch (fun i c hic=>?_) hfit
     rw [Je (s:=s) ch 0 i c hc hic,Nat.zero_add]
 have hrun:=run_build (P:=P) w t vs.toArray _ (by simpa using hb)
 simp only [execOp,List.map_toArray,hps.map,Sem.run_bind,hrun,Result.andThen_ok,Sem.run_pure]
theorem K8 {α:Type} [GoT α] {n:Nat} {m:Nat→Nat} {xs:List α} {cs:List Value} (h:T1 m w xs cs) (hn:xs.toArray.size=n):GoT.rep m w (⟨xs.toArray,hn⟩:Vector α n) cs:=by
 have hn':xs.length=n:=by simpa using hn
 refine ⟨by rw [h.len,hn'],fun i hi=>?_⟩
 have hg:xs[i]?=some xs[i]:=List.getElem?_eq_getElem (by omega)
 obtain ⟨c,hr,hc⟩:=h.get hg
 have hl:=GoT.len hr
 have hcs:=h.len
 have hk:i*GoT.k α+GoT.k α≤xs.length*GoT.k α:=by
  have:(i+1)*GoT.k α≤xs.length*GoT.k α:=Nat.mul_le_mul_right _ (by omega)
  rw [Nat.add_mul,Nat.one_mul] at this;exact this
 have he:(cs.drop (i*GoT.k α)).take (GoT.k α)=c:=by
  apply List.ext_getElem
  ·rw [List.length_take,List.length_drop];omega
  ·intro j h1 h2
   have:=hc j c[j] (List.getElem?_eq_getElem h2)
   rw [List.getElem_take,List.getElem_drop]
   obtain ⟨_,h3⟩:=List.getElem?_eq_some_iff.1 this
   exact h3
 rw [he]
 exact hr
theorem K0 {α:Type} [GoT α] {m:Nat→Nat}:T1 m w ([]:List α) ([]:List (List Value)).flatten:=rfl
theorem Zv {α:Type} [GoT α] {m:Nat→Nat} {x:α} {xs:List α} {c:List Value} {cs:List (List Value)} (h1:GoT.rep m w x c) (h2:T1 m w xs cs.flatten):T1 m w (x::xs) (c::cs).flatten:=⟨c,cs.flatten,rfl,h1,h2⟩
end
end Go.Proofs.YtpglkdijpcgcaaaGreatDoor
