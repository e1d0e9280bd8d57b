/- makeSlice. No program is named here. -/
import Derived.Test.YtpglkdijpcgcaaaGreatDoorNest
import Derived.Laws.MakeOwn
namespace Go.Proofs.YtpglkdijpcgcaaaGreatDoor
open Go.RowKit

def mks {α:Type} (bytes:Nat) (x0:α) (n:Int):Option (List α):=
 if 0≤n∧n≤16777216∧(bytes:Int)*n≤281474976710656 then some (List.replicate n.toNat x0) else none
theorem Ro {α:Type} [GoT α] {m:Nat→Nat} {w:World} {x:α} {z:Value} (h:GoT.rep m w x [z]):∀ n:Nat,T1 m w (List.replicate n x) (List.replicate n z)
 | 0=>rfl
 | n+1=>⟨[z],List.replicate n z,rfl,h,Ro h n⟩
section
variable {P:Program} {e:Env} {w:World} {g:Gh} {K:Value→World→Prop} {x y z:Operand}
theorem Ye {α:Type} [GoT α] (i:Nat) {t et:TypeId} {zv:Value} {bytes:Nat} (x0:α) {n:Int} {r:List α} (hk:GoT.k α=1)
  (ht:P.underlying t=some (.slice et)) (hinfo:(P.info? et).map (fun i=>(i.zero,i.size,i.bytes))=some (some zv,1,bytes)) (hz1:zv.cells=#[zv]) (hz:∀ m w,GoT.rep m w x0 [zv])
  (hx:X e x=.int .i64 n) (hy:X e y=.int .i64 n) (hr:mks bytes x0 n=some r)
  (h:∀ g' w' v',Stp i g w g' w'→OM i g' w' et r v'→K v' w'):Doe P (.makeSlice t x y) e w K:=fun d ty pos af gd=>by
 obtain ⟨ti,hi,hzz,hsz,hby⟩:=info_parts hinfo
 subst hby
 unfold mks at hr
 split at hr
 case isFalse=>cases hr
 rename_i hc
 obtain rfl:=Option.some.inj hr
 obtain ⟨h0,h1,h2⟩:=hc
 have hrun:=run_makeSlice (P:=P) w t et ti zv ht hi hzz .i64 .i64 n n h0 (Int.le_refl _) (by rw [hsz];omega) h2 (by omega)
 have hrun2:(execOp (X e) ⟨d,.makeSlice t x y,ty,pos,af,gd⟩).run P w=.ok (.value (.slice (some ⟨w.heap.size,0,none⟩) n.toNat n.toNat)) (w.alloc (.cells (madeCells zv.cells (n.toNat*ti.size)) et)):=by
  simp only [execOp,hx,hy,Sem.run_bind,hrun,Result.andThen_ok,Sem.run_pure]
 unfold doE;rw [hrun2]
 have hcs:(madeCells zv.cells (n.toNat*ti.size)).toList=List.replicate n.toNat zv:=by
  rw [hz1,hsz,Nat.mul_one]
  apply List.ext_getElem
  ·simp [madeCells]
  ·intro j h1 h2;simp [madeCells,Nat.mod_one]
 refine h {m:=W8 g.m w.heap.size 0,o:=W8 g.o w.heap.size i} _ _ (H8 i g w _ et 0) (.inr ⟨w.heap.size,n.toNat,_,by simp,by simp,Tv _ _ _,Tv _ _ _,CF.of (Wf _ _),?_,?_⟩)
 ·have:=congrArg List.length hcs
  simp at this
  rw [List.length_replicate,hk,Nat.mul_one];omega
 ·rw [hcs,List.length_replicate,hk,Nat.mul_one,List.take_of_length_le (by simp)]
  exact Ro (hz _ _) _
end
theorem up_ex {SR:Ke} {β:Type} {A:β→T0} (h:∀ b,Up SR (A b)):Up SR (fun g w=>∃ b,A b g w):=fun g w g' w' hx ⟨b,hb⟩=>⟨b,h b g w g' w' hx hb⟩
theorem N6 {cs cy:List Value} {off k p:Nat} (hl:cy.length=k) (ho:off+k≤cs.length):(cs.take off++cy++cs.drop (off+cy.length))[p]?=if p<off then cs[p]? else if p<off+k then cy[p-off]? else cs[p]?:=by
 have ht:(cs.take off).length=off:=by rw [List.length_take];omega
 by_cases h1:p<off
 ·rw [if_pos h1,List.append_assoc,List.getElem?_append_left (by omega),List.getElem?_take,if_pos h1]
 ·rw [if_neg h1]
  by_cases h2:p<off+k
  ·rw [if_pos h2,List.append_assoc,List.getElem?_append_right (by omega),ht,List.getElem?_append_left (by omega)]
  ·rw [if_neg h2,List.getElem?_append_right (by rw [List.length_append,ht,hl];omega),List.length_append,ht,hl,List.getElem?_drop]
   congr 1;omega
theorem Gl.vec {β:Type} [GoT β] {n i:Nat} (hi:i<n):Gl (α:=Vector β n) (i*GoT.k β) (fun v=>v[i]) (fun v y=>v.set i y):=by
 have hk:i*GoT.k β+GoT.k β≤n*GoT.k β:=by
  have:(i+1)*GoT.k β≤n*GoT.k β:=Nat.mul_le_mul_right _ hi
  rw [Nat.add_mul,Nat.one_mul] at this;exact this
 refine ⟨⟨hk,fun m w x cs h=>h.2 i hi⟩,fun m w x y cs cy h hy=>?_⟩
 have hcy:=GoT.len hy
 have hcs:cs.length=n*GoT.k β:=h.1
 refine ⟨?_,fun j hj=>?_⟩
 ·simp only [List.length_append,List.length_take,List.length_drop];omega
 ·have hkj:j*GoT.k β+GoT.k β≤n*GoT.k β:=by
   have:(j+1)*GoT.k β≤n*GoT.k β:=Nat.mul_le_mul_right _ hj
   rw [Nat.add_mul,Nat.one_mul] at this;exact this
  by_cases hij:i=j
  ·subst hij
   have:((cs.take (i*GoT.k β)++cy++cs.drop (i*GoT.k β+cy.length)).drop (i*GoT.k β)).take (GoT.k β)=cy:=by
    apply List.ext_getElem?
    intro t
    rw [List.getElem?_take,List.getElem?_drop,N6 hcy (by omega)]
    split
    ·rw [if_neg (by omega),if_pos (by omega)];congr 1;omega
    ·rw [List.getElem?_eq_none (by omega)]
   rw [this]
   simpa using hy
  ·have:((cs.take (i*GoT.k β)++cy++cs.drop (i*GoT.k β+cy.length)).drop (j*GoT.k β)).take (GoT.k β)=(cs.drop (j*GoT.k β)).take (GoT.k β):=by
    apply List.ext_getElem?
    intro t
    rw [List.getElem?_take,List.getElem?_drop,List.getElem?_take,List.getElem?_drop,N6 hcy (by omega)]
    split
    ·rename_i ht
     rcases Nat.lt_or_gt_of_ne hij with h1 | h1
     ·have:(i+1)*GoT.k β≤j*GoT.k β:=Nat.mul_le_mul_right _ h1
      rw [Nat.add_mul,Nat.one_mul] at this
      rw [if_neg (by omega),if_neg (by omega)]
     ·have:(j+1)*GoT.k β≤i*GoT.k β:=Nat.mul_le_mul_right _ h1
      rw [Nat.add_mul,Nat.one_mul] at this
      rw [if_pos (by omega)]
    ·rfl
   rw [this]
   have h2:=h.2 j hj
   simpa [Vector.getElem_set,hij] using h2
theorem Xl {β:Type} {n i:Nat} {v:Vector β n} (hi:i<n):idx v.toList (i:Int)=some v[i]:=by
 unfold idx
 rw [if_pos (Int.natCast_nonneg i)]
 simp [hi]
end Go.Proofs.YtpglkdijpcgcaaaGreatDoor
namespace Go.Proofs.YtpglkdijpcgcaaaGreatDoor
open Go.RowKit

def S2:Value→Bool
 | .tuple ⟨[]⟩=>true
 | _=>false
theorem Nl {v:Value} (h:S2 v=true):v=undef:=by
 unfold S2 at h
 split at h
 ·rfl
 ·cases h
def Y6 (e:Env):Op→Option Value
 | .move x=>some (X e x)
 | .pick x y z => match X e x with
  | .bool true=>some (X e y)
  | .bool false=>some (X e z)
  | _=>none
 | _=>none
def Pc (ops:Array Oper) (e:Env) (o:Oper):Option (Bool × Value):=
 match o.guard with
 | none=>(Y6 e o.op).map fun v=>(true,v)
 | some (j, b) => match (ops[j]?).bind (·.dst) with
  | none=>none
  | some d => match e d with
   | .bool true=>bif b then (Y6 e o.op).map fun v=>(true,v) else some (false,undef)
   | .bool false=>bif b then some (false,undef) else (Y6 e o.op).map fun v=>(true,v)
   | v=>bif S2 v then some (false,undef) else none
theorem Vi {P:Program} {e:Env} {op:Op} {v:Value} (h:Y6 e op=some v):Pur P op e v∧U0 op=true:=by
 unfold Y6 at h
 split at h
 ·injection h with h;subst h;exact ⟨Zk rfl,rfl⟩
 ·split at h
  ·rename_i hx;injection h with h;subst h;exact ⟨Zl hx rfl,rfl⟩
  ·rename_i hx;injection h with h;subst h;exact ⟨Zl hx rfl,rfl⟩
  ·cases h
 ·cases h
theorem Se {P:Program} {ops:Array Oper} {e:Env} {o:Oper} {t:Bool} {v:Value} (h:Pc ops e o=some (t,v)) :
  Wants ops e o.guard t∧(t=true→Pur P o.op e v∧U0 o.op=true)∧(t=false→v=undef):=by
 unfold Pc at h
 have go:∀ {t v},(Y6 e o.op).map (fun v=>(true,v))=some (t,v)→t=true∧Y6 e o.op=some v:=fun {t v} h=>by
  cases hv:Y6 e o.op with
  | none=>rw [hv] at h;cases h
  | some u=>rw [hv] at h;simp at h;exact ⟨h.1.symm▸rfl,by rw [h.2]⟩
 split at h
 ·rename_i hg
  obtain ⟨rfl,hv⟩:=go h
  rw [hg]
  exact ⟨.plain,fun _=>Vi hv,by simp⟩
 ·rename_i j b hg
  rw [hg]
  split at h
  ·cases h
  ·rename_i d hd
   split at h
   ·rename_i he
    cases b with
    | true=>obtain ⟨rfl,hv⟩:=go h;exact ⟨.yes hd he,fun _=>Vi hv,by simp⟩
    | false=>simp at h;obtain ⟨rfl,rfl⟩:=h;exact ⟨.no hd he rfl,by simp,by simp⟩
   ·rename_i he
    cases b with
    | true=>simp at h;obtain ⟨rfl,rfl⟩:=h;exact ⟨.no hd he rfl,by simp,by simp⟩
    | false=>obtain ⟨rfl,hv⟩:=go h;exact ⟨.yes hd he,fun _=>Vi hv,by simp⟩
   ·rename_i hb1 hb2
    cases hu:S2 (e d) with
    | true=>rw [hu] at h;simp at h;obtain ⟨rfl,rfl⟩:=h;exact ⟨.off hd (Nl hu),by simp,by simp⟩
    | false=>rw [hu] at h;cases h
def D8 (ops:Array Oper) (N:Nat):Nat→List Oper→Env→Option (List Oper × Env)
 | 0,l,e=>some (l,e)
 | n + 1, o :: l, e => match Pc ops e o with
  | some (_,v)=>bif okO N o.dst then D8 ops N n l (T7 e o.dst v) else none
  | none=>none
 | _+1,[],_=>none
theorem Q5 {P:Program} {N:Nat} {ro:Option Nat} {ops:Array Oper} {Q:Hz} {ds:List Deferred} {w:World} (n:Nat):∀ {l l':List Oper} {e e':Env},D8 ops N n l e=some (l',e')→EL P N ro ops l' Q e' ds w→EL P N ro ops l Q e ds w:=by
 induction n with
 | zero=>intro l l' e e' h k;simp only [D8,Option.some.injEq,Prod.mk.injEq] at h;obtain ⟨rfl,rfl⟩:=h;exact k
 | succ n ih=>
  intro l l' e e' h k
  cases l with
  | nil=>simp [D8] at h
  | cons o l=>
   unfold D8 at h
   split at h
   ·rename_i t v ho
    cases hN:okO N o.dst with
    | false=>rw [hN] at h;cases h
    | true=>
     rw [hN] at h
     obtain ⟨h1,h2,h3⟩:=Se (P:=P) ho
     have:=ih h k
     obtain ⟨d,op,ty,pos,af,gd⟩:=o
     cases t with
     | true=>obtain ⟨hp,hn⟩:=h2 rfl;exact Sb hp h1 (by rw [Bool.and_eq_true];exact ⟨hn,hN⟩) this
     | false=>rw [h3 rfl] at this;exact S8 h1 hN this
   ·cases h
def Ui (ops:Array Oper) (Φ:U5):Nat→List Nat→(Nat→T0)→Env→Option (List Nat × (Nat→T0) × Env)
 | 0,l,F,e=>some (l,F,e)
 | n + 1, i :: l, F, e => match ops[i]? with
  | none=>none
  | some o => match Pc ops e o with
   | some (true, v) => match Φ i with
    | none=>Ui ops Φ n l (Wq F i (fun g w=>∀ j∈G4 o,F j g w)) (T7 e o.dst v)
    | some _=>none
   | some (false,_)=>Ui ops Φ n l (Wq F i (fun _ _=>True)) (T7 e o.dst undef)
   | none=>none
 | _+1,[],_,_=>none
theorem Mn {SR:Ke} {P:Program} {ops:Array Oper} {C:T0} {Φ:U5} {Q:Env→T0} (hnl:∀ i,SR.late i=false) (n:Nat):∀ {l l':List Nat} {F F':Nat→T0} {e e':Env},Ui ops Φ n l F e=some (l',F',e')→Lex SR P ops C Φ Q l' F' e'→Lex SR P ops C Φ Q l F e:=by
 induction n with
 | zero=>intro l l' F F' e e' h k;simp only [Ui,Option.some.injEq,Prod.mk.injEq] at h;obtain ⟨rfl,rfl,rfl⟩:=h;exact k
 | succ n ih=>
  intro l l' F F' e e' h k
  cases l with
  | nil=>simp [Ui] at h
  | cons i l=>
   unfold Ui at h
   split at h
   ·cases h
   ·rename_i o ho
    split at h
    ·rename_i v hv
     split at h
     ·rename_i hφ
      obtain ⟨h1,h2,_⟩:=Se (P:=P) hv
      obtain ⟨d,op,ty,pos,af,gd⟩:=o
      exact J8 ho hφ h1 (fun _ _ _=>(h2 rfl).1) (ih h k) (hnl i)
     ·cases h
    ·rename_i hv
     obtain ⟨h1,_,_⟩:=Se (P:=P) hv
     obtain ⟨d,op,ty,pos,af,gd⟩:=o
     exact Et ho h1 (ih h k)
    ·cases h
end Go.Proofs.YtpglkdijpcgcaaaGreatDoor
