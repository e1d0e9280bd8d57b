/- makeSlice. No program is named here. -/
import Derived.Test.YtplaipkjhlkjgaaNest
import Derived.Laws.MakeOwn
import Derived.WideKeyRuns
namespace Go.Proofs.Ytplaipkjhlkjgaa
open Go.RowKit

def mks {α:Type} (bytes:Nat) (x0:α) (n:Int):Option (List α):=
 if 0 ≤ n∧n ≤ 16777216∧(bytes:Int) * n ≤ 281474976710656 then some (List.replicate n.toNat x0) else none
theorem flat_rep {α : Type} [GoT α] {m : Nat → Nat} {w : World} {x : α} {z : Value} (h : GoT.rep m w x [z]) : ∀ n : Nat, Tq m w (List.replicate n x) (List.replicate n z)
 | 0=>rfl
 | n + 1=>⟨[z],List.replicate n z,rfl,h,flat_rep h n⟩
section
variable {P:Program} {e:Env} {w:World} {g:Gh} {K:Value→World→Prop} {x y z:Operand}
theorem D_makeSliceM {α : Type} [GoT α] (i : Nat) {t et : TypeId} {zv : Value} {bytes : Nat} (x0 : α) {n : Int} {r : List α} (hk : GoT.k α = 1)
  (ht:P.underlying t=some (.slice et)) (hinfo:(P.info? et).map (fun i=>(i.zero,i.size,i.bytes))=some (some zv,1,bytes)) (hz1:zv.cells=#[zv]) (hz:∀ m w,GoT.rep m w x0 [zv])
  (hx:ev e x=.int .i64 n) (hy:ev e y=.int .i64 n) (hr:mks bytes x0 n=some r)
  (h:∀ g' w' v',Stp i g w g' w'→OM i g' w' et r v'→K v' w'):Doe P (.makeSlice t x y) e w K:=fun d ty pos af gd=>by
 obtain ⟨ti,hi,hzz,hsz,hby⟩:=info_parts hinfo
 subst hby
 unfold mks at hr
 split at hr
 case isFalse=>cases hr
 rename_i hc
 obtain rfl:=Option.some.inj hr
 obtain ⟨h0,h1,h2⟩:=hc
 have hrun:=run_makeSlice (P:=P) w t et ti zv ht hi hzz .i64 .i64 n n h0 (Int.le_refl _) (by rw [hsz]; omega) h2 (by omega)
 have hrun2:(execOp (ev e) ⟨d,.makeSlice t x y,ty,pos,af,gd⟩).run P w=.ok (.value (.slice (some ⟨w.heap.size,0,none⟩) n.toNat n.toNat)) (w.alloc (.cells (madeCells zv.cells (n.toNat * ti.size)) et)):=by
  simp only [execOp,hx,hy,Sem.run_bind,hrun,Result.andThen_ok,Sem.run_pure]
 unfold doE; rw [hrun2]
 have hcs:(madeCells zv.cells (n.toNat * ti.size)).toList=List.replicate n.toNat zv:=by
  rw [hz1,hsz,Nat.mul_one]
  apply List.ext_getElem
  ·simp [madeCells]
  ·intro j h1 h2; simp [madeCells,Nat.mod_one]
 refine h { m:=Kc g.m w.heap.size 0,o:=Kc g.o w.heap.size i } _ _ (Dn i g w _ et 0) (.inr ⟨w.heap.size,n.toNat,_,by simp,by simp,Qd _ _ _,Qd _ _ _,CF.of (Qk _ _),?_,?_⟩)
 ·have := congrArg List.length hcs
  simp at this
  rw [List.length_replicate,hk,Nat.mul_one]; omega
 ·rw [hcs, List.length_replicate, hk, Nat.mul_one, List.take_of_length_le (by simp)]
  exact flat_rep (hz _ _) _
end
theorem up_ex {SR:Hv} {β:Type} {A:β→Ty} (h:∀ b,Up SR (A b)):Up SR (fun g w=>∃ b,A b g w):=fun g w g' w' hx ⟨b,hb⟩=>⟨b,h b g w g' w' hx hb⟩
end Go.Proofs.Ytplaipkjhlkjgaa
/- The dead rest of a chain of && or ||, told in one step. No program is named here. -/
namespace Go.Proofs.Ytplaipkjhlkjgaa
open Go.RowKit

def Mg : Value → Bool
 | .tuple ⟨[]⟩=>true
 | _=>false
theorem isUndef_eq {v:Value} (h:Mg v=true):v=undef:=by
 unfold Mg at h
 split at h
 ·rfl
 ·cases h
def Xq (e : Env) : Op → Option Value
 | .move x=>some (ev e x)
 | .pick x y z => match ev e x with
  | .bool true=>some (ev e y)
  | .bool false=>some (ev e z)
  | _=>none
 | _=>none
def Ez (ops:Array Oper) (e:Env) (o:Oper):Option (Bool × Value):=
 match o.guard with
 | none=>(Xq e o.op).map fun v=>(true,v)
 | some (j, b) => match (ops[j]?).bind (·.dst) with
  | none=>none
  | some d => match e d with
   | .bool true=>bif b then (Xq e o.op).map fun v=>(true,v) else some (false,undef)
   | .bool false=>bif b then some (false,undef) else (Xq e o.op).map fun v=>(true,v)
   | v=>bif Mg v then some (false,undef) else none
theorem Bz {P:Program} {e:Env} {op:Op} {v:Value} (h:Xq e op=some v):Pur P op e v∧Xd op=true:=by
 unfold Xq at h
 split at h
 ·injection h with h; subst h; exact ⟨Zk rfl,rfl⟩
 ·split at h
  ·rename_i hx; injection h with h; subst h; exact ⟨Zl hx rfl,rfl⟩
  ·rename_i hx; injection h with h; subst h; exact ⟨Zl hx rfl,rfl⟩
  ·cases h
 ·cases h
theorem Pc {P : Program} {ops : Array Oper} {e : Env} {o : Oper} {t : Bool} {v : Value} (h : Ez ops e o = some (t, v)) :
  Wants ops e o.guard t∧(t=true→Pur P o.op e v∧Xd o.op=true)∧(t=false→v=undef):=by
 unfold Ez at h
 have go:∀ {t v},(Xq e o.op).map (fun v=>(true,v))=some (t,v)→t=true∧Xq e o.op=some v:=fun {t v} h=>by
  cases hv:Xq e o.op with
  | none=>rw [hv] at h; cases h
  | some u=>rw [hv] at h; simp at h; exact ⟨h.1.symm ▸ rfl,by rw [h.2]⟩
 split at h
 ·rename_i hg
  obtain ⟨rfl,hv⟩:=go h
  rw [hg]
  exact ⟨.plain,fun _=>Bz hv,by simp⟩
 ·rename_i j b hg
  rw [hg]
  split at h
  ·cases h
  ·rename_i d hd
   split at h
   ·rename_i he
    cases b with
    | true=>obtain ⟨rfl,hv⟩:=go h; exact ⟨.yes hd he,fun _=>Bz hv,by simp⟩
    | false=>simp at h; obtain ⟨rfl,rfl⟩:=h; exact ⟨.no hd he rfl,by simp,by simp⟩
   ·rename_i he
    cases b with
    | true=>simp at h; obtain ⟨rfl,rfl⟩:=h; exact ⟨.no hd he rfl,by simp,by simp⟩
    | false=>obtain ⟨rfl,hv⟩:=go h; exact ⟨.yes hd he,fun _=>Bz hv,by simp⟩
   ·rename_i hb1 hb2
    cases hu:Mg (e d) with
    | true=>rw [hu] at h; simp at h; obtain ⟨rfl,rfl⟩:=h; exact ⟨.off hd (isUndef_eq hu),by simp,by simp⟩
    | false=>rw [hu] at h; cases h
def Cq (ops : Array Oper) (N : Nat) : Nat → List Oper → Env → Option (List Oper × Env)
 | 0,l,e=>some (l,e)
 | n + 1, o :: l, e => match Ez ops e o with
  | some (_,v)=>bif okO N o.dst then Cq ops N n l (Qi e o.dst v) else none
  | none=>none
 | _ + 1,[],_=>none
theorem Hp {P:Program} {N:Nat} {ro:Option Nat} {ops:Array Oper} {Q:Jp} {ds:List Deferred} {w:World} (n:Nat):∀ {l l':List Oper} {e e':Env},Cq ops N n l e=some (l',e')→EL P N ro ops l' Q e' ds w→EL P N ro ops l Q e ds w:=by
 induction n with
 | zero=>intro l l' e e' h k; simp only [Cq,Option.some.injEq,Prod.mk.injEq] at h; obtain ⟨rfl,rfl⟩:=h; exact k
 | succ n ih=>
  intro l l' e e' h k
  cases l with
  | nil=>simp [Cq] at h
  | cons o l=>
   unfold Cq at h
   split at h
   ·rename_i t v ho
    cases hN:okO N o.dst with
    | false=>rw [hN] at h; cases h
    | true=>
     rw [hN] at h
     obtain ⟨h1,h2,h3⟩:=Pc (P:=P) ho
     have:=ih h k
     obtain ⟨d,op,ty,pos,af,gd⟩:=o
     cases t with
     | true=>obtain ⟨hp,hn⟩:=h2 rfl; exact Lv hp h1 (by rw [Bool.and_eq_true]; exact ⟨hn,hN⟩) this
     | false=>rw [h3 rfl] at this; exact Su h1 hN this
   ·cases h
def Dd (ops : Array Oper) (Φ : Bf) : Nat → List Nat → (Nat → Ty) → Env → Option (List Nat × (Nat → Ty) × Env)
 | 0,l,F,e=>some (l,F,e)
 | n + 1, i :: l, F, e => match ops[i]? with
  | none=>none
  | some o => match Ez ops e o with
   | some (true, v) => match Φ i with
    | none=>Dd ops Φ n l (Kd F i (fun g w=>∀ j ∈ Gs o,F j g w)) (Qi e o.dst v)
    | some _=>none
   | some (false,_)=>Dd ops Φ n l (Kd F i (fun _ _=>True)) (Qi e o.dst undef)
   | none=>none
 | _ + 1,[],_,_=>none
theorem L_dead {SR:Hv} {P:Program} {ops:Array Oper} {C:Ty} {Φ:Bf} {Q:Env→Ty} (hnl:∀ i,SR.late i=false) (n:Nat):∀ {l l':List Nat} {F F':Nat→Ty} {e e':Env},Dd ops Φ n l F e=some (l',F',e')→Lex SR P ops C Φ Q l' F' e'→Lex SR P ops C Φ Q l F e:=by
 induction n with
 | zero=>intro l l' F F' e e' h k; simp only [Dd,Option.some.injEq,Prod.mk.injEq] at h; obtain ⟨rfl,rfl,rfl⟩:=h; exact k
 | succ n ih=>
  intro l l' F F' e e' h k
  cases l with
  | nil=>simp [Dd] at h
  | cons i l=>
   unfold Dd at h
   split at h
   ·cases h
   ·rename_i o ho
    split at h
    ·rename_i v hv
     split at h
     ·rename_i hφ
      obtain ⟨h1,h2,_⟩:=Pc (P:=P) hv
      obtain ⟨d,op,ty,pos,af,gd⟩:=o
      exact L_pur ho hφ h1 (fun _ _ _=>(h2 rfl).1) (ih h k) (hnl i)
     ·cases h
    ·rename_i hv
     obtain ⟨h1,_,_⟩:=Pc (P:=P) hv
     obtain ⟨d,op,ty,pos,af,gd⟩:=o
     exact L_skip ho h1 (ih h k)
    ·cases h
end Go.Proofs.Ytplaipkjhlkjgaa
/- Dy values: told apart, and as keys of maps. No program is named here. -/
namespace Go.Proofs.Ytplaipkjhlkjgaa
open Go.RowKit

section
variable {P:Program} {α β:Type} [GoT α] [GoT β]
theorem Se {m : Nat → Nat} {w : World} {y : β} {cs : List Value} {off : Nat} {ft : TypeId} (ha : ∀ w, (isAgg ft).run P w = .ok (GoT.agg β) w) (hs : ∀ w, (sizeOf ft).run P w = .ok (GoT.k β) w)
  (hr:GoT.rep m w y ((cs.drop off).take (GoT.k β))) (w2:World):∃ v,RV m w y v∧(part ft cs.toArray off).run P w2=.ok v w2:=by
 refine ⟨toV (GoT.agg β) ((cs.drop off).take (GoT.k β)),⟨_,hr,rfl⟩,?_⟩
 unfold part
 cases hg:GoT.agg β with
 | true=>
  rw [hg] at ha
  simp [Sem.run_bind,ha,hs,Result.andThen,List.extract_toArray,toV]
 | false=>
  rw [hg] at ha
  have hl:=GoT.len hr
  rw [GoT.k1 hg] at hl
  have hlt:off < cs.length:=by simp at hl; omega
  have hget:(cs.toArray)[off]?=some cs[off]:=by rw [List.getElem?_toArray,List.getElem?_eq_getElem hlt]
  have hv:(List.take 1 (List.drop off cs)).headD undef=cs[off]:=by rw [List.drop_eq_getElem_cons hlt]; rfl
  rw [GoT.k1 hg]
  unfold toV
  rw [cond_false,hv]
  simp only [Sem.run_bind,ha,Result.andThen,hget,Bool.false_eq_true,if_false,Sem.run_pure]
def EqD (P:Program) (α:Type) [GoT α] [DecidableEq α] (D:Nat) (t:TypeId):Prop:=∀ (d:Nat) (x y:α) (w:World) (a b:Value) (m:Nat→Nat) (wx:World) (m':Nat→Nat) (wy:World),RV m wx x a→RV m' wy y b→(Op.equalIn (d + D) t a b).run P w=.ok (decide (x=y)) w
def CkD (P:Program) (α:Type) [GoT α] (D:Nat) (t:TypeId):Prop:=∀ (em:Bool) (d:Nat) (x:α) (w:World) (a:Value) (m:Nat→Nat) (wx:World),RV m wx x a→(Instr.checkKey em (d + D) t a).run P w=.ok () w
theorem EqD.up [DecidableEq α] {D D':Nat} {t:TypeId} (h:EqD P α D t) (hD:D ≤ D'):EqD P α D' t:=fun d x y w a b m wx m' wy hx hy=>by
 obtain ⟨k,rfl⟩:∃ k,D'=k + D:=⟨D' - D,by omega⟩
 rw [← Nat.add_assoc]; exact h _ _ _ _ _ _ _ _ _ _ hx hy
theorem CkD.up {D D':Nat} {t:TypeId} (h:CkD P α D t) (hD:D ≤ D'):CkD P α D' t:=fun em d x w a m wx hx=>by
 obtain ⟨k,rfl⟩:∃ k,D'=k + D:=⟨D' - D,by omega⟩
 rw [← Nat.add_assoc]; exact h _ _ _ _ _ _ _ hx
theorem EqD.int {t:TypeId} (hu:P.underlying t=some (.int .i64)):EqD P Int 1 t:=fun d x y w a b m wx m' wy hx hy=>by
 obtain ⟨_,rfl,rfl⟩:=hx
 obtain ⟨_,rfl,rfl⟩:=hy
 refine (run_equalIn_int _ _ _ _ _ _ _ hu).trans ?_
 congr 1
theorem EqD.bool {t:TypeId} (hu:P.underlying t=some .bool):EqD P Bool 1 t:=fun d x y w a b m wx m' wy hx hy=>by
 obtain ⟨_,rfl,rfl⟩:=hx
 obtain ⟨_,rfl,rfl⟩:=hy
 refine (run_equalIn_bool _ _ _ _ _ hu).trans ?_
 congr 1
theorem CkD.int {t:TypeId} (hu:P.underlying t=some (.int .i64)):CkD P Int 1 t:=fun em d x w a m wx hx=>by
 obtain ⟨_,rfl,rfl⟩:=hx
 simp [Instr.checkKey,Sem.run_bind,run_underlying hu,toV]
theorem CkD.bool {t:TypeId} (hu:P.underlying t=some .bool):CkD P Bool 1 t:=fun em d x w a m wx hx=>by
 obtain ⟨_,rfl,rfl⟩:=hx
 simp [Instr.checkKey,Sem.run_bind,run_underlying hu,toV]
def FEq (P:Program) (α:Type) [GoT α] (D:Nat) (fs:List Field) (q:α→α→Bool):Prop:=∀ (d:Nat) (x y:α) (w:World) (cs cs':List Value) (m:Nat→Nat) (wx:World) (m':Nat→Nat) (wy:World),GoT.rep m wx x cs→GoT.rep m' wy y cs'→(Op.eqFields (d + D) cs.toArray cs'.toArray fs).run P w=.ok (q x y) w
theorem FEq.nil {D:Nat}:FEq P α D [] fun _ _=>true:=fun d x y w cs cs' m wx m' wy _ _=>by simp [Op.eqFields]
theorem FEq.cons [DecidableEq β] {D : Nat} {f : Field} {fs : List Field} {pr : α → β} {q : α → α → Bool} (hn : f.name ≠ "_") (hsub : Sub f.offset pr) (ha : ∀ w, (isAgg f.type).run P w = .ok (GoT.agg β) w) (hs : ∀ w, (sizeOf f.type).run P w = .ok (GoT.k β) w)
    (he:EqD P β D f.type) (hr:FEq P α D fs q):FEq P α D (f :: fs) fun x y=>decide (pr x=pr y) && q x y:=fun d x y w cs cs' m wx m' wy hx hy=>by
  obtain ⟨v1,r1,p1⟩:=Se (P:=P) ha hs (hsub.2 _ _ _ _ hx) w
  obtain ⟨v2,r2,p2⟩:=Se (P:=P) ha hs (hsub.2 _ _ _ _ hy) w
  have h1:=he d _ _ w _ _ _ _ _ _ r1 r2
  have h2:=hr d x y w cs cs' m wx m' wy hx hy
  simp only [Op.eqFields,Sem.run_bind,hn,ne_eq,not_false_eq_true,if_true,p1,p2,Result.andThen_ok,h1,Sem.run_ite,Sem.run_pure,h2]
  cases decide (pr x=pr y) <;> simp
theorem items_eq [DecidableEq β] {e : TypeId} {D d n : Nat} {w : World} {cs cs' : List Value} {x y : Vector β n} {m m' : Nat → Nat} {wx wy : World} (ha : ∀ w, (isAgg e).run P w = .ok (GoT.agg β) w) (hs : ∀ w, (sizeOf e).run P w = .ok (GoT.k β) w) (he : EqD P β D e)
  (hx:∀ i (h:i < n),GoT.rep m wx x[i] ((cs.drop (i * GoT.k β)).take (GoT.k β))) (hy:∀ i (h:i < n),GoT.rep m' wy y[i] ((cs'.drop (i * GoT.k β)).take (GoT.k β))):∀ is:List Nat,(∀ i ∈ is,i < n)→∃ r,(Op.eqItems (d + D) e (GoT.k β) cs.toArray cs'.toArray is).run P w=.ok r w∧(r=true ↔ ∀ i ∈ is,∀ h:i < n,x[i]=y[i])
 | [],_=>⟨true,by simp [Op.eqItems],by simp⟩
 | i :: is,h=>by
  have hi:=h i List.mem_cons_self
  obtain ⟨r,hr,hiff⟩:=items_eq (d:=d) (w:=w) ha hs he hx hy is fun j hj=>h j (List.mem_cons_of_mem _ hj)
  obtain ⟨v1,r1,p1⟩:=Se (P:=P) ha hs (hx i hi) w
  obtain ⟨v2,r2,p2⟩:=Se (P:=P) ha hs (hy i hi) w
  have h1:=he d _ _ w _ _ _ _ _ _ r1 r2
  simp only [Op.eqItems,Sem.run_bind,p1,p2,Result.andThen_ok,h1]
  by_cases hb:x[i]=y[i]
  ·rw [decide_eq_true hb]
   refine ⟨r,by simpa using hr,hiff.trans ⟨fun h j hj hl=>?_,fun h j hj hl=>h j (List.mem_cons_of_mem _ hj) hl⟩⟩
   rcases List.mem_cons.1 hj with rfl | hj
   ·exact hb
   ·exact h j hj hl
  ·rw [decide_eq_false hb]
   exact ⟨false,by simp,⟨(fun h=>by cases h),fun h=>absurd (h i List.mem_cons_self hi) hb⟩⟩
theorem EqD.array [DecidableEq β] {D n:Nat} {t e:TypeId} {γ:Type} {fi:TypeInfo→γ} {z:γ} (hu:P.underlying t=some (.array n e)) (hi:(P.info? e).map fi=some z) (hc:P.cellsOf e=GoT.k β) (ha:∀ w,(isAgg e).run P w=.ok (GoT.agg β) w) (hs:∀ w,(sizeOf e).run P w=.ok (GoT.k β) w) (he:EqD P β D e):EqD P (Vector β n) (D + 1) t:=fun d x y w a b m wx m' wy hx hy=>by
 obtain ⟨cs,⟨_,hx⟩,rfl⟩:=hx
 obtain ⟨cs',⟨_,hy⟩,rfl⟩:=hy
 obtain ⟨i,hi,_⟩:=Option.map_eq_some_iff.1 hi
 obtain ⟨r,hr,hiff⟩:=items_eq (d:=d) (w:=w) ha hs he hx hy (List.range n) fun i hi=>List.mem_range.1 hi
 refine (run_equalIn_array w (d + D) _ _ hu hi).trans ?_
 rw [hc,hr]
 congr 1
 rw [Bool.eq_iff_iff,hiff,decide_eq_true_eq]
 constructor
 ·exact fun h=>Vector.ext fun i hi=>h i (List.mem_range.2 hi) hi
 ·rintro rfl _ _ _; rfl
theorem CkD.array {D n:Nat} {t e:TypeId} {γ:Type} {fi:TypeInfo→γ} {z:γ} (hu:P.underlying t=some (.array n e)) (hi:(P.info? e).map fi=some z) (hc:P.cellsOf e=GoT.k β) (ha:∀ w,(isAgg e).run P w=.ok (GoT.agg β) w) (hs:∀ w,(sizeOf e).run P w=.ok (GoT.k β) w) (he:CkD P β D e):CkD P (Vector β n) (D + 1) t:=fun em d x w a m wx hx=>by
 obtain ⟨cs,⟨_,hx⟩,rfl⟩:=hx
 obtain ⟨i,hi,_⟩:=Option.map_eq_some_iff.1 hi
 have each:∀ j ∈ List.range' 0 n,∃ v,(part e cs.toArray (j * P.cellsOf e)).run P w=.ok v w∧(Instr.checkKey em (d + D) e v).run P w=.ok () w:=fun j hj=>by
  have hj:j < n:=by simpa using hj
  obtain ⟨v,rv,pv⟩:=Se (P:=P) ha hs (hx j hj) w
  exact ⟨v,by rw [hc]; exact pv,he _ _ _ _ _ _ _ rv⟩
 rw [← Nat.add_assoc]
 show (Instr.checkKey em (d + D + 1) t (.agg cs.toArray)).run P w=_
 rw [Instr.checkKey]
 simp only [Sem.run_bind,run_underlying hu,Result.andThen_ok]
 simp only [Std.Legacy.Range.forIn_eq_forIn_range',Std.Legacy.Range.size,Nat.sub_zero,Nat.add_one_sub_one,Nat.div_one]
 generalize List.range' 0 n=is at each
 induction is with
 | nil=>simp
 | cons j is ih=>
  obtain ⟨v,p1,p2⟩:=each j (by simp)
  simp only [List.forIn_cons,Sem.run_bind,run_sizeOf w hi,Result.andThen_ok,p1,p2,Sem.run_pure]
  exact ih fun y hy=>each y (by simp [hy])
end
section
variable {P:Program} {e:Env} {x y:Operand}
end
/-! ### Values that lie in one way -/
section
variable {α β:Type} [GoT α] [GoT β]
def Pl (α:Type) [GoT α]:Prop:=∀ x:α,∃ cs,(∀ m w cs',GoT.rep m w x cs' ↔ cs'=cs)∧∀ c ∈ cs,∀ n,Instr.sameBits n c c=true
theorem Pl.int:Pl Int:=fun x=>⟨[.int .i64 x],fun m w cs'=>Iff.rfl,fun c hc n=>by rw [List.mem_singleton.1 hc]; cases n <;> simp [Instr.sameBits]⟩
theorem Pl.bool:Pl Bool:=fun x=>⟨[.bool x],fun m w cs'=>Iff.rfl,fun c hc n=>by rw [List.mem_singleton.1 hc]; cases n <;> simp [Instr.sameBits]⟩
theorem Pl.len {x:α} {cs:List Value} (h:∀ m w cs',GoT.rep m w x cs' ↔ cs'=cs):cs.length=GoT.k α:=GoT.len ((h (fun _=>0) default cs).2 rfl)
omit [GoT β] in
theorem chunks {k : Nat} {cf : β → List Value} (hk : ∀ y, (cf y).length = k) : ∀ (ys : List β) (cs : List Value), (cs.length = ys.length * k ∧ ∀ i (h : i < ys.length), (cs.drop (i * k)).take k = cf ys[i]) ↔ cs = (ys.map cf).flatten
 | [],cs=>by simp
 | y :: ys,cs=>by
  constructor
  ·rintro ⟨h1, h2⟩
   have h0:=h2 0 (by simp)
   simp only [Nat.zero_mul,List.drop_zero,List.getElem_cons_zero] at h0
   have ih:=(chunks hk ys (cs.drop k)).1 ⟨by simp only [List.length_drop,List.length_cons,Nat.succ_mul] at h1 ⊢; omega,fun i hi=>by
    have:=h2 (i + 1) (by simp; omega)
    rw [List.drop_drop,Nat.add_comm k,← Nat.succ_mul]
    exact this⟩
   rw [List.map_cons,List.flatten_cons,← ih,← h0,List.take_append_drop]
  ·rintro rfl
   rw [List.map_cons,List.flatten_cons]
   obtain ⟨g1,g2⟩:=(chunks hk ys (ys.map cf).flatten).2 rfl
   refine ⟨by rw [List.length_append,hk,g1,List.length_cons,Nat.succ_mul,Nat.add_comm],fun i hi=>?_⟩
   cases i with
   | zero=>rw [Nat.zero_mul,List.drop_zero,List.take_left' (hk y)]; rfl
   | succ i=>
    rw [Nat.succ_mul,Nat.add_comm,← List.drop_drop,List.drop_left' (hk y)]
    exact g2 i (by simpa using hi)
theorem Pl.array {n:Nat} (h:Pl β):Pl (Vector β n):=fun x=>by
 have hcl:∀ y,(Classical.choose (h y)).length=GoT.k β:=fun y=>Pl.len (Classical.choose_spec (h y)).1
 have hch:=chunks hcl x.toList
 refine ⟨(x.toList.map fun y=>Classical.choose (h y)).flatten,fun m w cs'=>?_,fun c hc n=>?_⟩
 ·rw [← hch cs']
  constructor
  ·intro hr
   refine ⟨by rw [hr.1]; simp,fun i hi=>?_⟩
   have hi':i < n:=by simpa using hi
   have:=((Classical.choose_spec (h x[i])).1 m w _).1 (hr.2 i hi')
   simpa using this
  ·intro hr
   refine ⟨by rw [hr.1]; simp,fun i hi=>?_⟩
   have:=hr.2 i (by simpa using hi)
   exact ((Classical.choose_spec (h x[i])).1 m w _).2 (by simpa using this)
 ·obtain ⟨l, hl, hc⟩ := List.mem_flatten.1 hc
  obtain ⟨y,_,rfl⟩:=List.mem_map.1 hl
  exact (Classical.choose_spec (h y)).2 c hc n
end
end Go.Proofs.Ytplaipkjhlkjgaa
