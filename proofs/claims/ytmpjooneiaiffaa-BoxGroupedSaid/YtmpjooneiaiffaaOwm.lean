/- Slices that a function owns and writes in place. No program is named here. -/
import Derived.Test.YtmpjooneiaiffaaGen
import Derived.ChangeKeysEq
namespace Go.Proofs.Ytmpjooneiaiffaa
open Go.RowKit

theorem Qb.set {α : Type} [GoT α] {m : Nat → Nat} {w : World} : ∀ {xs : List α} {cs : List Value}, Qb m w xs cs → ∀ {i : Nat}, i < xs.length → ∀ {y : α} {cy : List Value}, GoT.rep m w y cy →
  Qb m w (xs.set i y) (cs.take (i * GoT.k α) ++ cy ++ cs.drop (i * GoT.k α + GoT.k α))
 | [],_,_,_,hi,_,_,_=>absurd hi (by simp)
 | x :: xs,_,⟨c1,c2,rfl,h1,h2⟩,0,_,y,cy,hy=>by
  have hl:=GoT.len h1
  refine ⟨cy,c2,?_,hy,h2⟩
  rw [Nat.zero_mul,Nat.zero_add,List.take_zero,List.nil_append,← hl,List.drop_left']
  rfl
 | x :: xs,_,⟨c1,c2,rfl,h1,h2⟩,i + 1,hi,y,cy,hy=>by
  have hl:=GoT.len h1
  refine ⟨c1,c2.take (i * GoT.k α) ++ cy ++ c2.drop (i * GoT.k α + GoT.k α),?_,h1,Qb.set h2 (by simpa using hi) hy⟩
  have e1:(i + 1) * GoT.k α=c1.length + i * GoT.k α:=by rw [hl,Nat.add_mul,Nat.one_mul,Nat.add_comm]
  rw [e1,List.take_length_add_append,Nat.add_assoc,List.drop_length_add_append]
  simp only [List.append_assoc]

theorem Fj {α:Type} {i:Int} {a:α} (h:idx ([]:List α) i=some a):False:=by unfold idx at h; split at h <;> simp at h
def okF (n:Nat) (fr:Nat × Nat):Prop:=fr.2=0 ∨ n ≤ fr.1
theorem okF.not {n:Nat} {fr:Nat × Nat} (h:okF n fr) {j:Nat} (hj:j < n):(decide (fr.1 ≤ j) && decide (j < fr.2))=false:=by
 rcases h with h | h <;> simp <;> omega
def CF (w:World) (b:Nat) (cs:Array Value) (t:TypeId):Prop:=∃ fr,w.heap[b]?=some (.cells cs t fr)∧okF cs.size fr
theorem CF.lt {w:World} {b:Nat} {cs:Array Value} {t:TypeId} (h:CF w b cs t):b < w.heap.size:=let ⟨_,h,_⟩:=h; Gr h
theorem CF.same {w w':World} {b:Nat} {cs:Array Value} {t:TypeId} (h:CF w b cs t) (k:w'.heap[b]?=w.heap[b]?):CF w' b cs t:=let ⟨fr,h,ho⟩:=h; ⟨fr,k.trans h,ho⟩
theorem CF.of {w:World} {b:Nat} {cs:Array Value} {t:TypeId} (h:w.heap[b]?=some (.cells cs t (0,0))):CF w b cs t:=⟨_,h,.inl rfl⟩
theorem CF.cell {w:World} {b:Nat} {cs:Array Value} {t:TypeId} (h:CF w b cs t) (j:Nat):w.cell? ⟨b,j,none⟩=cs[j]?:=by obtain ⟨fr,h,_⟩:=h; simp [World.cell?,h]
def OM {α:Type} [GoT α] (i:Nat) (g:Gh) (w:World) (t:TypeId) (xs:List α) (v:Value):Prop:=
 (v=.slice none 0 0∧xs=[]) ∨
 ∃ b c cs,v=.slice (some ⟨b,0,none⟩) xs.length c∧xs.length ≤ c∧g.o b=i∧g.m b=0∧CF w b cs t∧xs.length * GoT.k α ≤ cs.size∧Qb g.m w xs (cs.toList.take (xs.length * GoT.k α))
theorem OM.stp {α:Type} [GoT α] {i j:Nat} {g g':Gh} {w w':World} {t:TypeId} {xs:List α} {v:Value} (h:OM i g w t xs v) (k:Stp j g w g' w') (hne:Nat.beq i j=false):OM i g' w' t xs v:=by
 rcases h with h | ⟨b,c,cs,hp,hc,ho,hm,hh,hs,hf⟩
 ·exact .inl h
 have hb:=hh.lt
 have hij:g.o b ≠ j:=by rw [ho]; intro he; rw [he] at hne; simp at hne
 exact .inr ⟨b,c,cs,hp,hc,(k.o b hb hij).trans ho,(k.m b hb hij).trans hm,hh.same (k.block b hb hij),hs,hf.ch k.ch⟩

section
variable {P:Program} {e:Env} {w:World} {g:Gh} {K:Value→World→Prop} {x y z:Operand}
theorem Sj {α : Type} [GoT α] {n : Nat} {t et : TypeId} {v : Value} {xs : List α} {k : IntKind} {i : Int} {a : α}
  (ht:P.underlying t=some (.slice et)) (hs:∀ w,(sizeOf et).run P w=.ok (GoT.k α) w) (hx:ev e x=v) (hv:OM n g w et xs v) (hy:ev e y=.int k i) (hi:idx xs i=some a):Pur P (.indexAddr t x y) e (Qu v i (GoT.k α)):=fun _ _ _ _ _ w'=>by
 rcases hv with ⟨_,rfl⟩ | ⟨b,c,cs,rfl,hc,_⟩
 ·exact (Fj hi).elim
 obtain ⟨h0,hi'⟩:=Ue hi
 have hlt:i.toNat < xs.length:=(List.getElem?_eq_some_iff.1 hi').1
 have hl:i < (xs.length:Int):=by omega
 simp [execOp,hx,hy,Instr.indexAt,asIntOf,Sem.run_bind,run_underlying ht,Result.andThen,h0,hl,hs,Hr,Qu]
theorem OM.read {α : Type} [GoT α] {n : Nat} {t et : TypeId} {v : Value} {xs : List α} {i : Int} {a : α} (ha : ∀ w, (isAgg t).run P w = .ok (GoT.agg α) w) (hs : ∀ w, (sizeOf t).run P w = .ok (GoT.k α) w) (hv : OM n g w et xs v) (hi : idx xs i = some a) :
  ∃ ad u,Qu v i (GoT.k α)=.pointer (some ad)∧(∀ g' w',Ext g w g' w'→(loadVar t ad).run P w'=.ok u w')∧RV g.m w a u:=by
 rcases hv with ⟨_,rfl⟩ | ⟨b,c,cs,rfl,hc,ho,hm,hh,hsz,hf⟩
 ·exact (Fj hi).elim
 obtain ⟨h0,hi'⟩:=Ue hi
 obtain ⟨cl,hrep,hcell⟩:=hf.get hi'
 refine ⟨⟨b,0 + i.toNat * GoT.k α,none⟩,toV (GoT.agg α) cl,rfl,fun g' w' hx=>?_,⟨cl,hrep,rfl⟩⟩
 refine Hd ha hs (GoT.mono hx.ch hrep) fun j v hj=>?_
 have h1:=hcell j v hj
 rw [List.getElem?_take] at h1
 split at h1
 ·have hh' := hh.same (hx.below.block b hh.lt)
  rw [hh'.cell,Nat.zero_add]
  simpa using h1
 ·cases h1
theorem D_loadM {α : Type} [GoT α] {n : Nat} {t et : TypeId} {v : Value} {xs : List α} {i : Int} {a : α} (ha : ∀ w, (isAgg t).run P w = .ok (GoT.agg α) w) (hs : ∀ w, (sizeOf t).run P w = .ok (GoT.k α) w) (hx : ev e x = Qu v i (GoT.k α)) (hv : OM n g w et xs v) (hi : idx xs i = some a)
  (h:∀ u,RV g.m w a u→K u w):Doe P (.load t x) e w K:=fun d ty pos af gd=>by
 obtain ⟨ad,u,hp,hl,hr⟩:=OM.read (P:=P) ha hs hv hi
 have hrun:=hl g w (Ext.refl _ _)
 have hrun2:(execOp (ev e) ⟨d,.load t x,ty,pos,af,gd⟩).run P w=.ok (.value u) w:=by
  simp [execOp,hx,hp,Instr.loadAt,Instr.sureAddr,hrun]
 unfold doE; rw [hrun2]; exact h _ hr
theorem OM.pub {α:Type} [GoT α] {i:Nat} {t:TypeId} {xs:List α} {v:Value} (hp:OM i g w t xs v):∃ g',Stp i g w g' w∧RV g'.m w xs v:=by
 rcases hp with ⟨rfl,rfl⟩ | ⟨b,c,cs,rfl,hc,ho,hm,hh,hsz,hf⟩
 ·exact ⟨g,(Ext.refl g w).stp,Hc⟩
 have hs:Stp i g w { m:=Hy g.m b (xs.length * GoT.k α),o:=g.o } w:=by
  refine ⟨rfl,rfl,rfl,⟨Nat.le_refl _,fun b' _=>?_,fun _ _ _ _=>rfl⟩,fun _ _ _=>rfl,fun b' _ hne=>Wp _ _ (fun h=>hne (h ▸ ho)),fun _ _ _=>rfl⟩
  by_cases hb:b'=b
  ·subst hb; rw [hm]; exact Nat.zero_le _
  ·exact Nat.le_of_eq (Wp _ _ hb).symm
 refine ⟨_,hs,Ko rfl hc fun _=>⟨b,0,rfl,hh.lt,by rw [Nat.zero_add]; exact Nat.le_of_eq (Qd _ _ _).symm,(hf.ch hs.ch).row fun j v hj=>?_⟩⟩
 rw [List.getElem?_take] at hj
 split at hj
 ·rw [hh.cell, Nat.zero_add]
  simpa using hj
 ·cases hj
end

/-! ### A new slice, handed out to be written -/
def Plain (α:Type) [GoT α]:Prop:=∀ (m m':Nat→Nat) (w w':World) (x:α) (cs:List Value),GoT.rep m w x cs→GoT.rep m' w' x cs
theorem Qb.plain {α : Type} [GoT α] (hp : Plain α) {m m' : Nat → Nat} {w w' : World} : ∀ {xs : List α} {cs : List Value}, Qb m w xs cs → Qb m' w' xs cs
 | [],_,h=>h
 | _ :: _,_,⟨c1,c2,he,h1,h2⟩=>⟨c1,c2,he,hp _ _ _ _ _ _ h1,Qb.plain hp h2⟩
def FnG (P:Program) (f:FuncId) (args:Array Value) (g:Gh) (w:World) (R:Gh→World→Value→Prop):Prop:=
 Calls P f args w fun r w'=>∃ v,r=.returned v∧∃ g',Ext g w g' w'∧R g' w' v
end Go.Proofs.Ytmpjooneiaiffaa
/- Arrays. No program is named here. -/
namespace Go.Proofs.Ytmpjooneiaiffaa
open Go.RowKit

theorem Sx {α:Type} {n:Nat} {x:Vector α n} {i:Int} {a:α} (hi:idx x.toList i=some a):0 ≤ i∧∃ h:i.toNat < n,x[i.toNat]=a:=by
 obtain ⟨h0,hi'⟩:=Ue hi
 obtain ⟨hlt,ha⟩:=List.getElem?_eq_some_iff.1 hi'
 refine ⟨h0,by simpa using hlt,?_⟩
 simpa using ha
section
variable {P:Program} {e:Env} {w:World} {x y:Operand}
theorem Bw {α:Type} [GoT α] {n:Nat} {m:Nat→Nat} {p:Value} {v:Vector α n} {i:Int} {a:α} (hp:PT m w v p) (hi:idx v.toList i=some a):PT m w a (Gn p (i.toNat * GoT.k α)):=by
 obtain ⟨b,o,cs,rfl,hb,hm,hr,hc⟩:=hp
 obtain ⟨h0,hlt,rfl⟩:=Sx hi
 have hk:i.toNat * GoT.k α + GoT.k α ≤ n * GoT.k α:=by
  have:(i.toNat + 1) * GoT.k α ≤ n * GoT.k α:=Nat.mul_le_mul_right _ hlt
  rw [Nat.add_mul,Nat.one_mul] at this; exact this
 have hm':o + n * GoT.k α ≤ m b:=hm
 refine ⟨b,o + i.toNat * GoT.k α,_,rfl,hb,by omega,hr.2 i.toNat hlt,fun j c hj=>?_⟩
 rw [List.getElem?_take] at hj
 split at hj
 ·rw [List.getElem?_drop] at hj
  rw [Nat.add_assoc]
  exact hc _ _ hj
 ·cases hj
theorem To {α : Type} [GoT α] {n : Nat} {t et : TypeId} {p : Value} {v : Vector α n} {k : IntKind} {i : Int} {a : α} (ht : P.underlying t = some (.array n et)) (hs : ∀ w, (sizeOf et).run P w = .ok (GoT.k α) w)
  (hx:ev e x=p) (hp:∃ b o,p=.pointer (some ⟨b,o,none⟩)) (hy:ev e y=.int k i) (hi:idx v.toList i=some a):Pur P (.indexAddr t x y) e (Gn p (i.toNat * GoT.k α)):=fun _ _ _ _ _ w'=>by
 obtain ⟨b,o,rfl⟩:=hp
 obtain ⟨h0,hlt,_⟩:=Sx hi
 have hl:i < (n:Int):=by omega
 simp [execOp,hx,hy,Instr.indexAt,Instr.sureAddr,asIntOf,Sem.run_bind,run_underlying ht,h0,hl,hs,Hr,Gn]
theorem Ex {α:Type} [GoT α] {n:Nat} {m:Nat→Nat} {u:Value} {v:Vector α n} {i:Int} {a:α} (hv:RV m w v u) (hi:idx v.toList i=some a):RV m w a (partV (GoT.agg α) (i.toNat * GoT.k α) (GoT.k α) u):=by
 obtain ⟨h0,hlt,rfl⟩:=Sx hi
 exact ⟨_,hv.cells.2 i.toNat hlt,rfl⟩
theorem Oz {α : Type} [GoT α] {n : Nat} {m : Nat → Nat} {t et : TypeId} {u : Value} {v : Vector α n} {k : IntKind} {i : Int} {a : α} (ht : P.underlying t = some (.array n et)) (ha : ∀ w, (isAgg et).run P w = .ok (GoT.agg α) w) (hs : ∀ w, (sizeOf et).run P w = .ok (GoT.k α) w)
  (hx:ev e x=u) (hv:RV m w v u) (hy:ev e y=.int k i) (hi:idx v.toList i=some a):Pur P (.index t x y) e (partV (GoT.agg α) (i.toNat * GoT.k α) (GoT.k α) u):=fun _ _ _ _ _ w'=>by
 obtain ⟨cs,hr,rfl⟩:=hv
 obtain ⟨h0,hlt,_⟩:=Sx hi
 have hl:i < (n:Int):=by omega
 have h1:=hr.2 i.toNat hlt
 have hx':ev e x=.agg cs.toArray:=hx
 simp only [execOp,hx',hy,Instr.index,asIntOf,Sem.run_bind,Sem.run_pure,Result.andThen_ok,run_underlying ht]
 rw [if_pos ⟨h0,hl⟩]
 simp only [Sem.run_bind,hs,Result.andThen_ok]
 unfold part
 show _=Result.ok (Next.value (toV (GoT.agg α) ((cs.drop (i.toNat * GoT.k α)).take (GoT.k α)))) w'
 cases hg:GoT.agg α with
 | true=>
  rw [hg] at ha
  simp [Sem.run_bind,ha,hs,Result.andThen,toV,List.extract_toArray]
 | false=>
  rw [hg] at ha
  have hl:=GoT.len h1
  rw [GoT.k1 hg] at hl h1 ⊢
  have hlt2:i.toNat * 1 < cs.length:=by simp at hl; omega
  have hget:(cs.toArray)[i.toNat * 1]?=some cs[i.toNat * 1]:=by rw [List.getElem?_toArray,List.getElem?_eq_getElem hlt2]
  have hv:(List.take 1 (List.drop (i.toNat * 1) cs)).headD undef=cs[i.toNat * 1]:=by rw [List.drop_eq_getElem_cons hlt2]; rfl
  simp only [toV,cond_false,hv,Sem.run_bind,ha,Result.andThen,hget,Bool.false_eq_true,if_false,Sem.run_pure]
theorem Ug {t et : TypeId} {n s : Nat} {zc : List Value} {xs : List (Nat × Operand)} {vs : List (Nat × Value)} (ch : List (List Value)) (ht : P.underlying t = some (.array n et))
  (hl:((P.info? t).bind (·.zero)).map (·.cells.toList)=some zc) (hs:(P.info? et).map (·.size)=some s) (hz:zc=ch.flatten) (hc:∀ c ∈ ch,c.length=s) (hps:Parts e xs vs) (hfit:As ch vs) :
  Pur P (.build t xs.toArray) e (.agg (Qj ch vs).flatten.toArray):=fun _ _ _ _ _ w=>by
 have hb:P.built t vs=some (Qj ch vs).flatten.toArray:=by
  unfold Program.built
  cases hi:P.info? t with
  | none=>rw [hi] at hl; cases hl
  | some it=>
   rw [hi] at hl
   simp only [Option.bind_some] at hl
   cases hzz:it.zero with
   | none=>rw [hzz] at hl; cases hl
   | some z=>
    rw [hzz] at hl
    cases hie:P.info? et with
    | none=>rw [hie] at hs; cases hs
    | some ie=>
     rw [hie] at hs
     simp only [Option.map_some,Option.some.injEq] at hs hl
     simp only [ht,hzz,hie,hs]
     have h3:z.cells=ch.flatten.toArray:=by rw [← hz,← hl]
     rw [h3]
     refine Sn vs ch (fun i c hic=>?_) hfit
     rw [Yx (s:=s) ch 0 i c hc hic,Nat.zero_add]
 have hrun:=run_build (P:=P) w t vs.toArray _ (by simpa using hb)
 simp only [execOp,List.map_toArray,hps.map,Sem.run_bind,hrun,Result.andThen_ok,Sem.run_pure]
theorem Gp {α:Type} [GoT α] {n:Nat} {m:Nat→Nat} {xs:List α} {cs:List Value} (h:Qb m w xs cs) (hn:xs.toArray.size=n):GoT.rep m w (⟨xs.toArray,hn⟩:Vector α n) cs:=by
 have hn':xs.length=n:=by simpa using hn
 refine ⟨by rw [h.len,hn'],fun i hi=>?_⟩
 have hg:xs[i]?=some xs[i]:=List.getElem?_eq_getElem (by omega)
 obtain ⟨c,hr,hc⟩:=h.get hg
 have hl:=GoT.len hr
 have hcs:=h.len
 have hk:i * GoT.k α + GoT.k α ≤ xs.length * GoT.k α:=by
  have:(i + 1) * GoT.k α ≤ xs.length * GoT.k α:=Nat.mul_le_mul_right _ (by omega)
  rw [Nat.add_mul,Nat.one_mul] at this; exact this
 have he:(cs.drop (i * GoT.k α)).take (GoT.k α)=c:=by
  apply List.ext_getElem
  ·rw [List.length_take,List.length_drop]; omega
  ·intro j h1 h2
   have:=hc j c[j] (List.getElem?_eq_getElem h2)
   rw [List.getElem_take,List.getElem_drop]
   obtain ⟨_,h3⟩:=List.getElem?_eq_some_iff.1 this
   exact h3
 rw [he]
 exact hr
theorem Gk {α:Type} [GoT α] {m:Nat→Nat}:Qb m w ([]:List α) ([]:List (List Value)).flatten:=rfl
theorem Zw {α:Type} [GoT α] {m:Nat→Nat} {x:α} {xs:List α} {c:List Value} {cs:List (List Value)} (h1:GoT.rep m w x c) (h2:Qb m w xs cs.flatten):Qb m w (x :: xs) (c :: cs).flatten:=⟨c,cs.flatten,rfl,h1,h2⟩
end
theorem Ac {P : Program} {e : TypeId} {d : Nat} {w : World} {xs ys : Array Value} {n : Nat} {x y : Vector Int n} (he : P.underlying e = some (.int .i64)) (ha : ∀ w, (isAgg e).run P w = .ok false w)
  (hx:∀ i (h:i < n),xs[i]?=some (.int .i64 x[i])) (hy:∀ i (h:i < n),ys[i]?=some (.int .i64 y[i])):∀ is:List Nat,(∀ i ∈ is,i < n)→∃ r,(Op.eqItems (d + 1) e 1 xs ys is).run P w=.ok r w∧(r=true ↔ ∀ i ∈ is,∀ h:i < n,x[i]=y[i])
 | [],_=>⟨true,by simp [Op.eqItems],by simp⟩
 | i :: is,h=>by
  have hi:=h i List.mem_cons_self
  obtain ⟨r,hr,hiff⟩:=Ac (d:=d) (w:=w) he ha hx hy is fun j hj=>h j (List.mem_cons_of_mem _ hj)
  have p1:(part e xs (i * 1)).run P w=.ok (.int .i64 x[i]) w:=Yc ha (by rw [Nat.mul_one]; exact hx i hi)
  have p2:(part e ys (i * 1)).run P w=.ok (.int .i64 y[i]) w:=Yc ha (by rw [Nat.mul_one]; exact hy i hi)
  simp only [Op.eqItems,Sem.run_bind,p1,p2,Result.andThen_ok,run_equalIn_int _ _ _ _ _ _ _ he]
  cases hb:(x[i] == y[i]) with
  | false=>
   have hb:x[i] ≠ y[i]:=by simpa using hb
   exact ⟨false,by simp,⟨(fun h=>by cases h),fun h=>absurd (h i List.mem_cons_self hi) hb⟩⟩
  | true=>
   have hb:x[i]=y[i]:=by simpa using hb
   refine ⟨r,by simpa using hr,hiff.trans ⟨fun h j hj hl=>?_,fun h j hj hl=>h j (List.mem_cons_of_mem _ hj) hl⟩⟩
   rcases List.mem_cons.1 hj with rfl | hj
   ·exact hb
   ·exact h j hj hl
theorem seq_arr {P:Program} {t e:TypeId} {n:Nat} {β:Type} {fi:TypeInfo→β} {z:β} (hu:P.underlying t=some (.array n e)) (hi:(P.info? e).map fi=some z) (he:P.underlying e=some (.int .i64)) (hc:P.cellsOf e=1) (ha:∀ w,(isAgg e).run P w=.ok false w):SEq (α:=Vector Int n) P t:=by
 intro d x y w a b m wx m' wy hx hy
 have cell:∀ {m w} {x:Vector Int n} {v:Value},RV m w x v→∃ cs:List Value,v=.agg cs.toArray∧∀ i (h:i < n),cs.toArray[i]?=some (.int .i64 x[i]):=fun {m w x v} h=>by
  obtain ⟨cs,⟨hl,hr⟩,rfl⟩:=h
  refine ⟨cs,rfl,fun i hi=>?_⟩
  have h1:(cs.drop (i * 1)).take 1=[Value.int .i64 x[i]]:=hr i hi
  rw [Nat.mul_one] at h1
  have h2:((cs.drop i).take 1)[0]?=some (Value.int .i64 x[i]):=by rw [h1]; rfl
  rw [List.getElem?_take] at h2
  simpa using h2
 obtain ⟨i,hi,_⟩:=Option.map_eq_some_iff.1 hi
 obtain ⟨xs,rfl,hxs⟩:=cell hx
 obtain ⟨ys,rfl,hys⟩:=cell hy
 rw [run_equalIn_array w (d + 1) _ _ hu hi,hc]
 obtain ⟨r,hr,hiff⟩:=Ac (d:=d) (w:=w) he ha hxs hys (List.range n) fun i hi=>List.mem_range.1 hi
 rw [hr]
 congr 1
 rw [Bool.eq_iff_iff,hiff,decide_eq_true_eq]
 constructor
 ·exact fun h=>Vector.ext fun i hi=>h i (List.mem_range.2 hi) hi
 ·rintro rfl _ _ _; rfl
end Go.Proofs.Ytmpjooneiaiffaa
/- Functions that write what their caller owns. No program is named here. -/
namespace Go.Proofs.Ytmpjooneiaiffaa
open Go.RowKit

structure FrM (i : Nat) (g0 : Gh) (w0 : World) (g : Gh) (w : World) : Prop where
 os:w.os=w0.os
 tape:w.tape=w0.tape
 output:w.output=w0.output
 ch:Ch g0.m w0 g.m w
 block:∀ b,b < w0.heap.size→g0.o b ≠ i→w.heap[b]?=w0.heap[b]?
 m:∀ b,b < w0.heap.size→g0.o b ≠ i→g.m b=g0.m b
 o:∀ b,b < w0.heap.size→g0.o b ≠ i→g.o b=0
theorem FrM.start (i:Nat) (g:Gh) (w:World):FrM i g w { m:=g.m,o:=fun b=>if g.o b=i then 1 else 0 } w:=
 ⟨rfl,rfl,rfl,Ch.refl _ _,fun _ _ _=>rfl,fun _ _ _=>rfl,fun b _ h=>by simp [h]⟩
theorem FrM.stp {i j:Nat} {g0 g g':Gh} {w0 w w':World} (h:FrM i g0 w0 g w) (k:Stp (j + 1) g w g' w'):FrM i g0 w0 g' w':=by
 have hne:∀ b,b < w0.heap.size→g0.o b ≠ i→g.o b ≠ j + 1:=fun b hb hn=>by rw [h.o b hb hn]; omega
 have hlt:∀ b,b < w0.heap.size→b < w.heap.size:=fun b hb=>Nat.lt_of_lt_of_le hb h.ch.size
 exact ⟨k.os.trans h.os,k.tape.trans h.tape,k.output.trans h.output,h.ch.trans k.ch,
  fun b hb hn=>(k.block b (hlt b hb) (hne b hb hn)).trans (h.block b hb hn),
  fun b hb hn=>(k.m b (hlt b hb) (hne b hb hn)).trans (h.m b hb hn),fun b hb hn=>(k.o b (hlt b hb) (hne b hb hn)).trans (h.o b hb hn)⟩
theorem FrM.ext {i:Nat} {g0 g g':Gh} {w0 w w':World} (h:FrM i g0 w0 g w) (k:Ext g w g' w'):FrM i g0 w0 g' w':=by
 have hlt:∀ b,b < w0.heap.size→b < w.heap.size:=fun b hb=>Nat.lt_of_lt_of_le hb h.ch.size
 exact ⟨k.below.os.trans h.os,k.below.tape.trans h.tape,k.below.output.trans h.output,h.ch.trans k.ch,
  fun b hb hn=>(k.below.block b (hlt b hb)).trans (h.block b hb hn),fun b hb hn=>(k.m b (hlt b hb)).trans (h.m b hb hn),fun b hb hn=>(k.o b (hlt b hb)).trans (h.o b hb hn)⟩
theorem FrM.fin {i:Nat} {g0 g:Gh} {w0 w:World} (h:FrM i g0 w0 g w):Stp i g0 w0 { m:=g.m,o:=fun b=>if b < w0.heap.size then g0.o b else 0 } w:=
 ⟨h.os,h.tape,h.output,h.ch,h.block,h.m,fun b hb _=>by simp [hb]⟩
theorem OM.enter {α:Type} [GoT α] {i:Nat} {g:Gh} {w:World} {t:TypeId} {xs:List α} {v:Value} (h:OM i g w t xs v):OM 1 { m:=g.m,o:=fun b=>if g.o b=i then 1 else 0 } w t xs v:=by
 rcases h with h | ⟨b,c,cs,hp,hc,ho,hm,hh,hs,hf⟩
 ·exact .inl h
 ·exact .inr ⟨b,c,cs,hp,hc,by simp [ho],hm,hh,hs,hf⟩
def FnM (P:Program) (f:FuncId) (args:Array Value) (i:Nat) (g:Gh) (w:World) (R:Gh→World→Value→Prop):Prop:=
 Calls P f args w fun r w'=>∃ v,r=.returned v∧∃ g',Stp i g w g' w'∧R g' w' v
def OutM (i:Nat) (g:Gh) (w:World) (R:Gh→World→Value→Prop) (v:Value) (w':World):Prop:=∃ g',FrM i g w g' w'∧R { m:=g'.m,o:=fun b=>if b < w.heap.size then g.o b else 0 } w' v
theorem fnM_of_E {P : Program} {f : FuncId} {fn : Func} {c : Code} {args : Array Value} {i : Nat} {g : Gh} {w : World} {R : Gh → World → Value → Prop} (hf : P.funcs[f]? = some fn) (hb : fn.body = some c) (hN : args.size ≤ fn.ntmps)
  (h:∀ g0,g0={ m:=g.m,o:=fun b=>if g.o b=i then 1 else 0 }→FrM i g w g0 w→E P fn.ntmps none c (Ye P fn (OutM i g w R)) (Vp args) [] w):FnM P f args i g w R:=by
 refine Calls.mono (Vc hf hb hN (h _ rfl (FrM.start i g w))) ?_
 rintro r w' ⟨v,rfl,g',hfr,hr⟩
 exact ⟨v,rfl,_,hfr.fin,hr⟩
section
variable {P:Program} {e:Env} {w:World} {g:Gh} {K:Value→World→Prop}
theorem Uw {f : FuncId} {i : Nat} {xs : List Operand} {vs : List Value} {ats : Array TypeId} {R : Gh → World → Value → Prop} (hent : Enters P f) (ha : Args e xs vs) (hc : FnM P f vs.toArray i g w R)
  (h:∀ g' w' v,Stp i g w g' w'→R g' w' v→K v w'):Doe P (.call { callee:=.value (.func f),args:=xs.toArray,argTypes:=ats }) e w K:=fun d ty pos af gd=>by
 have he:=hent vs.toArray w
 have hrun:(execOp (ev e) ⟨d,.call { callee:=.value (.func f),args:=xs.toArray,argTypes:=ats },ty,pos,af,gd⟩).run P w=.ok (.enter f vs.toArray) w:=by
  simp only [execOp,resolve,ev,Deferred.ofValue,Sem.run_bind,Sem.run_pure,Result.andThen_ok,invoke,List.map_toArray,ha.map,Array.empty_append,Array.append_empty,he]
 unfold doE; rw [hrun]
 refine Calls.mono hc ?_
 rintro r w'' ⟨v,rfl,g',hx,hr⟩
 exact ⟨v,rfl,h g' w'' v hx hr⟩
theorem E_drawG {A0 A1 : Qg} {N n i : Nat} {ro : Option Nat} {Q' : Yk} {id : Nat} {ops : List Oper} {ds : List Deferred} (h0 : A0 g w) (hA0 : Up Ve A0) (words : List (Nat × (Value → Qg))) (ix : List Nat) (hix : ix = List.range n) (hm : P.follows .mixedOrders = true) (hok : Pp N ops.toArray n = true)
  (hΦ:UpL (Vg i A0 A1) words)
  (h:Lex (Vg i A0 A1) P ops.toArray (fun g' w'=>Stp i g w g' w'∧(A0 g' w' ∨ A1 g' w')) (Yl words) (fun e' _ w'=>EL P N ro ops.toArray (ops.drop n) Q' e' ds w') ix (fun _ _ _=>True) e):E P N ro (.region id ops.toArray true) Q' e ds w:=
 Ff (SR:=Vg i A0 A1) _ (Yl words) hm hok (fun _ _ _ _ hx h=>⟨h.1.trans hx.1,hx.2.2 h.2⟩) ⟨(Hw g w).stp,.inl (hA0 _ _ _ _ (Hw g w) h0)⟩ (upC hΦ) wokC (hix ▸ h)
end
end Go.Proofs.Ytmpjooneiaiffaa
