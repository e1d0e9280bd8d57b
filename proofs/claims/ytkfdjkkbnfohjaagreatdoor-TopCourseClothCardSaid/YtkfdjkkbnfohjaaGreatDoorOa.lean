/- Plain values: told apart, and as keys of maps. No program is named here. -/
import Derived.Test.YtkfdjkkbnfohjaaGreatDoorDead
import Derived.WideKeyRuns
namespace Go.Proofs.YtkfdjkkbnfohjaaGreatDoor
open Go.RowKit

section
variable {P:Program} {α β:Type} [GoT α] [GoT β]
theorem part_rep {m : Nat → Nat} {w : World} {y : β} {cs : List Value} {off : Nat} {ft : TypeId} (ha : ∀ w, (isAgg ft).run P w = .ok (GoT.agg β) w) (hs : ∀ w, (sizeOf ft).run P w = .ok (GoT.k β) w)
  (hr:GoT.rep m w y ((cs.drop off).take (GoT.k β))) (w2:World):∃ v,RV m w y v∧(part ft cs.toArray off).run P w2=.ok v w2:=by
 refine ⟨toV (GoT.agg β) ((cs.drop off).take (GoT.k β)),⟨_,hr,rfl⟩,?_⟩
 unfold part
 cases hg:GoT.agg β with
 | true=>
  rw [hg] at ha
  simp [Sem.run_bind,ha,hs,Result.andThen,List.extract_toArray,toV]
 | false=>
  rw [hg] at ha
  have hl:=GoT.len hr
  rw [GoT.k1 hg] at hl
  have hlt:off < cs.length:=by simp at hl; omega
  have hget:(cs.toArray)[off]?=some cs[off]:=by rw [List.getElem?_toArray,List.getElem?_eq_getElem hlt]
  have hv:(List.take 1 (List.drop off cs)).headD undef=cs[off]:=by rw [List.drop_eq_getElem_cons hlt]; rfl
  rw [GoT.k1 hg]
  unfold toV
  rw [cond_false,hv]
  simp only [Sem.run_bind,ha,Result.andThen,hget,Bool.false_eq_true,if_false,Sem.run_pure]
def EqD (P:Program) (α:Type) [GoT α] [DecidableEq α] (D:Nat) (t:TypeId):Prop:=∀ (d:Nat) (x y:α) (w:World) (a b:Value) (m:Nat→Nat) (wx:World) (m':Nat→Nat) (wy:World),RV m wx x a→RV m' wy y b→(Op.equalIn (d + D) t a b).run P w=.ok (decide (x=y)) w
def CkD (P:Program) (α:Type) [GoT α] (D:Nat) (t:TypeId):Prop:=∀ (em:Bool) (d:Nat) (x:α) (w:World) (a:Value) (m:Nat→Nat) (wx:World),RV m wx x a→(Instr.checkKey em (d + D) t a).run P w=.ok () w
theorem EqD.int {t:TypeId} (hu:P.underlying t=some (.int .i64)):EqD P Int 1 t:=fun d x y w a b m wx m' wy hx hy=>by
 obtain ⟨_,rfl,rfl⟩:=hx
 obtain ⟨_,rfl,rfl⟩:=hy
 refine (run_equalIn_int _ _ _ _ _ _ _ hu).trans ?_
 congr 1
theorem EqD.bool {t:TypeId} (hu:P.underlying t=some .bool):EqD P Bool 1 t:=fun d x y w a b m wx m' wy hx hy=>by
 obtain ⟨_,rfl,rfl⟩:=hx
 obtain ⟨_,rfl,rfl⟩:=hy
 refine (run_equalIn_bool _ _ _ _ _ hu).trans ?_
 congr 1
theorem CkD.int {t:TypeId} (hu:P.underlying t=some (.int .i64)):CkD P Int 1 t:=fun em d x w a m wx hx=>by
 obtain ⟨_,rfl,rfl⟩:=hx
 simp [Instr.checkKey,Sem.run_bind,run_underlying hu,toV]
theorem CkD.bool {t:TypeId} (hu:P.underlying t=some .bool):CkD P Bool 1 t:=fun em d x w a m wx hx=>by
 obtain ⟨_,rfl,rfl⟩:=hx
 simp [Instr.checkKey,Sem.run_bind,run_underlying hu,toV]
def FEq (P:Program) (α:Type) [GoT α] (D:Nat) (fs:List Field) (q:α→α→Bool):Prop:=∀ (d:Nat) (x y:α) (w:World) (cs cs':List Value) (m:Nat→Nat) (wx:World) (m':Nat→Nat) (wy:World),GoT.rep m wx x cs→GoT.rep m' wy y cs'→(Op.eqFields (d + D) cs.toArray cs'.toArray fs).run P w=.ok (q x y) w
theorem FEq.nil {D:Nat}:FEq P α D [] fun _ _=>true:=fun d x y w cs cs' m wx m' wy _ _=>by simp [Op.eqFields]
theorem FEq.cons [DecidableEq β] {D : Nat} {f : Field} {fs : List Field} {pr : α → β} {q : α → α → Bool} (hn : f.name ≠ "_") (hsub : Sub f.offset pr) (ha : ∀ w, (isAgg f.type).run P w = .ok (GoT.agg β) w) (hs : ∀ w, (sizeOf f.type).run P w = .ok (GoT.k β) w)
    (he:EqD P β D f.type) (hr:FEq P α D fs q):FEq P α D (f :: fs) fun x y=>decide (pr x=pr y) && q x y:=fun d x y w cs cs' m wx m' wy hx hy=>by
  obtain ⟨v1,r1,p1⟩:=part_rep (P:=P) ha hs (hsub.2 _ _ _ _ hx) w
  obtain ⟨v2,r2,p2⟩:=part_rep (P:=P) ha hs (hsub.2 _ _ _ _ hy) w
  have h1:=he d _ _ w _ _ _ _ _ _ r1 r2
  have h2:=hr d x y w cs cs' m wx m' wy hx hy
  simp only [Op.eqFields,Sem.run_bind,hn,ne_eq,not_false_eq_true,if_true,p1,p2,Result.andThen_ok,h1,Sem.run_ite,Sem.run_pure,h2]
  cases decide (pr x=pr y) <;> simp
theorem items_eq [DecidableEq β] {e : TypeId} {D d n : Nat} {w : World} {cs cs' : List Value} {x y : Vector β n} {m m' : Nat → Nat} {wx wy : World} (ha : ∀ w, (isAgg e).run P w = .ok (GoT.agg β) w) (hs : ∀ w, (sizeOf e).run P w = .ok (GoT.k β) w) (he : EqD P β D e)
  (hx:∀ i (h:i < n),GoT.rep m wx x[i] ((cs.drop (i * GoT.k β)).take (GoT.k β))) (hy:∀ i (h:i < n),GoT.rep m' wy y[i] ((cs'.drop (i * GoT.k β)).take (GoT.k β))):∀ is:List Nat,(∀ i ∈ is,i < n)→∃ r,(Op.eqItems (d + D) e (GoT.k β) cs.toArray cs'.toArray is).run P w=.ok r w∧(r=true ↔ ∀ i ∈ is,∀ h:i < n,x[i]=y[i])
 | [],_=>⟨true,by simp [Op.eqItems],by simp⟩
 | i :: is,h=>by
  have hi:=h i List.mem_cons_self
  obtain ⟨r,hr,hiff⟩:=items_eq (d:=d) (w:=w) ha hs he hx hy is fun j hj=>h j (List.mem_cons_of_mem _ hj)
  obtain ⟨v1,r1,p1⟩:=part_rep (P:=P) ha hs (hx i hi) w
  obtain ⟨v2,r2,p2⟩:=part_rep (P:=P) ha hs (hy i hi) w
  have h1:=he d _ _ w _ _ _ _ _ _ r1 r2
  simp only [Op.eqItems,Sem.run_bind,p1,p2,Result.andThen_ok,h1]
  by_cases hb:x[i]=y[i]
  ·rw [decide_eq_true hb]
   refine ⟨r,by simpa using hr,hiff.trans ⟨fun h j hj hl=>?_,fun h j hj hl=>h j (List.mem_cons_of_mem _ hj) hl⟩⟩
   rcases List.mem_cons.1 hj with rfl | hj
   ·exact hb
   ·exact h j hj hl
  ·rw [decide_eq_false hb]
   exact ⟨false,by simp,⟨(fun h=>by cases h),fun h=>absurd (h i List.mem_cons_self hi) hb⟩⟩
theorem EqD.array [DecidableEq β] {D n:Nat} {t e:TypeId} {γ:Type} {fi:TypeInfo→γ} {z:γ} (hu:P.underlying t=some (.array n e)) (hi:(P.info? e).map fi=some z) (hc:P.cellsOf e=GoT.k β) (ha:∀ w,(isAgg e).run P w=.ok (GoT.agg β) w) (hs:∀ w,(sizeOf e).run P w=.ok (GoT.k β) w) (he:EqD P β D e):EqD P (Vector β n) (D + 1) t:=fun d x y w a b m wx m' wy hx hy=>by
 obtain ⟨cs,⟨_,hx⟩,rfl⟩:=hx
 obtain ⟨cs',⟨_,hy⟩,rfl⟩:=hy
 obtain ⟨i,hi,_⟩:=Option.map_eq_some_iff.1 hi
 obtain ⟨r,hr,hiff⟩:=items_eq (d:=d) (w:=w) ha hs he hx hy (List.range n) fun i hi=>List.mem_range.1 hi
 refine (run_equalIn_array w (d + D) _ _ hu hi).trans ?_
 rw [hc,hr]
 congr 1
 rw [Bool.eq_iff_iff,hiff,decide_eq_true_eq]
 constructor
 ·exact fun h=>Vector.ext fun i hi=>h i (List.mem_range.2 hi) hi
 ·rintro rfl _ _ _; rfl
theorem CkD.array {D n:Nat} {t e:TypeId} {γ:Type} {fi:TypeInfo→γ} {z:γ} (hu:P.underlying t=some (.array n e)) (hi:(P.info? e).map fi=some z) (hc:P.cellsOf e=GoT.k β) (ha:∀ w,(isAgg e).run P w=.ok (GoT.agg β) w) (hs:∀ w,(sizeOf e).run P w=.ok (GoT.k β) w) (he:CkD P β D e):CkD P (Vector β n) (D + 1) t:=fun em d x w a m wx hx=>by
 obtain ⟨cs,⟨_,hx⟩,rfl⟩:=hx
 obtain ⟨i,hi,_⟩:=Option.map_eq_some_iff.1 hi
 have each:∀ j ∈ List.range' 0 n,∃ v,(part e cs.toArray (j * P.cellsOf e)).run P w=.ok v w∧(Instr.checkKey em (d + D) e v).run P w=.ok () w:=fun j hj=>by
  have hj:j < n:=by simpa using hj
  obtain ⟨v,rv,pv⟩:=part_rep (P:=P) ha hs (hx j hj) w
  exact ⟨v,by rw [hc]; exact pv,he _ _ _ _ _ _ _ rv⟩
 rw [← Nat.add_assoc]
 show (Instr.checkKey em (d + D + 1) t (.agg cs.toArray)).run P w=_
 rw [Instr.checkKey]
 simp only [Sem.run_bind,run_underlying hu,Result.andThen_ok]
 simp only [Std.Legacy.Range.forIn_eq_forIn_range',Std.Legacy.Range.size,Nat.sub_zero,Nat.add_one_sub_one,Nat.div_one]
 generalize List.range' 0 n=is at each
 induction is with
 | nil=>simp
 | cons j is ih=>
  obtain ⟨v,p1,p2⟩:=each j (by simp)
  simp only [List.forIn_cons,Sem.run_bind,run_sizeOf w hi,Result.andThen_ok,p1,p2,Sem.run_pure]
  exact ih fun y hy=>each y (by simp [hy])
end
section
variable {P:Program} {e:Env} {x y:Operand}
end
/-! ### Values that lie in one way -/
section
variable {α β:Type} [GoT α] [GoT β]
def Pl (α:Type) [GoT α]:Prop:=∀ x:α,∃ cs,(∀ m w cs',GoT.rep m w x cs' ↔ cs'=cs)∧∀ c ∈ cs,∀ n,Instr.sameBits n c c=true
theorem Pl.int:Pl Int:=fun x=>⟨[.int .i64 x],fun m w cs'=>Iff.rfl,fun c hc n=>by rw [List.mem_singleton.1 hc]; cases n <;> simp [Instr.sameBits]⟩
theorem Pl.bool:Pl Bool:=fun x=>⟨[.bool x],fun m w cs'=>Iff.rfl,fun c hc n=>by rw [List.mem_singleton.1 hc]; cases n <;> simp [Instr.sameBits]⟩
theorem Pl.len {x:α} {cs:List Value} (h:∀ m w cs',GoT.rep m w x cs' ↔ cs'=cs):cs.length=GoT.k α:=GoT.len ((h (fun _=>0) default cs).2 rfl)
omit [GoT β] in
theorem chunks {k : Nat} {cf : β → List Value} (hk : ∀ y, (cf y).length = k) : ∀ (ys : List β) (cs : List Value), (cs.length = ys.length * k ∧ ∀ i (h : i < ys.length), (cs.drop (i * k)).take k = cf ys[i]) ↔ cs = (ys.map cf).flatten
 | [],cs=>by simp
 | y :: ys,cs=>by
  constructor
  ·rintro ⟨h1, h2⟩
   have h0:=h2 0 (by simp)
   simp only [Nat.zero_mul,List.drop_zero,List.getElem_cons_zero] at h0
   have ih:=(chunks hk ys (cs.drop k)).1 ⟨by simp only [List.length_drop,List.length_cons,Nat.succ_mul] at h1 ⊢; omega,fun i hi=>by
    have:=h2 (i + 1) (by simp; omega)
    rw [List.drop_drop,Nat.add_comm k,← Nat.succ_mul]
    exact this⟩
   rw [List.map_cons,List.flatten_cons,← ih,← h0,List.take_append_drop]
  ·rintro rfl
   rw [List.map_cons,List.flatten_cons]
   obtain ⟨g1,g2⟩:=(chunks hk ys (ys.map cf).flatten).2 rfl
   refine ⟨by rw [List.length_append,hk,g1,List.length_cons,Nat.succ_mul,Nat.add_comm],fun i hi=>?_⟩
   cases i with
   | zero=>rw [Nat.zero_mul,List.drop_zero,List.take_left' (hk y)]; rfl
   | succ i=>
    rw [Nat.succ_mul,Nat.add_comm,← List.drop_drop,List.drop_left' (hk y)]
    exact g2 i (by simpa using hi)
theorem Pl.array {n:Nat} (h:Pl β):Pl (Vector β n):=fun x=>by
 have hcl:∀ y,(Classical.choose (h y)).length=GoT.k β:=fun y=>Pl.len (Classical.choose_spec (h y)).1
 have hch:=chunks hcl x.toList
 refine ⟨(x.toList.map fun y=>Classical.choose (h y)).flatten,fun m w cs'=>?_,fun c hc n=>?_⟩
 ·rw [← hch cs']
  constructor
  ·intro hr
   refine ⟨by rw [hr.1]; simp,fun i hi=>?_⟩
   have hi':i < n:=by simpa using hi
   have:=((Classical.choose_spec (h x[i])).1 m w _).1 (hr.2 i hi')
   simpa using this
  ·intro hr
   refine ⟨by rw [hr.1]; simp,fun i hi=>?_⟩
   have:=hr.2 i (by simpa using hi)
   exact ((Classical.choose_spec (h x[i])).1 m w _).2 (by simpa using this)
 ·obtain ⟨l, hl, hc⟩ := List.mem_flatten.1 hc
  obtain ⟨y,_,rfl⟩:=List.mem_map.1 hl
  exact (Classical.choose_spec (h y)).2 c hc n
end
end Go.Proofs.YtkfdjkkbnfohjaaGreatDoor
/- Own slices that are both written in place and appended to. No program is named here. -/
namespace Go.Proofs.YtkfdjkkbnfohjaaGreatDoor
open Go.RowKit

def OA {α:Type} [GoT α] (i:Nat) (g:Gh) (w:World) (t:TypeId) (xs:List α) (v:Value):Prop:=
 (v=.slice none 0 0∧xs=[]) ∨
 ∃ b c cs,v=.slice (some ⟨b,0,none⟩) xs.length c∧g.o b=i∧g.m b=0∧w.heap[b]?=some (.cells cs t (0,0))∧xs.length ≤ c∧c ≤ maxLen∧cs.size=c * GoT.k α∧FlatR g.m w xs (cs.toList.take (xs.length * GoT.k α))
section
variable {α:Type} [GoT α] {i j:Nat} {g g':Gh} {w w':World} {t:TypeId} {xs:List α} {v:Value}
theorem OA.nil:OA i g w t ([]:List α) (.slice none 0 0):=.inl ⟨rfl,rfl⟩
theorem OA.ext (h:OA i g w t xs v) (k:Ext g w g' w'):OA i g' w' t xs v:=by
 rcases h with h | ⟨b,c,cs,hp,ho,hm,hh,h1,h2,h3,hf⟩
 ·exact .inl h
 have hb:=lt_of_heap hh
 exact .inr ⟨b,c,cs,hp,(k.o b hb).trans ho,(k.m b hb).trans hm,(k.below.block b hb).trans hh,h1,h2,h3,hf.ch k.ch⟩
theorem OA.stp (h:OA i g w t xs v) (k:Stp j g w g' w') (hne:Nat.beq i j=false):OA i g' w' t xs v:=by
 rcases h with h | ⟨b,c,cs,hp,ho,hm,hh,h1,h2,h3,hf⟩
 ·exact .inl h
 have hb:=lt_of_heap hh
 have hij:g.o b ≠ j:=by rw [ho]; intro he; rw [he] at hne; simp at hne
 exact .inr ⟨b,c,cs,hp,(k.o b hb hij).trans ho,(k.m b hb hij).trans hm,(k.block b hb hij).trans hh,h1,h2,h3,hf.ch k.ch⟩
theorem OA.toM (h:OA i g w t xs v):OM i g w t xs v:=by
 rcases h with h | ⟨b,c,cs,hp,ho,hm,hh,h1,h2,h3,hf⟩
 ·exact .inl h
 exact .inr ⟨b,c,cs,hp,h1,ho,hm,CF.of hh,by rw [h3]; exact Nat.mul_le_mul_right _ h1,hf⟩
theorem OA.ofOS (h:OS i g w t ([]:List α) v):OA i g w t ([]:List α) v:=by
 rcases h with h | ⟨b,c,cs,hp,ho,hm,hh,h1,h2,h3⟩
 ·exact .inl h
 exact .inr ⟨b,c,cs,hp,ho,by simpa using hm,hh,h1,h2,h3,by simp [FlatR]⟩
end
section
variable {P:Program} {e:Env} {w:World} {g:Gh} {K:Value→World→Prop} {x y z:Operand}
theorem flat_of_rv {α:Type} [GoT α] {m:Nat→Nat} {w:World} {b n c:Nat} {cs:Array Value} {t:TypeId} {xs:List α} (h:RV m w xs (.slice (some ⟨b,0,none⟩) n c)) (hh:w.heap[b]?=some (.cells cs t (0,0))):FlatR m w xs (cs.toList.take (xs.length * GoT.k α)):=by
 rcases Nat.eq_zero_or_pos xs.length with h0 | h0
 ·have hx : xs = [] := List.eq_nil_of_length_eq_zero h0
  subst hx
  simp [FlatR]
 ·obtain ⟨a, c2, he, _, hrow⟩ := RV_list h
  obtain ⟨b2,off2,rfl,_,_,hrow⟩:=hrow h0
  injection he with he _ _
  injection he with he
  injection he with h1 h2
  subst h1; subst h2
  obtain ⟨ds,hf,hcell⟩:=hrow.flat
  have hl:=hf.len
  have hds:cs.toList.take (xs.length * GoT.k α)=ds:=by
   apply List.ext_getElem?
   intro k
   rw [List.getElem?_take]
   split
   ·rename_i hk
    have hk2:k < ds.length:=by rw [hl]; exact hk
    have:=hcell k _ (List.getElem?_eq_getElem hk2)
    simp only [World.cell?,hh,Nat.zero_add,Option.isSome_none,Bool.false_eq_true,if_false] at this
    rw [List.getElem?_eq_getElem hk2,← this,Array.getElem?_toList]
   ·rename_i hk
    rw [List.getElem?_eq_none (by omega)]
  rw [hds]
  exact hf
theorem D_appendA {α : Type} [GoT α] (hpl : Plain α) {i : Nat} {t et : TypeId} {z : Value} {bytes : Nat} {xs ys r : List α} {u v : Value}
  (ht:P.underlying t=some (.slice et)) (hinfo:(P.info? et).map (fun i=>(i.zero,i.size,i.bytes))=some (some z,GoT.k α,bytes)) (hzs:z.cells.size=GoT.k α)
  (hx:ev e x=u) (hos:OA i g w et xs u) (hy:ev e y=v) (hv:RV g.m w ys v) (hr:apnd bytes xs ys=some r)
  (h:∀ g' w' v',Stp i g w g' w'→OA i g' w' et r v'→K v' w'):Doe P (.call { callee:=.builtin .append,args:=#[x,y],argTypes:=#[t,t] }) e w K:=fun d ty pos af gd=>by
 obtain ⟨ti,hi,hz,hsz,hby⟩:=info_parts hinfo
 subst hby
 have key:∃ B:Nat→Bool,(∀ x,x < w.heap.size→B x=true→g.o x=i∧g.m x=0)∧OS 1 { m:=fun x=>if B x then xs.length * GoT.k α else g.m x,o:=fun x=>if B x then 1 else 0 } w et xs u∧RV (fun x=>if B x then xs.length * GoT.k α else g.m x) w xs u:=by
  rcases hos with ⟨rfl,rfl⟩ | ⟨b,c,cs,rfl,ho,hm,hh,hc,hcm,hcs,hf⟩
  ·exact ⟨fun _=>false,fun _ _ h=>by simp at h,OS.nil,RV_nil⟩
  ·refine ⟨fun x => x == b, fun x _ h => by simp at h; subst h; exact ⟨ho, hm⟩, .inr ⟨b, c, cs, rfl, by simp, by show (if (b == b) = true then _ else _) = _; simp, hh, hc, hcm, hcs⟩, RV_list_mk rfl hc fun _ => ⟨b, 0, rfl, lt_of_heap hh, ?_, ?_⟩⟩
   ·show 0 + _ ≤ (if (b == b)=true then _ else _); simp
   ·refine (hf.plain hpl).row fun j v hj => ?_
    rw [List.getElem?_take] at hj
    split at hj
    ·rw [Nat.zero_add]; simp only [World.cell?,hh]; simpa using hj
    ·cases hj
 obtain ⟨B,hB,hos1,hu1⟩:=key
 have hch1:Ch g.m w (fun x=>if B x then xs.length * GoT.k α else g.m x) w:=⟨Nat.le_refl _,fun x hx=>by
  by_cases hBx:B x=true
  ·rw [(hB x hx hBx).2]; exact Nat.zero_le _
  ·simp [hBx],fun _ _ _ _=>rfl⟩
 obtain ⟨g',w',v',hrun,h1,h2,h3,_⟩:=append_run (P:=P) (i:=1) t ty et ti z ht hi hz hsz hzs hos1 hu1 (hv.ch hch1) hr
 have hrun2:(execOp (ev e) ⟨d,.call { callee:=.builtin .append,args:=#[x,y],argTypes:=#[t,t] },ty,pos,af,gd⟩).run P w=.ok (.value v') w':=by
  simp only [execOp,resolve,invoke,builtin,Sem.run_bind,Sem.run_pure,Result.andThen_ok,List.map_toArray,List.map_cons,List.map_nil,hx,hy,hrun]
 unfold doE; rw [hrun2]
 have back : ∀ (B : Nat → Bool) (n b' : Nat) (g' : Gh), (∀ x, x < w.heap.size → B x = true → g.o x = i ∧ g.m x = 0) → Stp 1 { m := fun x => if B x then n else g.m x, o := fun x => if B x then 1 else 0 } w g' w' → g'.o b' = 1 →
   Stp i g w { m:=fun x=>if x=b' ∨ B x=true then 0 else g'.m x,o:=fun x=>if x=b' then i else if x < w.heap.size then g.o x else 0 } w':=fun B n b' g' hB hst ho=>append_back hB hst ho
 rcases h2 with ⟨rfl,rfl⟩ | ⟨b',c',cs',rfl,ho',hm',hh',hc',hcm',hcs'⟩
 ·refine h { m := fun x => if B x = true then 0 else g'.m x, o := fun x => if x < w.heap.size then g.o x else 0 } _ _ ?_ .nil
  have hst:=back B _ (w.heap.size + w'.heap.size) { m:=g'.m,o:=fun x=>if x=w.heap.size + w'.heap.size then 1 else g'.o x } hB ⟨h1.os,h1.tape,h1.output,h1.ch,h1.block,h1.m,fun x hx hn=>by
   have:=h1.o x hx hn
   simp only [show x ≠ w.heap.size + w'.heap.size by omega,if_false]
   exact this⟩ (by simp)
  refine ⟨hst.os,hst.tape,hst.output,⟨hst.ch.size,fun x hx=>?_,hst.ch.cells⟩,hst.block,fun x hx hn=>?_,fun x hx hn=>by simp [hx]⟩
  ·have := hst.ch.marks x hx
   simp only [show x ≠ w.heap.size + w'.heap.size by omega,false_or] at this
   exact this
  ·have := hst.m x hx hn
   simp only [show x ≠ w.heap.size + w'.heap.size by omega,false_or] at this
   exact this
 ·exact h _ _ _ (back B _ b' g' hB h1 ho') (.inr ⟨b',c',cs',rfl,by simp,by simp,hh',hc',hcm',hcs',(flat_of_rv h3 hh').plain hpl⟩)
theorem D_buildSliceA {α : Type} [GoT α] (i : Nat) {t et : TypeId} {zv : Value} {n : Nat} {os : List (Nat × Operand)} {xs : List α} {vs : List Value}
  (ht:P.underlying t=some (.slice et)) (hs:∀ w,(sizeOf et).run P w=.ok (GoT.k α) w) (hz:∀ w,(zeroValue et).run P w=.ok zv w) (hzs:zv.cells.size=GoT.k α) (hk:Nat.blt 0 (GoT.k α)=true)
  (hps:Parts e os (numbered 0 vs)) (hv:RVs g.m w xs vs) (hn:n=xs.length) (hsm:Nat.ble (xs.length * GoT.k α) 16777216=true)
  (h:∀ g' w' v,Stp i g w g' w'→OA i g' w' et xs v→Ext g w g' w'→K v w'):Doe P (.buildSlice t n os.toArray) e w K:=fun d ty pos af gd=>by
 subst hn
 have hrun:=buildSlice_run (P:=P) ht hs hz hzs (Nat.le_of_ble_eq_true hk) hv (Nat.le_of_ble_eq_true hsm)
 have hflat:=hv.flat
 have hl:=hflat.len
 generalize hcs:(vs.map fun v=>v.cells.toList).flatten=cs at hrun hflat hl
 have hst:=stp_new i g w cs.toArray et 0
 have hrun2:(execOp (ev e) ⟨d,.buildSlice t xs.length os.toArray,ty,pos,af,gd⟩).run P w=.ok (.value (.slice (some ⟨w.heap.size,0,none⟩) xs.length xs.length)) (w.alloc (.cells cs.toArray et)):=by
  simp only [execOp,List.map_toArray,hps.map,Sem.run_bind,hrun,Result.andThen_ok,Sem.run_pure]
 unfold doE; rw [hrun2]
 refine h _ _ _ hst (.inr ⟨w.heap.size, xs.length, _, rfl, updN_same _ _ _, updN_same _ _ _, heap_new_at _ _, Nat.le_refl _, ?_, by simpa using hl, ?_⟩)
  ⟨(Below.refl _ w).alloc (Nat.le_refl _) _,fun b hb=>updN_ne _ _ (by omega),fun b hb=>updN_ne _ _ (by omega)⟩
 ·have h1 : xs.length * GoT.k α ≤ 16777216 := Nat.le_of_ble_eq_true hsm
  have h2:xs.length ≤ xs.length * GoT.k α:=Nat.le_mul_of_pos_right _ (Nat.le_of_ble_eq_true hk)
  simp only [maxLen]; omega
 ·rw [← hl,List.take_of_length_le (by simp)]; exact hflat.ch hst.ch
end
/-! ### A field of an element -/
theorem FlatR.at {α : Type} [GoT α] {m : Nat → Nat} {w : World} : ∀ {xs : List α} {cs : List Value}, FlatR m w xs cs → ∀ {i : Nat} {x : α}, xs[i]? = some x → GoT.rep m w x ((cs.drop (i * GoT.k α)).take (GoT.k α))
 | [],_,_,i,x,h=>by simp at h
 | y :: ys,cs,⟨c1,c2,he,h1,h2⟩,0,x,h=>by
  simp at h; subst h; subst he
  rw [Nat.zero_mul,List.drop_zero,List.take_left' (GoT.len h1)]
  exact h1
 | y :: ys,cs,⟨c1,c2,he,h1,h2⟩,i + 1,x,h=>by
  subst he
  have:=FlatR.at h2 (i:=i) (x:=x) (by simpa using h)
  rw [Nat.add_mul,Nat.one_mul,Nat.add_comm,← List.drop_drop,List.drop_left' (GoT.len h1)]
  exact this
section
variable {P:Program} {e:Env} {w:World} {g:Gh} {K:Value→World→Prop} {x y z:Operand}
end
end Go.Proofs.YtkfdjkkbnfohjaaGreatDoor
