/- Own slices that are both written in place and appended to. No program is named here. -/
import Derived.Test.YtmpjooneiaiffaaDead
import Derived.Test.YtmpjooneiaiffaaKey
import Derived.Lib.AppendZerosOnto
namespace Go.Proofs.Ytmpjooneiaiffaa
open Go.RowKit

def OA {α:Type} [GoT α] (i:Nat) (g:Gh) (w:World) (t:TypeId) (xs:List α) (v:Value):Prop:=
 (v=.slice none 0 0∧xs=[]) ∨
 ∃ b c cs,v=.slice (some ⟨b,0,none⟩) xs.length c∧g.o b=i∧g.m b=0∧w.heap[b]?=some (.cells cs t (0,0))∧xs.length ≤ c∧c ≤ maxLen∧cs.size=c * GoT.k α∧FlatR g.m w xs (cs.toList.take (xs.length * GoT.k α))
section
variable {α:Type} [GoT α] {i j:Nat} {g g':Gh} {w w':World} {t:TypeId} {xs:List α} {v:Value}
theorem OA.nil:OA i g w t ([]:List α) (.slice none 0 0):=.inl ⟨rfl,rfl⟩
theorem OA.ext (h:OA i g w t xs v) (k:Ext g w g' w'):OA i g' w' t xs v:=by
 rcases h with h | ⟨b,c,cs,hp,ho,hm,hh,h1,h2,h3,hf⟩
 ·exact .inl h
 have hb:=lt_of_heap hh
 exact .inr ⟨b,c,cs,hp,(k.o b hb).trans ho,(k.m b hb).trans hm,(k.below.block b hb).trans hh,h1,h2,h3,hf.ch k.ch⟩
end
section
variable {P:Program} {e:Env} {w:World} {g:Gh} {K:Value→World→Prop} {x y z:Operand}
theorem flat_of_rv {α:Type} [GoT α] {m:Nat→Nat} {w:World} {b n c:Nat} {cs:Array Value} {t:TypeId} {xs:List α} (h:RV m w xs (.slice (some ⟨b,0,none⟩) n c)) (hh:w.heap[b]?=some (.cells cs t (0,0))):FlatR m w xs (cs.toList.take (xs.length * GoT.k α)):=by
 rcases Nat.eq_zero_or_pos xs.length with h0 | h0
 ·have hx : xs = [] := List.eq_nil_of_length_eq_zero h0
  subst hx
  simp [FlatR]
 ·obtain ⟨a, c2, he, _, hrow⟩ := RV_list h
  obtain ⟨b2,off2,rfl,_,_,hrow⟩:=hrow h0
  injection he with he _ _
  injection he with he
  injection he with h1 h2
  subst h1; subst h2
  obtain ⟨ds,hf,hcell⟩:=hrow.flat
  have hl:=hf.len
  have hds:cs.toList.take (xs.length * GoT.k α)=ds:=by
   apply List.ext_getElem?
   intro k
   rw [List.getElem?_take]
   split
   ·rename_i hk
    have hk2:k < ds.length:=by rw [hl]; exact hk
    have:=hcell k _ (List.getElem?_eq_getElem hk2)
    simp only [World.cell?,hh,Nat.zero_add,Option.isSome_none,Bool.false_eq_true,if_false] at this
    rw [List.getElem?_eq_getElem hk2,← this,Array.getElem?_toList]
   ·rename_i hk
    rw [List.getElem?_eq_none (by omega)]
  rw [hds]
  exact hf
theorem D_buildSliceA {α : Type} [GoT α] (i : Nat) {t et : TypeId} {zv : Value} {n : Nat} {os : List (Nat × Operand)} {xs : List α} {vs : List Value}
  (ht:P.underlying t=some (.slice et)) (hs:∀ w,(sizeOf et).run P w=.ok (GoT.k α) w) (hz:∀ w,(zeroValue et).run P w=.ok zv w) (hzs:zv.cells.size=GoT.k α) (hk:Nat.blt 0 (GoT.k α)=true)
  (hps:Parts e os (numbered 0 vs)) (hv:RVs g.m w xs vs) (hn:n=xs.length) (hsm:Nat.ble (xs.length * GoT.k α) 16777216=true)
  (h:∀ g' w' v,Stp i g w g' w'→OA i g' w' et xs v→Ext g w g' w'→K v w'):Doe P (.buildSlice t n os.toArray) e w K:=fun d ty pos af gd=>by
 subst hn
 have hrun:=buildSlice_run (P:=P) ht hs hz hzs (Nat.le_of_ble_eq_true hk) hv (Nat.le_of_ble_eq_true hsm)
 have hflat:=hv.flat
 have hl:=hflat.len
 generalize hcs:(vs.map fun v=>v.cells.toList).flatten=cs at hrun hflat hl
 have hst:=stp_new i g w cs.toArray et 0
 have hrun2:(execOp (ev e) ⟨d,.buildSlice t xs.length os.toArray,ty,pos,af,gd⟩).run P w=.ok (.value (.slice (some ⟨w.heap.size,0,none⟩) xs.length xs.length)) (w.alloc (.cells cs.toArray et)):=by
  simp only [execOp,List.map_toArray,hps.map,Sem.run_bind,hrun,Result.andThen_ok,Sem.run_pure]
 unfold doE; rw [hrun2]
 refine h _ _ _ hst (.inr ⟨w.heap.size, xs.length, _, rfl, updN_same _ _ _, updN_same _ _ _, heap_new_at _ _, Nat.le_refl _, ?_, by simpa using hl, ?_⟩)
  ⟨(Below.refl _ w).alloc (Nat.le_refl _) _,fun b hb=>updN_ne _ _ (by omega),fun b hb=>updN_ne _ _ (by omega)⟩
 ·have h1 : xs.length * GoT.k α ≤ 16777216 := Nat.le_of_ble_eq_true hsm
  have h2:xs.length ≤ xs.length * GoT.k α:=Nat.le_mul_of_pos_right _ (Nat.le_of_ble_eq_true hk)
  simp only [maxLen]; omega
 ·rw [← hl,List.take_of_length_le (by simp)]; exact hflat.ch hst.ch
theorem D_appendE {α : Type} [GoT α] (hpl : Plain α) {i : Nat} {t et : TypeId} {z : Value} {bytes : Nat} {ys r : List α} {u v : Value}
  (ht:P.underlying t=some (.slice et)) (hinfo:(P.info? et).map (fun i=>(i.zero,i.size,i.bytes))=some (some z,GoT.k α,bytes)) (hzs:z.cells.size=GoT.k α)
  (hx:ev e x=u) (hos:OS i g w et ([]:List α) u) (hfl:FullV u) (hy:ev e y=v) (hv:RV g.m w ys v) (hr:apnd bytes ([]:List α) ys=some r)
  (h:∀ g' w' v',Ext g w g' w'→OA i g' w' et r v'→K v' w'):Doe P (.call { callee:=.builtin .append,args:=#[x,y],argTypes:=#[t,t] }) e w K:=fun d ty pos af gd=>by
 obtain ⟨ti,hi,hz,hsz,hby⟩:=info_parts hinfo
 subst hby
 have key:∃ B:Nat→Bool,(∀ x,x < w.heap.size→B x=true→g.o x=i∧g.m x=0∧∀ cs t fr,w.heap[x]?=some (.cells cs t fr)→cs.size=0)∧OS 1 { m:=g.m,o:=fun x=>if B x then 1 else 0 } w et ([]:List α) u:=by
  rcases hos with ⟨rfl,_⟩ | ⟨b,c,cs,rfl,ho,hm,hh,hc,hcm,hcs⟩
  ·exact ⟨fun _=>false,fun _ _ h=>by simp at h,OS.nil⟩
  ·have h0 : 0 = c := hfl _ _ _ rfl
   refine ⟨fun x=>x == b,fun x _ h=>by
    simp at h; subst h
    refine ⟨ho,by simpa using hm,fun cs' t' fr hcs'=>?_⟩
    rw [hh] at hcs'; injection hcs' with hcs'; injection hcs' with h1; subst h1; rw [hcs,← h0,Nat.zero_mul],.inr ⟨b,c,cs,rfl,by simp,by simpa using hm,hh,hc,hcm,hcs⟩⟩
 obtain ⟨B,hB,hos1⟩:=key
 have hru:RV g.m w ([]:List α) u:=by
  rcases hos with ⟨rfl,_⟩ | ⟨b,c,cs,rfl,_,_,hh,_⟩
  ·exact RV_nil
  ·exact RV_list_mk rfl (Nat.zero_le _) (fun h=>absurd h (by simp))
 obtain ⟨g',w',v',hrun,h1,h2,h3,h4,_⟩:=append_run (P:=P) (i:=1) t ty et ti z ht hi hz hsz hzs hos1 hru hv hr
 have hrun2:(execOp (ev e) ⟨d,.call { callee:=.builtin .append,args:=#[x,y],argTypes:=#[t,t] },ty,pos,af,gd⟩).run P w=.ok (.value v') w':=by
  simp only [execOp,resolve,invoke,builtin,Sem.run_bind,Sem.run_pure,Result.andThen_ok,List.map_toArray,List.map_cons,List.map_nil,hx,hy,hrun]
 unfold doE; rw [hrun2]
 have hext:=h4 hfl
 rcases h2 with ⟨rfl,rfl⟩ | ⟨b',c',cs',rfl,ho',hm',hh',hc',hcm',hcs'⟩
 ·exact h { m:=g'.m,o:=fun x=>if x < w.heap.size then g.o x else 0 } _ _ ⟨hext.below,hext.m,fun x hx=>by simp [hx]⟩ .nil
 ·have hold:b' < w.heap.size→B b'=true:=fun hb=>by
   have:=hext.o b' hb
   rw [ho'] at this
   simp at this; exact this.symm ▸ rfl
  refine h { m:=fun x=>if x=b' then 0 else g'.m x,o:=fun x=>if x=b' then i else if x < w.heap.size then g.o x else 0 } _ _ ⟨hext.below,fun x hx=>?_,fun x hx=>?_⟩ (.inr ⟨b',c',cs',rfl,by simp,by simp,hh',hc',hcm',hcs',(flat_of_rv h3 hh').plain hpl⟩)
  ·by_cases he : x = b'
   ·subst he; simp only [if_true]; exact (hB x hx (hold hx)).2.1.symm
   ·simp only [he,if_false]; exact hext.m x hx
  ·by_cases he : x = b'
   ·subst he; simp only [if_true]; exact (hB x hx (hold hx)).1.symm
   ·simp only [he,if_false,hx,if_true]
end
theorem up_oa {α:Type} [GoT α] {i:Nat} {t:TypeId} {x:List α} {v:Value}:Up extRel (fun g w=>OA i g w t x v):=fun _ _ _ _ hx h=>h.ext hx
/-! ### A field of an element -/
section
variable {P:Program} {e:Env} {w:World} {g:Gh} {K:Value→World→Prop} {x y z:Operand}
end
end Go.Proofs.Ytmpjooneiaiffaa
/- What is lent for a call; maps that are only read; cells of arrays by a number that varies; more of makeSlice. No program is named here. -/
namespace Go.Proofs.Ytmpjooneiaiffaa
open Go.RowKit

/-! ### Lending: all that there is may be read for the time of a call -/
def allM (w : World) (m : Nat → Nat) : Nat → Nat := fun b => match w.heap[b]? with
 | some (.cells cs _ _)=>if m b < cs.size then cs.size else m b
 | _=>m b
theorem allM_le (w:World) (m:Nat→Nat) (b:Nat):m b ≤ allM w m b:=by
 unfold allM
 split
 ·split <;> omega
 ·exact Nat.le_refl _
theorem allM_cells {w:World} {m:Nat→Nat} {b:Nat} {cs:Array Value} {t:TypeId} {fr:Nat × Nat} (h:w.heap[b]?=some (.cells cs t fr)):cs.size ≤ allM w m b:=by
 unfold allM
 rw [h]
 simp only
 split <;> omega
theorem ch_all (m:Nat→Nat) (w:World):Ch m w (allM w m) w:=⟨Nat.le_refl _,fun b _=>allM_le w m b,fun _ _ _ _=>rfl⟩
def lent (g:Gh) (w:World):Gh:={ m:=allM w g.m,o:=g.o }
section
variable {α:Type} [GoT α] {i:Nat} {g g':Gh} {w w':World} {t:TypeId} {x:α} {xs:List α} {p v:Value}
theorem RV.lent {y:α} (h:RV g.m w y v):RV (allM w g.m) w y v:=h.ch (ch_all _ _)
end
section
variable {P:Program} {e:Env} {w:World} {g:Gh} {K:Value→World→Prop} {x y z:Operand}
theorem unlend {g:Gh} {w:World} {g1:Gh} {w':World} (hx:Ext (lent g w) w g1 w'):Ext g w { m:=fun b=>if b < w.heap.size then g.m b else g1.m b,o:=g1.o } w':=
 ⟨hx.below,fun b hb=>by simp [hb],hx.o⟩
theorem D_callF {f : FuncId} {xs : List Operand} {vs : List Value} {ats : Array TypeId} {R : Value → Prop} (hent : Enters P f) (ha : Args e xs vs)
  (hc:Fn P f vs.toArray (lent g w) w (fun _ _ v=>R v)) (h:∀ g' w' v,Ext g w g' w'→R v→K v w'):Doe P (.call { callee:=.value (.func f),args:=xs.toArray,argTypes:=ats }) e w K:=
 Zp (g:=lent g w) hent ha hc fun _ _ _ hx hr=>h _ _ _ (unlend hx) hr
end

/-! ### Maps that are only read -/
section
variable {κ ν:Type} [GoT ν] {enc:κ→Value}
def MR (enc:κ→Value) (g:Gh) (w:World) (m:List (κ × ν)) (v:Value):Prop:=(v=.map none∧m=[]) ∨ ∃ i,MP enc i g w m v
def MQ (enc:κ→Value) (n:Nat) (g:Gh) (w:World) (m:List (κ × ν)) (v:Value):Prop:=(v=.map none∧m=[]) ∨ (MP enc 0 g w m v∧∀ b,v=.map (some b)→b < n)
variable {g g':Gh} {w w':World} {m:List (κ × ν)} {v:Value} {i n:Nat}
theorem MP.r (h:MP enc i g w m v):MR enc g w m v:=.inr ⟨_,h⟩
theorem MQ.r (h:MQ enc n g w m v):MR enc g w m v:=h.imp id fun h=>⟨_,h.1⟩
variable {P:Program} {e:Env} {K:Value→World→Prop} {x y z:Operand} [DecidableEq κ]
end

/-! ### Cells of an array, by a number that varies -/
section
variable {β:Type} [GoT β] {n:Nat}
def vset {β:Type} {n:Nat} (v:Vector β n) (i:Int) (y:β):Vector β n:=v.setIfInBounds i.toNat y
def vat {β:Type} {n:Nat} (i:Nat) (h:i < n) (v:Vector β n):β:=v[i]
omit [GoT β] in
theorem vat_idx {v:Vector β n} {i:Int} {a:β} (h:idx v.toList i=some a):∃ hi:i.toNat < n,vat i.toNat hi v=a:=let ⟨_,hi,h⟩:=vec_idx h; ⟨hi,h⟩
theorem SubS.dyn {i:Int} (hi:i.toNat < n):SubS (α:=Vector β n) (i.toNat * GoT.k β) (vat i.toNat hi) (fun v y=>vset v i y):=by
 have h:=SubS.vec (β:=β) hi
 refine ⟨h.1,fun m w x y cs cy hx hy=>?_⟩
 have:=h.2 m w x y cs cy hx hy
 have he:vset x i y=x.set i.toNat y hi:=by
  unfold vset
  apply Vector.ext
  intro j hj
  simp [Vector.getElem_setIfInBounds,Vector.getElem_set]
 show GoT.rep m w (vset x i y) _
 rw [he]; exact this
variable {P:Program} {e:Env} {w:World} {g:Gh} {K:Value→World→Prop} {a1:Operand}
theorem D_loadD {α β : Type} [GoT α] [GoT β] {i off : Nat} {f : α → β} {t t2 : TypeId} {p : Value} {a : α} {b : β} (hsub : Sub off f) (he : f a = b) (ha : ∀ w, (isAgg t).run P w = .ok (GoT.agg β) w) (hs : ∀ w, (sizeOf t).run P w = .ok (GoT.k β) w) (hx : ev e a1 = fPtr p off) (hp : OB i g w t2 a p)
  (h:∀ v,RV g.m w b v→K v w):Doe P (.load t a1) e w K:=by
 subst he; exact D_loadF hsub ha hs hx hp h
theorem L_loadOD {α β : Type} [GoT α] [GoT β] {i off : Nat} {f : α → β} {P : Program} {g0 : Gh} {w0 : World} {t t2 : TypeId} {x : Operand} {p : Value} {a : α} {b : β} {K : Prop} (hsub : Sub off f) (he : f a = b) (ha : ∀ w, (isAgg t).run P w = .ok (GoT.agg β) w) (hs : ∀ w, (sizeOf t).run P w = .ok (GoT.k β) w) (hp : OB i g0 w0 t2 a p)
  (k:∀ v,RV g0.m w0 b v→(∀ (e:Env) (g:Gh) (w:World),(Ch g0.m w0 g.m w∧∀ b,b < w0.heap.size→g0.o b=i→w.heap[b]?=w0.heap[b]?)→ev e x=fPtr p off→∀ d ty pos af gd,(execOp (ev e) ⟨d,.load t x,ty,pos,af,gd⟩).run P w=.ok (.value v) w)→K):K:=by
 subst he; exact L_loadO hsub ha hs hp k
theorem P_indexAddrA2 {α : Type} [GoT α] {t et : TypeId} {p : Value} {v : Vector α n} {k : IntKind} {i : Int} {a : α} {x y : Operand} {o1 off : Nat} (hoff : off = o1 + i.toNat * GoT.k α) (ht : P.underlying t = some (.array n et)) (hs : ∀ w, (sizeOf et).run P w = .ok (GoT.k α) w) (hx : ev e x = fPtr p o1) (hp : ∃ b o, p = .pointer (some ⟨b, o, none⟩)) (hy : ev e y = .int k i) (hi : idx v.toList i = some a) :
  Pur P (.indexAddr t x y) e (fPtr p off):=by
 have h:=P_indexAddrA (P:=P) (e:=e) ht hs hx (by obtain ⟨b,o,rfl⟩:=hp; exact ⟨b,o + o1,rfl⟩) hy hi
 have:fPtr (fPtr p o1) (i.toNat * GoT.k α)=fPtr p off:=by
  obtain ⟨b,o,rfl⟩:=hp
  simp [fPtr,hoff,Nat.add_assoc]
 rw [← this]; exact h
end
def vmod {β:Type} {n:Nat} (v:Vector β n) (i:Int) (h:β→β):Vector β n:=if hi:i.toNat < n then v.set i.toNat (h v[i.toNat]) else v
theorem SubS.dynC {β γ : Type} [GoT β] [GoT γ] {n : Nat} {i : Int} (hi : i.toNat < n) {o off : Nat} {f : β → γ} {s : β → γ → β} (h2 : SubS o f s) (ho : off = i.toNat * GoT.k β + o) :
  SubS (α:=Vector β n) off (fun v=>f (vat i.toNat hi v)) (fun v y=>vmod v i (fun b=>s b y)):=by
 have h:=SubS.comp (SubS.vec (β:=β) hi) h2 ho
 refine ⟨h.1,fun m w x y cs cy hx hy=>?_⟩
 have:=h.2 m w x y cs cy hx hy
 show GoT.rep m w (vmod x i (fun b=>s b y)) _
 unfold vmod
 rw [dif_pos hi]
 exact this

theorem P_nilCk {P:Program} {e:Env} {x:Operand} {a:Addr} {p:Value} (hx:ev e x=p) (hp:p=.pointer (some a)):Pur P (.nilCheck x) e p:=by subst hp; exact P_nilCheck hx
/-! ### A pointer to an element, or nil -/
section
variable {P:Program} {e:Env} {x y:Operand}
end

theorem vset_vset {β:Type} {n:Nat} (v:Vector β n) (i:Int) (y:β):vset (vset v i y) i y=vset v i y:=by
 unfold vset
 apply Vector.ext
 intro j hj
 simp [Vector.getElem_setIfInBounds]
/-! ### A variable that a draw makes and stores to -/
section
variable {α:Type} [GoT α] {i:Nat} {t2:TypeId} {a0 a1:α} {g g':Gh} {w w':World}
variable {P:Program} {N:Nat}
end

/-! ### A variable that holds an own slice -/
section
variable {α:Type} [GoT α] {i j k:Nat} {g g':Gh} {w w':World} {et bt:TypeId} {xs:List α} {p:Value}
variable {P:Program} {e:Env} {K:Value→World→Prop} {x y:Operand}
end
section
variable {P:Program} {e:Env} {w:World} {g:Gh} {K:Value→World→Prop} {x y z:Operand}
end

/-! ### makeSlice, of structs too -/
section
variable {P:Program} {e:Env} {w:World} {g:Gh} {K:Value→World→Prop} {x y z:Operand}
end
/-! ### bits.Len of small numbers -/
section
variable {P:Program} {e:Env} {x y:Operand}
end
end Go.Proofs.Ytmpjooneiaiffaa
/- Steps of a walk under short names. No program is named here. -/
namespace Go.Proofs.Ytmpjooneiaiffaa
open Go.RowKit
section
variable {P:Program} {N:Nat} {ro:Option Nat} {Q:Post} {e:Env} {ds:List Deferred} {w:World} {ops:Array Oper} {rest:List Oper} {d:Option Tmp} {ty:TypeId} {pos:String} {af:Array Edge} {x y:Operand}
theorem Zo {v:Value} (hx:ev e x=v) (hd:okO N d=true) (h:EL P N ro ops rest Q (updO e d v) ds w):EL P N ro ops (⟨d,.move x,ty,pos,af,none⟩ :: rest) Q e ds w:=
 EL_pur (Zk hx) .plain (by simpa [nodef] using hd) h
theorem EL_as {v:Value} (hx:ev e x=v) (hd:okO N d=true) (h:EL P N ro ops rest Q (updO e d v) ds w):EL P N ro ops (⟨d,.assign x,ty,pos,af,none⟩ :: rest) Q e ds w:=
 EL_pur (P_assign hx) .plain (by simpa [nodef] using hd) h
theorem Zn (v:Value) (hx:ev e x=v) (hd:okO N d=true) (h:EL P N ro ops rest Q (updO e d v) ds w):EL P N ro ops (⟨d,.move x,ty,pos,af,none⟩ :: rest) Q e ds w:=Zo hx hd h
theorem Zg (v:Value) (hx:ev e x=v) (hd:okO N d=true) (h:EL P N ro ops rest Q (updO e d v) ds w):EL P N ro ops (⟨d,.assign x,ty,pos,af,none⟩ :: rest) Q e ds w:=EL_as hx hd h
theorem EL_in {op:BinOp} {t t2:TypeId} {m n:Int} (v:Value) (hx:ev e x=.int .i64 m) (hy:ev e y=.int .i64 n) (hv:iop op m n=some v) (hd:okO N d=true) (h:EL P N ro ops rest Q (updO e d v) ds w):EL P N ro ops (⟨d,.binOp op t x y t2,ty,pos,af,none⟩ :: rest) Q e ds w:=
 EL_pur (P_int hx hy hv) .plain (by simpa [nodef] using hd) h
theorem E_ct {c:Operand} {a b:Code} {t:Bool} (ht:t=true) (hc:ev e c=.bool t) (h:E P N ro a Q e ds w):E P N ro (.cond c a b) Q e ds w:=E_cond_true (hc.trans (congrArg Value.bool ht)) h
theorem E_cf {c:Operand} {a b:Code} {t:Bool} (ht:t=false) (hc:ev e c=.bool t) (h:E P N ro b Q e ds w):E P N ro (.cond c a b) Q e ds w:=E_cond_false (hc.trans (congrArg Value.bool ht)) h
end
section
variable {SR:StepRel} {P:Program} {N:Nat} {ops:Array Oper} {C:Fact} {Φ:Words} {F:Nat→Fact} {Q:Env→Fact} {e:Env} {i:Nat} {l:List Nat} {ro:Option Nat} {R:Post} {ds:List Deferred} {w:World} {rest:List Oper}
variable {op:Op} {ty:TypeId} {pos:String} {af:Array Edge} {gd:Option (Nat × Bool)} {d:Option Tmp} {j t:Nat} {b b' c':Bool}
theorem L_p (c : Value) (ho : ops[i]? = some ⟨d, op, ty, pos, af, none⟩) (hφ : Φ i = none) (hc : Pur P op e c)
  (k:Lex SR P ops C Φ Q l (setF F i (fun g w=>∀ j ∈ directOf ⟨d,op,ty,pos,af,none⟩,F j g w)) (updO e d c)) (hnl:SR.late i=false:=by rfl):Lex SR P ops C Φ Q (i :: l) F e:=
 L_pur (c:=c) ho hφ .plain (fun _ _ _=>hc) k hnl
theorem L_y (c : Value) (ho : ops[i]? = some ⟨d, op, ty, pos, af, some (j, b)⟩) (hφ : Φ i = none) (hd : (ops[j]?).bind (·.dst) = some t) (he : e t = .bool b') (hb : b' = b) (hc : Pur P op e c)
  (k:Lex SR P ops C Φ Q l (setF F i (fun g w=>∀ j' ∈ directOf ⟨d,op,ty,pos,af,some (j,b)⟩,F j' g w)) (updO e d c)) (hnl:SR.late i=false:=by rfl):Lex SR P ops C Φ Q (i :: l) F e:=
 L_pur (c:=c) ho hφ (.yes2 hd he hb) (fun _ _ _=>hc) k hnl
theorem L_s (ho:ops[i]?=some ⟨d,op,ty,pos,af,some (j,b)⟩) (hd:(ops[j]?).bind (·.dst)=some t) (he:e t=.bool b') (hb:b'=c') (hc:(c' == b)=false) (k:Lex SR P ops C Φ Q l (setF F i (fun _ _=>True)) (updO e d undef)):Lex SR P ops C Φ Q (i :: l) F e:=
 L_skip ho (.no2 hd he hb hc) k
theorem L_nl (h:∀ g w,C g w→Q e g w):Lex SR P ops C Φ Q [] F e:=L_nil fun g w ha=>h g w ha.1
theorem EL_p (v:Value) (h1:Pur P op e v) (hd:(nodef op && okO N d)=true) (h:EL P N ro ops rest R (updO e d v) ds w):EL P N ro ops (⟨d,op,ty,pos,af,none⟩ :: rest) R e ds w:=EL_pur h1 .plain hd h
theorem EL_y (v:Value) (h1:Pur P op e v) (hd:(ops[j]?).bind (·.dst)=some t) (he:e t=.bool b') (hb:b'=b) (hd':(nodef op && okO N d)=true) (h:EL P N ro ops rest R (updO e d v) ds w):EL P N ro ops (⟨d,op,ty,pos,af,some (j,b)⟩ :: rest) R e ds w:=EL_pur h1 (.yes2 hd he hb) hd' h
theorem EL_s (hd:(ops[j]?).bind (·.dst)=some t) (he:e t=.bool b') (hb:b'=c') (hc:(c' == b)=false) (hd':okO N d=true) (h:EL P N ro ops rest R (updO e d undef) ds w):EL P N ro ops (⟨d,op,ty,pos,af,some (j,b)⟩ :: rest) R e ds w:=EL_skip (.no2 hd he hb hc) hd' h
end
section
variable {P:Program} {e:Env} {w:World} {g:Gh} {K:Value→World→Prop} {x y:Operand}
end
theorem sinj.{u} {α:Type u} {a b:α} (h:some a=some b):a=b:=Option.some.inj h
end Go.Proofs.Ytmpjooneiaiffaa
/- slices.Grow of nil: an own slice of nothing, with room. No program is named here. -/
namespace Go.Proofs.Ytmpjooneiaiffaa
open Go.RowKit Go.Lib

section
variable {P:Program} {e:Env} {w:World} {g:Gh} {K:Value→World→Prop} {x y z:Operand}
end
section
variable {P:Program} {N:Nat} {w:World} {g:Gh}
end
end Go.Proofs.Ytmpjooneiaiffaa
/- Appends to own slices in regions that draw their order. No program is named here. -/
namespace Go.Proofs.Ytmpjooneiaiffaa
open Go.RowKit

theorem FlatR.pre {α : Type} [GoT α] {m : Nat → Nat} {w : World} : ∀ {xs ys : List α} {cs : List Value}, FlatR m w (xs ++ ys) cs → FlatR m w xs (cs.take (xs.length * GoT.k α))
 | [],_,_,_=>by simp [FlatR]
 | x :: xs,ys,_,⟨c1,c2,rfl,h1,h2⟩=>by
  have hl:=GoT.len h1
  refine ⟨c1,c2.take (xs.length * GoT.k α),?_,h1,FlatR.pre h2⟩
  rw [List.length_cons,Nat.add_mul,Nat.one_mul,List.take_append,List.take_of_length_le (by omega),hl]
  congr 2; omega
section
variable {α:Type} [GoT α] {i:Nat} {et:TypeId} {xs r:List α} {u:Value} {g g':Gh} {w w':World}
variable {P:Program} {N:Nat}
end
end Go.Proofs.Ytmpjooneiaiffaa
