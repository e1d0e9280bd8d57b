/- What is lent for a call; maps that are only read; cells of arrays by a number that varies; more of makeSlice. No program is named here. -/
import Derived.Test.YtmpjooneiaiffaaOa
import Derived.Test.YtmpjooneiaiffaaKey
import Derived.Lib.AppendZerosOnto
namespace Go.Proofs.Ytmpjooneiaiffaa
open Go.RowKit

/-! ### Lending: all that there is may be read for the time of a call -/
section
variable {α:Type} [GoT α] {i:Nat} {g g':Gh} {w w':World} {t:TypeId} {x:α} {xs:List α} {p v:Value}
end
section
variable {P:Program} {e:Env} {w:World} {g:Gh} {K:Value→World→Prop} {x y z:Operand}
end

/-! ### Maps that are only read -/
section
variable {κ ν:Type} [GoT ν] {enc:κ→Value}
def MR (enc:κ→Value) (g:Gh) (w:World) (m:List (κ × ν)) (v:Value):Prop:=(v=.map none∧m=[]) ∨ ∃ i,MP enc i g w m v
def MQ (enc:κ→Value) (n:Nat) (g:Gh) (w:World) (m:List (κ × ν)) (v:Value):Prop:=(v=.map none∧m=[]) ∨ (MP enc 0 g w m v∧∀ b,v=.map (some b)→b < n)
variable {g g':Gh} {w w':World} {m:List (κ × ν)} {v:Value} {i n:Nat}
theorem MR.nil:MR enc g w ([]:List (κ × ν)) (.map none):=.inl ⟨rfl,rfl⟩
theorem MP.r (h:MP enc i g w m v):MR enc g w m v:=.inr ⟨_,h⟩
theorem MQ.r (h:MQ enc n g w m v):MR enc g w m v:=h.imp id fun h=>⟨_,h.1⟩
theorem MP.lt {b:Nat} (h:MP enc i g w m (.map (some b))):b < w.heap.size:=by
 obtain ⟨b',es,cl,hv,_,hh,_⟩:=h
 injection hv with hv; injection hv with hv; subst hv
 exact Gr hh
theorem MQ.enter {g0 gI:Gh} {wI:World} (h:MR enc gI wI m v) (hm:g0.m=gI.m) (hfr:Fr gI wI g0 wI):MQ enc wI.heap.size g0 wI m v:=by
 rcases h with h | ⟨i,h⟩
 ·exact .inl h
 refine .inr ⟨?_,fun b hb=>by subst hb; exact h.lt⟩
 obtain ⟨b,es,cl,hv,ho,hh,h1,h2,h3⟩:=h
 exact ⟨b,es,cl,hv,hfr.o b (Gr hh),hh,h1,h2,hm ▸ h3⟩
theorem MQ.stp {j:Nat} (h:MQ enc n g w m v) (k:Stp (j + 1) g w g' w'):MQ enc n g' w' m v:=h.imp id fun h=>⟨h.1.stp k (by cases j <;> rfl),h.2⟩
variable {P:Program} {e:Env} {K:Value→World→Prop} {x y z:Operand} [DecidableEq κ]
end

/-! ### Cells of an array, by a number that varies -/
section
variable {β:Type} [GoT β] {n:Nat}
def Ku {β:Type} {n:Nat} (v:Vector β n) (i:Int) (y:β):Vector β n:=v.setIfInBounds i.toNat y
def vat {β:Type} {n:Nat} (i:Nat) (h:i < n) (v:Vector β n):β:=v[i]
omit [GoT β] in
theorem Wr {v:Vector β n} {i:Int} {a:β} (h:idx v.toList i=some a):∃ hi:i.toNat < n,vat i.toNat hi v=a:=let ⟨_,hi,h⟩:=Sx h; ⟨hi,h⟩
theorem Gv.dyn {i:Int} (hi:i.toNat < n):Gv (α:=Vector β n) (i.toNat * GoT.k β) (vat i.toNat hi) (fun v y=>Ku v i y):=by
 have h:=Gv.vec (β:=β) hi
 refine ⟨h.1,fun m w x y cs cy hx hy=>?_⟩
 have:=h.2 m w x y cs cy hx hy
 have he:Ku x i y=x.set i.toNat y hi:=by
  unfold Ku
  apply Vector.ext
  intro j hj
  simp [Vector.getElem_setIfInBounds,Vector.getElem_set]
 show GoT.rep m w (Ku x i y) _
 rw [he]; exact this
variable {P:Program} {e:Env} {w:World} {g:Gh} {K:Value→World→Prop} {a1:Operand}
theorem Nf {α β : Type} [GoT α] [GoT β] {i off : Nat} {f : α → β} {t t2 : TypeId} {p : Value} {a : α} {b : β} (hsub : Sub off f) (he : f a = b) (ha : ∀ w, (isAgg t).run P w = .ok (GoT.agg β) w) (hs : ∀ w, (sizeOf t).run P w = .ok (GoT.k β) w) (hx : ev e a1 = Gn p off) (hp : OB i g w t2 a p)
  (h:∀ v,RV g.m w b v→K v w):Doe P (.load t a1) e w K:=by
 subst he; exact Qo hsub ha hs hx hp h
theorem Rc {α β : Type} [GoT α] [GoT β] {i off : Nat} {f : α → β} {P : Program} {g0 : Gh} {w0 : World} {t t2 : TypeId} {x : Operand} {p : Value} {a : α} {b : β} {K : Prop} (hsub : Sub off f) (he : f a = b) (ha : ∀ w, (isAgg t).run P w = .ok (GoT.agg β) w) (hs : ∀ w, (sizeOf t).run P w = .ok (GoT.k β) w) (hp : OB i g0 w0 t2 a p)
  (k:∀ v,RV g0.m w0 b v→(∀ (e:Env) (g:Gh) (w:World),(Ch g0.m w0 g.m w∧∀ b,b < w0.heap.size→g0.o b=i→w.heap[b]?=w0.heap[b]?)→ev e x=Gn p off→∀ d ty pos af gd,(execOp (ev e) ⟨d,.load t x,ty,pos,af,gd⟩).run P w=.ok (.value v) w)→K):K:=by
 subst he; exact Wa hsub ha hs hp k
theorem Qs {α : Type} [GoT α] {t et : TypeId} {p : Value} {v : Vector α n} {k : IntKind} {i : Int} {a : α} {x y : Operand} {o1 off : Nat} (hoff : off = o1 + i.toNat * GoT.k α) (ht : P.underlying t = some (.array n et)) (hs : ∀ w, (sizeOf et).run P w = .ok (GoT.k α) w) (hx : ev e x = Gn p o1) (hp : ∃ b o, p = .pointer (some ⟨b, o, none⟩)) (hy : ev e y = .int k i) (hi : idx v.toList i = some a) :
  Pur P (.indexAddr t x y) e (Gn p off):=by
 have h:=To (P:=P) (e:=e) ht hs hx (by obtain ⟨b,o,rfl⟩:=hp; exact ⟨b,o + o1,rfl⟩) hy hi
 have:Gn (Gn p o1) (i.toNat * GoT.k α)=Gn p off:=by
  obtain ⟨b,o,rfl⟩:=hp
  simp [Gn,hoff,Nat.add_assoc]
 rw [← this]; exact h
end
def Jq {β:Type} {n:Nat} (v:Vector β n) (i:Int) (h:β→β):Vector β n:=if hi:i.toNat < n then v.set i.toNat (h v[i.toNat]) else v
theorem Gv.dynC {β γ : Type} [GoT β] [GoT γ] {n : Nat} {i : Int} (hi : i.toNat < n) {o off : Nat} {f : β → γ} {s : β → γ → β} (h2 : Gv o f s) (ho : off = i.toNat * GoT.k β + o) :
  Gv (α:=Vector β n) off (fun v=>f (vat i.toNat hi v)) (fun v y=>Jq v i (fun b=>s b y)):=by
 have h:=Gv.comp (Gv.vec (β:=β) hi) h2 ho
 refine ⟨h.1,fun m w x y cs cy hx hy=>?_⟩
 have:=h.2 m w x y cs cy hx hy
 show GoT.rep m w (Jq x i (fun b=>s b y)) _
 unfold Jq
 rw [dif_pos hi]
 exact this

theorem Fi {P:Program} {e:Env} {x:Operand} {a:Addr} {p:Value} (hx:ev e x=p) (hp:p=.pointer (some a)):Pur P (.nilCheck x) e p:=by subst hp; exact Er hx
/-! ### A pointer to an element, or nil -/
section
variable {P:Program} {e:Env} {x y:Operand}
end

theorem vset_vset {β:Type} {n:Nat} (v:Vector β n) (i:Int) (y:β):Ku (Ku v i y) i y=Ku v i y:=by
 unfold Ku
 apply Vector.ext
 intro j hj
 simp [Vector.getElem_setIfInBounds]
/-! ### A variable that a draw makes and stores to -/
section
variable {α:Type} [GoT α] {i:Nat} {t2:TypeId} {a0 a1:α} {g g':Gh} {w w':World}
variable {P:Program} {N:Nat}
end

/-! ### A variable that holds an own slice -/
def BX {α:Type} [GoT α] (i j:Nat) (g:Gh) (w:World) (et bt:TypeId) (xs:List α) (p:Value):Prop:=∃ q:Fv,OB i g w bt q p∧OM j g w et xs q.v
section
variable {α:Type} [GoT α] {i j k:Nat} {g g':Gh} {w w':World} {et bt:TypeId} {xs:List α} {p:Value}
theorem BX.stp (h:BX i j g w et bt xs p) (hx:Stp k g w g' w') (h1:Nat.beq i k=false) (h2:Nat.beq j k=false:=by rfl):BX i j g' w' et bt xs p:=let ⟨q,k1,k2⟩:=h; ⟨q,k1.stp hx h1,k2.stp hx h2⟩
variable {P:Program} {e:Env} {K:Value→World→Prop} {x y:Operand}
end
section
variable {P:Program} {e:Env} {w:World} {g:Gh} {K:Value→World→Prop} {x y z:Operand}
end

theorem De {α : Type} [GoT α] {m : Nat → Nat} {w : World} {x : α} {cs : List Value} (h : GoT.rep m w x cs) : ∀ n : Nat, Qb m w (List.replicate n x) (List.replicate n cs).flatten
 | 0=>rfl
 | n + 1=>⟨cs,(List.replicate n cs).flatten,rfl,h,De h n⟩
theorem Pm {α:Type} [GoT α] {n:Nat} {m:Nat→Nat} {w:World} {x:α} {cs:List Value} (h:GoT.rep m w x cs):GoT.rep m w (Vector.replicate n x) (List.replicate n cs).flatten:=by
 have:=Gp (n:=n) (De h n) (by simp)
 have he:(⟨(List.replicate n x).toArray,by simp⟩:Vector α n)=Vector.replicate n x:=by
  apply Vector.toList_inj.1; simp [Vector.toList]
 rw [he] at this; exact this

/-! ### makeSlice, of structs too -/
section
variable {P:Program} {e:Env} {w:World} {g:Gh} {K:Value→World→Prop} {x y z:Operand}
end
/-! ### bits.Len of small numbers -/
section
variable {P:Program} {e:Env} {x y:Operand}
end
end Go.Proofs.Ytmpjooneiaiffaa
/- Steps of a walk under short names. No program is named here. -/
namespace Go.Proofs.Ytmpjooneiaiffaa
open Go.RowKit
section
variable {P:Program} {N:Nat} {ro:Option Nat} {Q:Yk} {e:Env} {ds:List Deferred} {w:World} {ops:Array Oper} {rest:List Oper} {d:Option Tmp} {ty:TypeId} {pos:String} {af:Array Edge} {x y:Operand}
theorem Zo {v:Value} (hx:ev e x=v) (hd:okO N d=true) (h:EL P N ro ops rest Q (Qa e d v) ds w):EL P N ro ops (⟨d,.move x,ty,pos,af,none⟩ :: rest) Q e ds w:=
 Rk (Zk hx) .plain (by simpa [Dd] using hd) h
theorem EL_as {v:Value} (hx:ev e x=v) (hd:okO N d=true) (h:EL P N ro ops rest Q (Qa e d v) ds w):EL P N ro ops (⟨d,.assign x,ty,pos,af,none⟩ :: rest) Q e ds w:=
 Rk (Tf hx) .plain (by simpa [Dd] using hd) h
theorem Zn (v:Value) (hx:ev e x=v) (hd:okO N d=true) (h:EL P N ro ops rest Q (Qa e d v) ds w):EL P N ro ops (⟨d,.move x,ty,pos,af,none⟩ :: rest) Q e ds w:=Zo hx hd h
theorem Zg (v:Value) (hx:ev e x=v) (hd:okO N d=true) (h:EL P N ro ops rest Q (Qa e d v) ds w):EL P N ro ops (⟨d,.assign x,ty,pos,af,none⟩ :: rest) Q e ds w:=EL_as hx hd h
theorem Gy {op:BinOp} {t t2:TypeId} {m n:Int} (v:Value) (hx:ev e x=.int .i64 m) (hy:ev e y=.int .i64 n) (hv:iop op m n=some v) (hd:okO N d=true) (h:EL P N ro ops rest Q (Qa e d v) ds w):EL P N ro ops (⟨d,.binOp op t x y t2,ty,pos,af,none⟩ :: rest) Q e ds w:=
 Rk (Td hx hy hv) .plain (by simpa [Dd] using hd) h
theorem Wi {c:Operand} {a b:Code} {t:Bool} (ht:t=true) (hc:ev e c=.bool t) (h:E P N ro a Q e ds w):E P N ro (.cond c a b) Q e ds w:=Ts (hc.trans (congrArg Value.bool ht)) h
theorem Wg {c:Operand} {a b:Code} {t:Bool} (ht:t=false) (hc:ev e c=.bool t) (h:E P N ro b Q e ds w):E P N ro (.cond c a b) Q e ds w:=Tj (hc.trans (congrArg Value.bool ht)) h
end
section
variable {SR:Je} {P:Program} {N:Nat} {ops:Array Oper} {C:Qg} {Φ:Xr} {F:Nat→Qg} {Q:Env→Qg} {e:Env} {i:Nat} {l:List Nat} {ro:Option Nat} {R:Yk} {ds:List Deferred} {w:World} {rest:List Oper}
variable {op:Op} {ty:TypeId} {pos:String} {af:Array Edge} {gd:Option (Nat × Bool)} {d:Option Tmp} {j t:Nat} {b b' c':Bool}
theorem Gb (c : Value) (ho : ops[i]? = some ⟨d, op, ty, pos, af, none⟩) (hφ : Φ i = none) (hc : Pur P op e c)
  (k:Lex SR P ops C Φ Q l (Kz F i (fun g w=>∀ j ∈ Ta ⟨d,op,ty,pos,af,none⟩,F j g w)) (Qa e d c)) (hnl:SR.late i=false:=by rfl):Lex SR P ops C Φ Q (i :: l) F e:=
 Aj (c:=c) ho hφ .plain (fun _ _ _=>hc) k hnl
theorem L_y (c : Value) (ho : ops[i]? = some ⟨d, op, ty, pos, af, some (j, b)⟩) (hφ : Φ i = none) (hd : (ops[j]?).bind (·.dst) = some t) (he : e t = .bool b') (hb : b' = b) (hc : Pur P op e c)
  (k:Lex SR P ops C Φ Q l (Kz F i (fun g w=>∀ j' ∈ Ta ⟨d,op,ty,pos,af,some (j,b)⟩,F j' g w)) (Qa e d c)) (hnl:SR.late i=false:=by rfl):Lex SR P ops C Φ Q (i :: l) F e:=
 Aj (c:=c) ho hφ (.yes2 hd he hb) (fun _ _ _=>hc) k hnl
theorem L_s (ho:ops[i]?=some ⟨d,op,ty,pos,af,some (j,b)⟩) (hd:(ops[j]?).bind (·.dst)=some t) (he:e t=.bool b') (hb:b'=c') (hc:(c' == b)=false) (k:Lex SR P ops C Φ Q l (Kz F i (fun _ _=>True)) (Qa e d undef)):Lex SR P ops C Φ Q (i :: l) F e:=
 L_skip ho (.no2 hd he hb hc) k
theorem Ul (h:∀ g w,C g w→Q e g w):Lex SR P ops C Φ Q [] F e:=Jr fun g w ha=>h g w ha.1
theorem Zy (v:Value) (h1:Pur P op e v) (hd:(Dd op && okO N d)=true) (h:EL P N ro ops rest R (Qa e d v) ds w):EL P N ro ops (⟨d,op,ty,pos,af,none⟩ :: rest) R e ds w:=Rk h1 .plain hd h
theorem Zz (v:Value) (h1:Pur P op e v) (hd:(ops[j]?).bind (·.dst)=some t) (he:e t=.bool b') (hb:b'=b) (hd':(Dd op && okO N d)=true) (h:EL P N ro ops rest R (Qa e d v) ds w):EL P N ro ops (⟨d,op,ty,pos,af,some (j,b)⟩ :: rest) R e ds w:=Rk h1 (.yes2 hd he hb) hd' h
theorem Ga (hd:(ops[j]?).bind (·.dst)=some t) (he:e t=.bool b') (hb:b'=c') (hc:(c' == b)=false) (hd':okO N d=true) (h:EL P N ro ops rest R (Qa e d undef) ds w):EL P N ro ops (⟨d,op,ty,pos,af,some (j,b)⟩ :: rest) R e ds w:=Cx (.no2 hd he hb hc) hd' h
end
section
variable {P:Program} {e:Env} {w:World} {g:Gh} {K:Value→World→Prop} {x y:Operand}
end
theorem sinj.{u} {α:Type u} {a b:α} (h:some a=some b):a=b:=Option.some.inj h
end Go.Proofs.Ytmpjooneiaiffaa
/- slices.Grow of nil: an own slice of nothing, with room. No program is named here. -/
namespace Go.Proofs.Ytmpjooneiaiffaa
open Go.RowKit Go.Lib

def grwz (bytes:Nat) (n:Int):Option Unit:=
 if 0 < n∧n ≤ 4611686018427387904∧(bytes:Int) * n ≤ 140737488355328 then some () else none
theorem OS.handn {α:Type} [GoT α] {j i:Nat} {g0 g:Gh} {w0 w:World} {t:TypeId} {xs:List α} {v:Value} (hfr:Fr g0 w0 g w) (h:OS (j + 1) g w t xs v) (hr:RV g.m w xs v):∃ g',Ext g0 w0 g' w∧OS i g' w t xs v∧RV g'.m w xs v:=by
 rcases h with ⟨h1,h2⟩ | ⟨b,c,cs,hv,ho,hm,hh,hc,hcm,hcs⟩
 ·exact ⟨_,hfr.fin,.inl ⟨h1,h2⟩,by subst h2; exact h1 ▸ Hc⟩
 ·have hb : ¬ b < w0.heap.size := fun hb => by have := hfr.o b hb; omega
  refine ⟨{ m:=g.m,o:=Hy (fun b=>if b < w0.heap.size then g0.o b else 0) b i },⟨hfr.below,hfr.m,fun b' hb'=>?_⟩,.inr ⟨b,c,cs,hv,by simp [Hy],hm,hh,hc,hcm,hcs⟩,hr⟩
  rw [show ({ m:=g.m,o:=Hy (fun b=>if b < w0.heap.size then g0.o b else 0) b i }:Gh).o b'=Hy (fun b=>if b < w0.heap.size then g0.o b else 0) b i b' from rfl,Wp _ _ (show b' ≠ b from fun h=>hb (h ▸ hb'))]
  simp [hb']
section
variable {P:Program} {e:Env} {w:World} {g:Gh} {K:Value→World→Prop} {x y z:Operand}
theorem P_cap {t et : TypeId} {a : Option Addr} {n c : Nat} (ht : P.underlying t = some (.slice et)) (hx : ev e x = .slice a n c) :
  Pur P (.call { callee:=.builtin .cap,args:=#[x],argTypes:=#[t] }) e (.int .i64 (c:Int)):=fun _ _ _ _ _ _=>by
 simp [execOp,resolve,invoke,builtin,Builtin.cap_,hx,run_underlying ht,goInt]
theorem P_cutN {t et : TypeId} {a : Option Addr} {n c k : Nat} {y : Operand} (ht : P.underlying t = some (.slice et)) (hs : ∀ w, (sizeOf et).run P w = .ok k w) (hx : ev e x = .slice a n c) (hy : ev e y = .int .i64 0) (ha : ∀ p, a = some p → p.add 0 = p) :
  Pur P (.slice t x none (some y) none) e (.slice a 0 c):=fun _ _ _ _ _ _=>by
 cases a with
 | none=>simp [execOp,hx,hy,Instr.sliceAt,Instr.slice,run_underlying ht,Instr.sliceBounds,Instr.sliceBound,asIntOf,hs]
 | some p=>simp [execOp,hx,hy,Instr.sliceAt,Instr.slice,run_underlying ht,Instr.sliceBounds,Instr.sliceBound,asIntOf,hs,ha p rfl]
theorem D_growZ {α : Type} [GoT α] (i : Nat) {t tn et : TypeId} {zv : Value} {bytes : Nat} {n : Int}
  (ht:P.underlying t=some (.slice et)) (htn:P.underlying tn=some (.int .i64)) (hinfo:(P.info? et).map (fun i=>(i.zero,i.size,i.bytes))=some (some zv,GoT.k α,bytes)) (hzs:zv.cells.size=GoT.k α) (hk:0 < GoT.k α)
  (hx:ev e x=.slice none 0 0) (hy:ev e y=.int .i64 n) {u:Unit} (hg:grwz bytes n=some u)
  (h:∀ g' w' b c m,Stp i g w g' w'→OS i g' w' et ([]:List α) (.slice (some ⟨b,0,none⟩) 0 c)→RV g'.m w' ([]:List α) (.slice (some ⟨b,0,none⟩) 0 c)→K (.slice (some ⟨b,0,none⟩) m c) w') :
  Doe P (.call { callee:=.builtin .append,args:=#[x,y],argTypes:=#[t,tn] }) e w K:=fun d ty pos af gd=>by
 obtain ⟨ti,hi,hz,hsz,hby⟩:=info_parts hinfo
 subst hby
 unfold grwz at hg
 split at hg
 case isFalse=>cases hg
 rename_i hc
 obtain ⟨h0,hn,hb⟩:=hc
 obtain ⟨k,rfl⟩:=Int.eq_ofNat_of_zero_le (Int.le_of_lt h0)
 have hb':k * ti.bytes ≤ 140737488355328:=by
  have h2:((ti.bytes * k:Nat):Int) ≤ 140737488355328:=by rw [Int.natCast_mul]; exact hb
  rw [Nat.mul_comm]; omega
 have hrun:=run_append_grow_zeros (P:=P) w t tn ty et ti zv .i64 .i64 ht htn hi hz none 0 0 [] (run_firstCells_none w.drew ti.size 0 0 0) k (by omega) (by rw [hsz]; exact hk) (by omega) (by omega) (by omega) (by rw [Nat.zero_add]; exact growslice_fits (by omega) hb')
 simp only [Nat.zero_add] at hrun
 obtain ⟨gc,hgc⟩:∃ gc,gc=grownCap w k 0 et:=⟨_,rfl⟩
 have hge:k ≤ gc:=hgc ▸ grownCap_ge w _ _ _
 have hle:gc ≤ maxLen:=hgc ▸ grownCap_le_maxLen w k 0 et (by unfold maxLen; omega)
 rw [← hgc] at hrun
 generalize hcs:([].toArray ++ Builtin.zeroCells zv.cells k ++ Builtin.zeroCells zv.cells (gc - k):Array Value)=cs at hrun
 have hcsz:cs.size=gc * GoT.k α:=by
  rw [← hcs]
  simp only [Array.size_append,List.size_toArray,size_zeroCells,hzs,List.length_nil,Nat.zero_add,← Nat.add_mul]
  congr 1; omega
 have hrun2:(execOp (ev e) ⟨d,.call { callee:=.builtin .append,args:=#[x,y],argTypes:=#[t,tn] },ty,pos,af,gd⟩).run P w=.ok (.value (.slice (some ⟨w.heap.size,0,none⟩) k gc)) (w.drew.alloc (.cells cs et)):=by
  simp only [execOp,resolve,invoke,builtin,Sem.run_bind,Sem.run_pure,Result.andThen_ok,List.map_toArray,List.map_cons,List.map_nil,hx,hy,hrun]
 unfold doE; rw [hrun2]
 have hst0:=Vw i g w.drew cs et 0
 have hst:Stp i g w { m:=Hy g.m w.heap.size 0,o:=Hy g.o w.heap.size i } (w.drew.alloc (.cells cs et)):=
  ⟨hst0.os,hst0.tape,hst0.output,⟨hst0.ch.size,hst0.ch.marks,hst0.ch.cells⟩,hst0.block,hst0.m,hst0.o⟩
 exact h _ _ w.heap.size gc k hst (.inr ⟨w.heap.size,gc,cs,rfl,Qd _ _ _,by simp [Hy],He w.drew _,Nat.zero_le _,hle,hcsz⟩) (Ko rfl (Nat.zero_le _) fun h=>absurd h (by simp))
end
section
variable {P:Program} {N:Nat} {w:World} {g:Gh}
end
end Go.Proofs.Ytmpjooneiaiffaa
/- Appends to own slices in regions that draw their order. No program is named here. -/
namespace Go.Proofs.Ytmpjooneiaiffaa
open Go.RowKit

theorem Qb.pre {α : Type} [GoT α] {m : Nat → Nat} {w : World} : ∀ {xs ys : List α} {cs : List Value}, Qb m w (xs ++ ys) cs → Qb m w xs (cs.take (xs.length * GoT.k α))
 | [],_,_,_=>by simp [Qb]
 | x :: xs,ys,_,⟨c1,c2,rfl,h1,h2⟩=>by
  have hl:=GoT.len h1
  refine ⟨c1,c2.take (xs.length * GoT.k α),?_,h1,Qb.pre h2⟩
  rw [List.length_cons,Nat.add_mul,Nat.one_mul,List.take_append,List.take_of_length_le (by omega),hl]
  congr 2; omega
section
variable {α:Type} [GoT α] {i:Nat} {et:TypeId} {xs r:List α} {u:Value} {g g':Gh} {w w':World}
variable {P:Program} {N:Nat}
end
end Go.Proofs.Ytmpjooneiaiffaa
