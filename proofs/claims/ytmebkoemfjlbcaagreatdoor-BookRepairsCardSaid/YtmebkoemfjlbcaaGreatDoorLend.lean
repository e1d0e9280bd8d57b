/- What is lent for a call; maps that are only read; cells of arrays by a number that varies; more of makeSlice. No program is named here. -/
import Derived.Test.YtmebkoemfjlbcaaGreatDoorOa
import Derived.Test.YtmebkoemfjlbcaaGreatDoorKey
namespace Go.Proofs.YtmebkoemfjlbcaaGreatDoor
open Go.RowKit

/-! ### Lending: all that there is may be read for the time of a call -/
section
variable {α:Type} [GoT α] {i:Nat} {g g':Gh} {w w':World} {t:TypeId} {x:α} {xs:List α} {p v:Value}
end
section
variable {P:Program} {e:Env} {w:World} {g:Gh} {K:Value→World→Prop} {x y z:Operand}
end

/-! ### Maps that are only read -/
section
variable {κ ν:Type} [GoT ν] {enc:κ→Value}
def MR (enc:κ→Value) (g:Gh) (w:World) (m:List (κ × ν)) (v:Value):Prop:=(v=.map none∧m=[]) ∨ ∃ i,MP enc i g w m v
def MQ (enc:κ→Value) (n:Nat) (g:Gh) (w:World) (m:List (κ × ν)) (v:Value):Prop:=(v=.map none∧m=[]) ∨ (MP enc 0 g w m v∧∀ b,v=.map (some b)→b < n)
variable {g g':Gh} {w w':World} {m:List (κ × ν)} {v:Value} {i n:Nat}
theorem MR.nil:MR enc g w ([]:List (κ × ν)) (.map none):=.inl ⟨rfl,rfl⟩
theorem MP.r (h:MP enc i g w m v):MR enc g w m v:=.inr ⟨_,h⟩
theorem MQ.r (h:MQ enc n g w m v):MR enc g w m v:=h.imp id fun h=>⟨_,h.1⟩
theorem MP.lt {b:Nat} (h:MP enc i g w m (.map (some b))):b < w.heap.size:=by
 obtain ⟨b',es,cl,hv,_,hh,_⟩:=h
 injection hv with hv; injection hv with hv; subst hv
 exact lt_of_heap hh
theorem MQ.enter {g0 gI:Gh} {wI:World} (h:MR enc gI wI m v) (hm:g0.m=gI.m) (hfr:Fr gI wI g0 wI):MQ enc wI.heap.size g0 wI m v:=by
 rcases h with h | ⟨i,h⟩
 ·exact .inl h
 refine .inr ⟨?_,fun b hb=>by subst hb; exact h.lt⟩
 obtain ⟨b,es,cl,hv,ho,hh,h1,h2,h3⟩:=h
 exact ⟨b,es,cl,hv,hfr.o b (lt_of_heap hh),hh,h1,h2,hm ▸ h3⟩
theorem MQ.ext (h:MQ enc n g w m v) (k:Ext g w g' w'):MQ enc n g' w' m v:=h.imp id fun h=>⟨h.1.ext k,h.2⟩
theorem MQ.stp {j:Nat} (h:MQ enc n g w m v) (k:Stp (j + 1) g w g' w'):MQ enc n g' w' m v:=h.imp id fun h=>⟨h.1.stp k (by cases j <;> rfl),h.2⟩
theorem MQ.ist {B:Nat} (h:MQ enc n g w m v) (k:IStp B g w g' w') (hB:n ≤ B):MQ enc n g' w' m v:=h.imp id fun ⟨h,hn⟩=>by
 refine ⟨?_,hn⟩
 obtain ⟨b,es,cl,hv,ho,hh,h1,h2,h3⟩:=h
 have hb:=hn b hv
 exact ⟨b,es,cl,hv,(k.o b (by omega)).trans ho,(k.below.block b (by omega)).trans hh,h1,h2,h3.ch k.st.ch⟩
variable {P:Program} {e:Env} {K:Value→World→Prop} {x y z:Operand} [DecidableEq κ]
end

/-! ### Cells of an array, by a number that varies -/
section
variable {β:Type} [GoT β] {n:Nat}
def vset {β:Type} {n:Nat} (v:Vector β n) (i:Int) (y:β):Vector β n:=v.setIfInBounds i.toNat y
def vat {β:Type} {n:Nat} (i:Nat) (h:i < n) (v:Vector β n):β:=v[i]
omit [GoT β] in
theorem vat_idx {v:Vector β n} {i:Int} {a:β} (h:idx v.toList i=some a):∃ hi:i.toNat < n,vat i.toNat hi v=a:=let ⟨_,hi,h⟩:=vec_idx h; ⟨hi,h⟩
theorem SubS.dyn {i:Int} (hi:i.toNat < n):SubS (α:=Vector β n) (i.toNat * GoT.k β) (vat i.toNat hi) (fun v y=>vset v i y):=by
 have h:=SubS.vec (β:=β) hi
 refine ⟨h.1,fun m w x y cs cy hx hy=>?_⟩
 have:=h.2 m w x y cs cy hx hy
 have he:vset x i y=x.set i.toNat y hi:=by
  unfold vset
  apply Vector.ext
  intro j hj
  simp [Vector.getElem_setIfInBounds,Vector.getElem_set]
 show GoT.rep m w (vset x i y) _
 rw [he]; exact this
variable {P:Program} {e:Env} {w:World} {g:Gh} {K:Value→World→Prop} {a1:Operand}
end
/-! ### A pointer to an element, or nil -/
section
variable {P:Program} {e:Env} {x y:Operand}
end

/-! ### A variable that a draw makes and stores to -/
section
variable {α:Type} [GoT α] {i:Nat} {t2:TypeId} {a0 a1:α} {g g':Gh} {w w':World}
variable {P:Program} {N:Nat}
end

/-! ### A variable that holds an own slice -/
def BX {α:Type} [GoT α] (i j:Nat) (g:Gh) (w:World) (et bt:TypeId) (xs:List α) (p:Value):Prop:=∃ q:Fv,OB i g w bt q p∧OM j g w et xs q.v
section
variable {α:Type} [GoT α] {i j k:Nat} {g g':Gh} {w w':World} {et bt:TypeId} {xs:List α} {p:Value}
theorem BX.ext (h:BX i j g w et bt xs p) (hx:Ext g w g' w'):BX i j g' w' et bt xs p:=let ⟨q,h1,h2⟩:=h; ⟨q,h1.ext hx,h2.ext hx⟩
theorem BX.stp (h:BX i j g w et bt xs p) (hx:Stp k g w g' w') (h1:Nat.beq i k=false) (h2:Nat.beq j k=false:=by rfl):BX i j g' w' et bt xs p:=let ⟨q,k1,k2⟩:=h; ⟨q,k1.stp hx h1,k2.stp hx h2⟩
theorem BX.ist {B:Nat} (h:BX i j g w et bt xs p) (hx:IStp B g w g' w') (h1:Nat.beq i 0=false:=by rfl) (h2:Nat.beq j 0=false:=by rfl):BX i j g' w' et bt xs p:=let ⟨q,k1,k2⟩:=h; ⟨q,k1.stp hx.st h1,k2.stp hx.st h2⟩
variable {P:Program} {e:Env} {K:Value→World→Prop} {x y:Operand}
end
section
variable {P:Program} {e:Env} {w:World} {g:Gh} {K:Value→World→Prop} {x y z:Operand}
end

theorem flat_replicate {α : Type} [GoT α] {m : Nat → Nat} {w : World} {x : α} {cs : List Value} (h : GoT.rep m w x cs) : ∀ n : Nat, FlatR m w (List.replicate n x) (List.replicate n cs).flatten
 | 0=>rfl
 | n + 1=>⟨cs,(List.replicate n cs).flatten,rfl,h,flat_replicate h n⟩
/-! ### makeSlice, of structs too -/
def mka {α:Type} (bytes:Nat) (x0:α) (n:Int):Option (List α):=
 if 0 ≤ n∧n ≤ 1000000∧(bytes:Int) * n ≤ 281474976710656 then some (List.replicate n.toNat x0) else none
theorem get_flat_rep {γ : Type} {l : List γ} {k : Nat} (hk : l.length = k) : ∀ (n j : Nat), j < n * k → (List.replicate n l).flatten[j]? = l[j % k]?
 | 0,j,h=>by omega
 | n + 1,j,h=>by
  rw [List.replicate_succ,List.flatten_cons,List.getElem?_append,hk]
  split
  ·rename_i hj
   rw [Nat.mod_eq_of_lt hj]
  ·rename_i hj
   have hm:j % k=(j - k) % k:=Nat.mod_eq_sub_mod (by omega)
   rw [get_flat_rep hk n (j - k) (by rw [Nat.add_mul,Nat.one_mul] at h; omega),hm]
theorem made_eq {zc:Array Value} {k n:Nat} (hk:zc.size=k):(madeCells zc (n * k)).toList=(List.replicate n zc.toList).flatten:=by
 have hl:(List.replicate n zc.toList).flatten.length=n * k:=by simp [hk]
 apply List.ext_getElem?
 intro j
 by_cases hj:j < n * k
 ·rw [get_flat_rep (by simpa using hk) n j hj]
  have hk0:0 < k:=by
   rcases Nat.eq_zero_or_pos k with h0 | h0
   ·rw [h0] at hj; omega
   ·exact h0
  have hm:j % k < zc.size:=by rw [hk]; exact Nat.mod_lt _ hk0
  simp only [Array.getElem?_toList]
  have hm2:j % zc.size < zc.size:=by rw [hk]; rw [hk] at hm; exact hm
  have h1:(madeCells zc (n * k))[j]?=some (zc[j % zc.size]!):=by simp [madeCells,hj]
  rw [h1,getElem!_pos zc _ hm2,← hk,Array.getElem?_eq_getElem hm2]
 ·rw [List.getElem?_eq_none (by simp [madeCells]; omega),List.getElem?_eq_none (by omega)]
section
variable {P:Program} {e:Env} {w:World} {g:Gh} {K:Value→World→Prop} {x y z:Operand}
theorem D_makeSliceA {α : Type} [GoT α] (i : Nat) {t et : TypeId} {zv : Value} {bytes : Nat} (x0 : α) {n : Int} {r : List α}
    (ht:P.underlying t=some (.slice et)) (hinfo:(P.info? et).map (fun i=>(i.zero,i.size,i.bytes))=some (some zv,GoT.k α,bytes)) (hk:Nat.ble (GoT.k α) 16=true) (hz:∀ m w,RV m w x0 zv)
    (hx:ev e x=.int .i64 n) (hy:ev e y=.int .i64 n) (hr:mka bytes x0 n=some r)
    (h:∀ g' w' v',Stp i g w g' w'→OA i g' w' et r v'→K v' w'):Doe P (.makeSlice t x y) e w K:=fun d ty pos af gd=>by
  obtain ⟨ti,hi,hzz,hsz,hby⟩:=info_parts hinfo
  subst hby
  unfold mka at hr
  split at hr
  case isFalse=>cases hr
  rename_i hc
  obtain rfl:=Option.some.inj hr
  obtain ⟨h0,h1,h2⟩:=hc
  have hk':GoT.k α ≤ 16:=Nat.le_of_ble_eq_true hk
  have hsz2:n.toNat * ti.size ≤ 16777216:=by
    rw [hsz]
    calc n.toNat * GoT.k α ≤ n.toNat * 16 := Nat.mul_le_mul_left _ hk'
      _ ≤ 16777216:=by omega
  have hrun:=run_makeSlice (P:=P) w t et ti zv ht hi hzz .i64 .i64 n n h0 (Int.le_refl _) hsz2 h2 (by omega)
  have hrun2:(execOp (ev e) ⟨d,.makeSlice t x y,ty,pos,af,gd⟩).run P w=.ok (.value (.slice (some ⟨w.heap.size,0,none⟩) n.toNat n.toNat)) (w.alloc (.cells (madeCells zv.cells (n.toNat * ti.size)) et)):=by
    simp only [execOp,hx,hy,Sem.run_bind,hrun,Result.andThen_ok,Sem.run_pure]
  unfold doE; rw [hrun2]
  have hzr:=RV.cells (hz g.m w)
  have hzs:zv.cells.size=GoT.k α:=by simpa using GoT.len hzr
  have hcs:=made_eq (n:=n.toNat) hzs
  have hst:=stp_new i g w (madeCells zv.cells (n.toNat * ti.size)) et 0
  refine h { m:=updN g.m w.heap.size 0,o:=updN g.o w.heap.size i } _ _ hst (.inr ⟨w.heap.size,n.toNat,_,by simp,updN_same _ _ _,updN_same _ _ _,heap_new_at _ _,by simp,?_,?_,?_⟩)
  · simp only [maxLen]; omega
  · simp [madeCells,hsz]
  · rw [hsz] at hst ⊢
    rw [hcs,List.length_replicate,List.take_of_length_le (by simp [hzs])]
    exact (flat_replicate hzr _).ch hst.ch
end
/-! ### bits.Len of small numbers -/
section
variable {P:Program} {e:Env} {x y:Operand}
end
end Go.Proofs.YtmebkoemfjlbcaaGreatDoor
