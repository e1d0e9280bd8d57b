/- What is lent for a call; maps that are only read; cells of arrays by a number that varies; more of makeSlice. No program is named here. -/
import Derived.Test.YtjjbobaoifflpaaGreatDoorOa
import Derived.Test.YtjjbobaoifflpaaGreatDoorKey
namespace Go.Proofs.YtjjbobaoifflpaaGreatDoor
open Go.RowKit

/-! ### Lending: all that there is may be read for the time of a call -/
section
variable {α:Type} [GoT α] {i:Nat} {g g':Gh} {w w':World} {t:TypeId} {x:α} {xs:List α} {p v:Value}
end
section
variable {P:Program} {e:Env} {w:World} {g:Gh} {K:Value→World→Prop} {x y z:Operand}
end

/-! ### Maps that are only read -/
section
variable {κ ν:Type} [GoT ν] {enc:κ→Value}
def MR (enc:κ→Value) (g:Gh) (w:World) (m:List (κ × ν)) (v:Value):Prop:=(v=.map none∧m=[]) ∨ ∃ i,MP enc i g w m v
def MQ (enc:κ→Value) (n:Nat) (g:Gh) (w:World) (m:List (κ × ν)) (v:Value):Prop:=(v=.map none∧m=[]) ∨ (MP enc 0 g w m v∧∀ b,v=.map (some b)→b < n)
variable {g g':Gh} {w w':World} {m:List (κ × ν)} {v:Value} {i n:Nat}
theorem MR.nil:MR enc g w ([]:List (κ × ν)) (.map none):=.inl ⟨rfl,rfl⟩
theorem MP.r (h:MP enc i g w m v):MR enc g w m v:=.inr ⟨_,h⟩
theorem MQ.r (h:MQ enc n g w m v):MR enc g w m v:=h.imp id fun h=>⟨_,h.1⟩
theorem MP.lt {b:Nat} (h:MP enc i g w m (.map (some b))):b < w.heap.size:=by
 obtain ⟨b',es,cl,hv,_,hh,_⟩:=h
 injection hv with hv; injection hv with hv; subst hv
 exact Gn hh
theorem MQ.enter {g0 gI:Gh} {wI:World} (h:MR enc gI wI m v) (hm:g0.m=gI.m) (hfr:Fr gI wI g0 wI):MQ enc wI.heap.size g0 wI m v:=by
 rcases h with h | ⟨i,h⟩
 ·exact .inl h
 refine .inr ⟨?_,fun b hb=>by subst hb; exact h.lt⟩
 obtain ⟨b,es,cl,hv,ho,hh,h1,h2,h3⟩:=h
 exact ⟨b,es,cl,hv,hfr.o b (Gn hh),hh,h1,h2,hm ▸ h3⟩
theorem MQ.ext (h:MQ enc n g w m v) (k:Ext g w g' w'):MQ enc n g' w' m v:=h.imp id fun h=>⟨h.1.ext k,h.2⟩
variable {P:Program} {e:Env} {K:Value→World→Prop} {x y z:Operand} [DecidableEq κ]
end

/-! ### Cells of an array, by a number that varies -/
section
variable {β:Type} [GoT β] {n:Nat}
def Fz {β:Type} {n:Nat} (v:Vector β n) (i:Int) (y:β):Vector β n:=v.setIfInBounds i.toNat y
def vat {β:Type} {n:Nat} (i:Nat) (h:i < n) (v:Vector β n):β:=v[i]
omit [GoT β] in
theorem Dn {v:Vector β n} {i:Int} {a:β} (h:idx v.toList i=some a):∃ hi:i.toNat < n,vat i.toNat hi v=a:=let ⟨_,hi,h⟩:=Cz h; ⟨hi,h⟩
theorem Gd.dyn {i:Int} (hi:i.toNat < n):Gd (α:=Vector β n) (i.toNat * GoT.k β) (vat i.toNat hi) (fun v y=>Fz v i y):=by
 have h:=Gd.vec (β:=β) hi
 refine ⟨h.1,fun m w x y cs cy hx hy=>?_⟩
 have:=h.2 m w x y cs cy hx hy
 have he:Fz x i y=x.set i.toNat y hi:=by
  unfold Fz
  apply Vector.ext
  intro j hj
  simp [Vector.getElem_setIfInBounds,Vector.getElem_set]
 show GoT.rep m w (Fz x i y) _
 rw [he]; exact this
variable {P:Program} {e:Env} {w:World} {g:Gh} {K:Value→World→Prop} {a1:Operand}
theorem Rf {α β : Type} [GoT α] [GoT β] {i off : Nat} {f : α → β} {P : Program} {g0 : Gh} {w0 : World} {t t2 : TypeId} {x : Operand} {p : Value} {a : α} {b : β} {K : Prop} (hsub : Sub off f) (he : f a = b) (ha : ∀ w, (isAgg t).run P w = .ok (GoT.agg β) w) (hs : ∀ w, (sizeOf t).run P w = .ok (GoT.k β) w) (hp : OB i g0 w0 t2 a p)
  (k:∀ v,RV g0.m w0 b v→(∀ (e:Env) (g:Gh) (w:World),(Ch g0.m w0 g.m w∧∀ b,b < w0.heap.size→g0.o b=i→w.heap[b]?=w0.heap[b]?)→ev e x=Z8 p off→∀ d ty pos af gd,(execOp (ev e) ⟨d,.load t x,ty,pos,af,gd⟩).run P w=.ok (.value v) w)→K):K:=by
 subst he; exact Hj hsub ha hs hp k
end
/-! ### A pointer to an element, or nil -/
section
variable {P:Program} {e:Env} {x y:Operand}
end

/-! ### A variable that a draw makes and stores to -/
section
variable {α:Type} [GoT α] {i:Nat} {t2:TypeId} {a0 a1:α} {g g':Gh} {w w':World}
variable {P:Program} {N:Nat}
end

/-! ### A variable that holds an own slice -/
def BX {α:Type} [GoT α] (i j:Nat) (g:Gh) (w:World) (et bt:TypeId) (xs:List α) (p:Value):Prop:=∃ q:Fv,OB i g w bt q p∧OM j g w et xs q.v
section
variable {α:Type} [GoT α] {i j k:Nat} {g g':Gh} {w w':World} {et bt:TypeId} {xs:List α} {p:Value}
theorem BX.ext (h:BX i j g w et bt xs p) (hx:Ext g w g' w'):BX i j g' w' et bt xs p:=let ⟨q,h1,h2⟩:=h; ⟨q,h1.ext hx,h2.ext hx⟩
variable {P:Program} {e:Env} {K:Value→World→Prop} {x y:Operand}
end
section
variable {P:Program} {e:Env} {w:World} {g:Gh} {K:Value→World→Prop} {x y z:Operand}
theorem Cx {α : Type} [GoT α] (i : Nat) {t et : TypeId} {zv : Value} {bytes : Nat} (x0 : α) {n : Int} {r : List α} (hk : GoT.k α = 1)
  (ht:P.underlying t=some (.slice et)) (hinfo:(P.info? et).map (fun i=>(i.zero,i.size,i.bytes))=some (some zv,1,bytes)) (hz1:zv.cells=#[zv]) (hz:∀ m w,GoT.rep m w x0 [zv])
  (hx:ev e x=.int .i64 n) (hy:ev e y=.int .i64 n) (hr:mks bytes x0 n=some r)
  (h:∀ g' w' v',Ext g w g' w'→OM i g' w' et r v'→K v' w'):Doe P (.makeSlice t x y) e w K:=by
 intro d ty pos af gd
 obtain ⟨ti,hi,hzz,hsz,hby⟩:=info_parts hinfo
 subst hby
 unfold mks at hr
 split at hr
 case isFalse=>cases hr
 rename_i hc
 obtain rfl:=Option.some.inj hr
 obtain ⟨h0,h1,h2⟩:=hc
 have hrun:=run_makeSlice (P:=P) w t et ti zv ht hi hzz .i64 .i64 n n h0 (Int.le_refl _) (by rw [hsz]; omega) h2 (by omega)
 have hrun2:(execOp (ev e) ⟨d,.makeSlice t x y,ty,pos,af,gd⟩).run P w=.ok (.value (.slice (some ⟨w.heap.size,0,none⟩) n.toNat n.toNat)) (w.alloc (.cells (madeCells zv.cells (n.toNat * ti.size)) et)):=by
  simp only [execOp,hx,hy,Sem.run_bind,hrun,Result.andThen_ok,Sem.run_pure]
 unfold doE; rw [hrun2]
 have hcs:(madeCells zv.cells (n.toNat * ti.size)).toList=List.replicate n.toNat zv:=by
  rw [hz1,hsz,Nat.mul_one]
  apply List.ext_getElem
  ·simp [madeCells]
  ·intro j h1 h2; simp [madeCells,Nat.mod_one]
 refine h { m:=Wh g.m w.heap.size 0,o:=Wh g.o w.heap.size i } _ _ ⟨(Below.refl _ w).alloc (Nat.le_refl _) _,fun b hb=>Qw _ _ (by omega),fun b hb=>Qw _ _ (by omega)⟩ (.inr ⟨w.heap.size,n.toNat,_,by simp,by simp,Tw _ _ _,Tw _ _ _,CF.of (Q5 _ _),?_,?_⟩)
 ·have := congrArg List.length hcs
  simp at this
  rw [List.length_replicate,hk,Nat.mul_one]; omega
 ·rw [hcs, List.length_replicate, hk, Nat.mul_one, List.take_of_length_le (by simp)]
  exact Rt (hz _ _) _
end

theorem U5 {α : Type} [GoT α] {m : Nat → Nat} {w : World} {x : α} {cs : List Value} (h : GoT.rep m w x cs) : ∀ n : Nat, Tt m w (List.replicate n x) (List.replicate n cs).flatten
 | 0=>rfl
 | n + 1=>⟨cs,(List.replicate n cs).flatten,rfl,h,U5 h n⟩
/-! ### makeSlice, of structs too -/
def mka {α:Type} (bytes:Nat) (x0:α) (n:Int):Option (List α):=
 if 0 ≤ n∧n ≤ 1000000∧(bytes:Int) * n ≤ 281474976710656 then some (List.replicate n.toNat x0) else none
theorem Di {γ : Type} {l : List γ} {k : Nat} (hk : l.length = k) : ∀ (n j : Nat), j < n * k → (List.replicate n l).flatten[j]? = l[j % k]?
 | 0,j,h=>by omega
 | n + 1,j,h=>by
  rw [List.replicate_succ,List.flatten_cons,List.getElem?_append,hk]
  split
  ·rename_i hj
   rw [Nat.mod_eq_of_lt hj]
  ·rename_i hj
   have hm:j % k=(j - k) % k:=Nat.mod_eq_sub_mod (by omega)
   rw [Di hk n (j - k) (by rw [Nat.add_mul,Nat.one_mul] at h; omega),hm]
theorem Ej {zc:Array Value} {k n:Nat} (hk:zc.size=k):(madeCells zc (n * k)).toList=(List.replicate n zc.toList).flatten:=by
 have hl:(List.replicate n zc.toList).flatten.length=n * k:=by simp [hk]
 apply List.ext_getElem?
 intro j
 by_cases hj:j < n * k
 ·rw [Di (by simpa using hk) n j hj]
  have hk0:0 < k:=by
   rcases Nat.eq_zero_or_pos k with h0 | h0
   ·rw [h0] at hj; omega
   ·exact h0
  have hm:j % k < zc.size:=by rw [hk]; exact Nat.mod_lt _ hk0
  simp only [Array.getElem?_toList]
  have hm2:j % zc.size < zc.size:=by rw [hk]; rw [hk] at hm; exact hm
  have h1:(madeCells zc (n * k))[j]?=some (zc[j % zc.size]!):=by simp [madeCells,hj]
  rw [h1,getElem!_pos zc _ hm2,← hk,Array.getElem?_eq_getElem hm2]
 ·rw [List.getElem?_eq_none (by simp [madeCells]; omega),List.getElem?_eq_none (by omega)]
section
variable {P:Program} {e:Env} {w:World} {g:Gh} {K:Value→World→Prop} {x y z:Operand}
theorem Xz {α : Type} [GoT α] (i : Nat) {t et : TypeId} {zv : Value} {bytes : Nat} (x0 : α) {n : Int} {r : List α}
    (ht:P.underlying t=some (.slice et)) (hinfo:(P.info? et).map (fun i=>(i.zero,i.size,i.bytes))=some (some zv,GoT.k α,bytes)) (hk:Nat.ble (GoT.k α) 16=true) (hz:∀ m w,RV m w x0 zv)
    (hx:ev e x=.int .i64 n) (hy:ev e y=.int .i64 n) (hr:mka bytes x0 n=some r)
    (h:∀ g' w' v',Stp i g w g' w'→OA i g' w' et r v'→K v' w'):Doe P (.makeSlice t x y) e w K:=fun d ty pos af gd=>by
  obtain ⟨ti,hi,hzz,hsz,hby⟩:=info_parts hinfo
  subst hby
  unfold mka at hr
  split at hr
  case isFalse=>cases hr
  rename_i hc
  obtain rfl:=Option.some.inj hr
  obtain ⟨h0,h1,h2⟩:=hc
  have hk':GoT.k α ≤ 16:=Nat.le_of_ble_eq_true hk
  have hsz2:n.toNat * ti.size ≤ 16777216:=by
    rw [hsz]
    calc n.toNat * GoT.k α ≤ n.toNat * 16 := Nat.mul_le_mul_left _ hk'
      _ ≤ 16777216:=by omega
  have hrun:=run_makeSlice (P:=P) w t et ti zv ht hi hzz .i64 .i64 n n h0 (Int.le_refl _) hsz2 h2 (by omega)
  have hrun2:(execOp (ev e) ⟨d,.makeSlice t x y,ty,pos,af,gd⟩).run P w=.ok (.value (.slice (some ⟨w.heap.size,0,none⟩) n.toNat n.toNat)) (w.alloc (.cells (madeCells zv.cells (n.toNat * ti.size)) et)):=by
    simp only [execOp,hx,hy,Sem.run_bind,hrun,Result.andThen_ok,Sem.run_pure]
  unfold doE; rw [hrun2]
  have hzr:=RV.cells (hz g.m w)
  have hzs:zv.cells.size=GoT.k α:=by simpa using GoT.len hzr
  have hcs:=Ej (n:=n.toNat) hzs
  have hst:=Hs i g w (madeCells zv.cells (n.toNat * ti.size)) et 0
  refine h { m:=Wh g.m w.heap.size 0,o:=Wh g.o w.heap.size i } _ _ hst (.inr ⟨w.heap.size,n.toNat,_,by simp,Tw _ _ _,Tw _ _ _,Q5 _ _,by simp,?_,?_,?_⟩)
  · simp only [maxLen]; omega
  · simp [madeCells,hsz]
  · rw [hsz] at hst ⊢
    rw [hcs,List.length_replicate,List.take_of_length_le (by simp [hzs])]
    exact (U5 hzr _).ch hst.ch
end
/-! ### bits.Len of small numbers -/
section
variable {P:Program} {e:Env} {x y:Operand}
theorem C5 {t t2:TypeId} {m n:Int} (hx:ev e x=.int .u64 m) (hy:ev e y=.int .u64 n) (h:m < n):Pur P (.binOp .geq t x y t2) e (.bool false):=
 Hp hx hy (fun w=>Qu w) fun w=>by
  have h':¬ n ≤ m:=by omega
  simp [binOp,Op.intCmp,h']
theorem P_u64u8 {s t:TypeId} {n:Int} (hs:P.underlying s=some (.int .u64)) (ht:P.underlying t=some (.int .u8)) (hx:ev e x=.int .u64 n) (h0:0 ≤ n) (h1:n < 256):Pur P (.convert s t x) e (.int .u8 n):=fun _ _ _ _ _ _=>by
 have hw:IntKind.u8.wrap n=n:=by rw [B3]; omega
 simp [execOp,hx,convert,run_underlying hs,run_underlying ht,Conv.intToInt,hw]
end
end Go.Proofs.YtjjbobaoifflpaaGreatDoor
