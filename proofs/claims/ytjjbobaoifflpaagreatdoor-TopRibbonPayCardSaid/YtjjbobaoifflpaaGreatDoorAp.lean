/- slices.Grow of nil: an own slice of nothing, with room. No program is named here. -/
import Derived.Test.YtjjbobaoifflpaaGreatDoorShort
import Derived.Lib.AppendZerosOnto
namespace Go.Proofs.YtjjbobaoifflpaaGreatDoor
open Go.RowKit Go.Lib

def grwz (bytes:Nat) (n:Int):Option Unit:=
 if 0 < n∧n ≤ 4611686018427387904∧(bytes:Int) * n ≤ 140737488355328 then some () else none
theorem OS.handn {α:Type} [GoT α] {j i:Nat} {g0 g:Gh} {w0 w:World} {t:TypeId} {xs:List α} {v:Value} (hfr:Fr g0 w0 g w) (h:OS (j + 1) g w t xs v) (hr:RV g.m w xs v):∃ g',Ext g0 w0 g' w∧OS i g' w t xs v∧RV g'.m w xs v:=by
 rcases h with ⟨h1,h2⟩ | ⟨b,c,cs,hv,ho,hm,hh,hc,hcm,hcs⟩
 ·exact ⟨_,hfr.fin,.inl ⟨h1,h2⟩,by subst h2; exact h1 ▸ T0⟩
 ·have hb : ¬ b < w0.heap.size := fun hb => by have := hfr.o b hb; omega
  refine ⟨{ m:=g.m,o:=Wh (fun b=>if b < w0.heap.size then g0.o b else 0) b i },⟨hfr.below,hfr.m,fun b' hb'=>?_⟩,.inr ⟨b,c,cs,hv,by simp [Wh],hm,hh,hc,hcm,hcs⟩,hr⟩
  rw [show ({ m:=g.m,o:=Wh (fun b=>if b < w0.heap.size then g0.o b else 0) b i }:Gh).o b'=Wh (fun b=>if b < w0.heap.size then g0.o b else 0) b i b' from rfl,Qw _ _ (show b' ≠ b from fun h=>hb (h ▸ hb'))]
  simp [hb']
section
variable {P:Program} {e:Env} {w:World} {g:Gh} {K:Value→World→Prop} {x y z:Operand}
theorem P_cap {t et : TypeId} {a : Option Addr} {n c : Nat} (ht : P.underlying t = some (.slice et)) (hx : ev e x = .slice a n c) :
  Pur P (.call { callee:=.builtin .cap,args:=#[x],argTypes:=#[t] }) e (.int .i64 (c:Int)):=fun _ _ _ _ _ _=>by
 simp [execOp,resolve,invoke,builtin,Builtin.cap_,hx,run_underlying ht,goInt]
theorem Ot {t et : TypeId} {a : Option Addr} {n c k : Nat} {y : Operand} (ht : P.underlying t = some (.slice et)) (hs : ∀ w, (sizeOf et).run P w = .ok k w) (hx : ev e x = .slice a n c) (hy : ev e y = .int .i64 0) (ha : ∀ p, a = some p → p.add 0 = p) :
  Pur P (.slice t x none (some y) none) e (.slice a 0 c):=fun _ _ _ _ _ _=>by
 cases a with
 | none=>simp [execOp,hx,hy,Instr.sliceAt,Instr.slice,run_underlying ht,Instr.sliceBounds,Instr.sliceBound,asIntOf,hs]
 | some p=>simp [execOp,hx,hy,Instr.sliceAt,Instr.slice,run_underlying ht,Instr.sliceBounds,Instr.sliceBound,asIntOf,hs,ha p rfl]
theorem D_growZ {α : Type} [GoT α] (i : Nat) {t tn et : TypeId} {zv : Value} {bytes : Nat} {n : Int}
  (ht:P.underlying t=some (.slice et)) (htn:P.underlying tn=some (.int .i64)) (hinfo:(P.info? et).map (fun i=>(i.zero,i.size,i.bytes))=some (some zv,GoT.k α,bytes)) (hzs:zv.cells.size=GoT.k α) (hk:0 < GoT.k α)
  (hx:ev e x=.slice none 0 0) (hy:ev e y=.int .i64 n) {u:Unit} (hg:grwz bytes n=some u)
  (h:∀ g' w' b c m,Stp i g w g' w'→OS i g' w' et ([]:List α) (.slice (some ⟨b,0,none⟩) 0 c)→RV g'.m w' ([]:List α) (.slice (some ⟨b,0,none⟩) 0 c)→K (.slice (some ⟨b,0,none⟩) m c) w') :
  Doe P (.call { callee:=.builtin .append,args:=#[x,y],argTypes:=#[t,tn] }) e w K:=fun d ty pos af gd=>by
 obtain ⟨ti,hi,hz,hsz,hby⟩:=info_parts hinfo
 subst hby
 unfold grwz at hg
 split at hg
 case isFalse=>cases hg
 rename_i hc
 obtain ⟨h0,hn,hb⟩:=hc
 obtain ⟨k,rfl⟩:=Int.eq_ofNat_of_zero_le (Int.le_of_lt h0)
 have hb':k * ti.bytes ≤ 140737488355328:=by
  have h2:((ti.bytes * k:Nat):Int) ≤ 140737488355328:=by rw [Int.natCast_mul]; exact hb
  rw [Nat.mul_comm]; omega
 have hrun:=run_append_grow_zeros (P:=P) w t tn ty et ti zv .i64 .i64 ht htn hi hz none 0 0 [] (run_firstCells_none w.drew ti.size 0 0 0) k (by omega) (by rw [hsz]; exact hk) (by omega) (by omega) (by omega) (by rw [Nat.zero_add]; exact growslice_fits (by omega) hb')
 simp only [Nat.zero_add] at hrun
 obtain ⟨gc,hgc⟩:∃ gc,gc=grownCap w k 0 et:=⟨_,rfl⟩
 have hge:k ≤ gc:=hgc ▸ grownCap_ge w _ _ _
 have hle:gc ≤ maxLen:=hgc ▸ grownCap_le_maxLen w k 0 et (by unfold maxLen; omega)
 rw [← hgc] at hrun
 generalize hcs:([].toArray ++ Builtin.zeroCells zv.cells k ++ Builtin.zeroCells zv.cells (gc - k):Array Value)=cs at hrun
 have hcsz:cs.size=gc * GoT.k α:=by
  rw [← hcs]
  simp only [Array.size_append,List.size_toArray,size_zeroCells,hzs,List.length_nil,Nat.zero_add,← Nat.add_mul]
  congr 1; omega
 have hrun2:(execOp (ev e) ⟨d,.call { callee:=.builtin .append,args:=#[x,y],argTypes:=#[t,tn] },ty,pos,af,gd⟩).run P w=.ok (.value (.slice (some ⟨w.heap.size,0,none⟩) k gc)) (w.drew.alloc (.cells cs et)):=by
  simp only [execOp,resolve,invoke,builtin,Sem.run_bind,Sem.run_pure,Result.andThen_ok,List.map_toArray,List.map_cons,List.map_nil,hx,hy,hrun]
 unfold doE; rw [hrun2]
 have hst0:=Hs i g w.drew cs et 0
 have hst:Stp i g w { m:=Wh g.m w.heap.size 0,o:=Wh g.o w.heap.size i } (w.drew.alloc (.cells cs et)):=
  ⟨hst0.os,hst0.tape,hst0.output,⟨hst0.ch.size,hst0.ch.marks,hst0.ch.cells⟩,hst0.block,hst0.m,hst0.o⟩
 exact h _ _ w.heap.size gc k hst (.inr ⟨w.heap.size,gc,cs,rfl,Tw _ _ _,by simp [Wh],Q5 w.drew _,Nat.zero_le _,hle,hcsz⟩) (Wi rfl (Nat.zero_le _) fun h=>absurd h (by simp))
end
section
variable {P:Program} {N:Nat} {w:World} {g:Gh}
end
end Go.Proofs.YtjjbobaoifflpaaGreatDoor
/- Appends to own slices in regions that draw their order. No program is named here. -/
namespace Go.Proofs.YtjjbobaoifflpaaGreatDoor
open Go.RowKit

theorem Tt.pre {α : Type} [GoT α] {m : Nat → Nat} {w : World} : ∀ {xs ys : List α} {cs : List Value}, Tt m w (xs ++ ys) cs → Tt m w xs (cs.take (xs.length * GoT.k α))
 | [],_,_,_=>by simp [Tt]
 | x :: xs,ys,_,⟨c1,c2,rfl,h1,h2⟩=>by
  have hl:=GoT.len h1
  refine ⟨c1,c2.take (xs.length * GoT.k α),?_,h1,Tt.pre h2⟩
  rw [List.length_cons,Nat.add_mul,Nat.one_mul,List.take_append,List.take_of_length_le (by omega),hl]
  congr 2; omega
section
variable {α:Type} [GoT α] {i:Nat} {et:TypeId} {xs r:List α} {u:Value} {g g':Gh} {w w':World}
variable {P:Program} {N:Nat}
end
end Go.Proofs.YtjjbobaoifflpaaGreatDoor
