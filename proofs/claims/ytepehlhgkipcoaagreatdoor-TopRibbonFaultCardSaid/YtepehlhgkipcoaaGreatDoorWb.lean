/- Slices built as the blocks that they are; what is new, handed out with all that it leads to. No program is named here. -/
import Derived.Test.YtepehlhgkipcoaaGreatDoorMm
namespace Go.Proofs.YtepehlhgkipcoaaGreatDoor
open Go.RowKit

def HBo (i:Nat) (g:Gh) (w:World) (b:Nat) (ob:Obj):Prop:=g.o b=i∧w.heap[b]?=some ob
theorem HBo.ext {i:Nat} {g g':Gh} {w w':World} {b:Nat} {ob:Obj} (h:HBo i g w b ob) (k:Ext g w g' w'):HBo i g' w' b ob:=⟨(k.o b (Gg h.2)).trans h.1,(k.below.block b (Gg h.2)).trans h.2⟩
theorem HBo.stp {i j:Nat} {g g':Gh} {w w':World} {b:Nat} {ob:Obj} (h:HBo i g w b ob) (k:Stp j g w g' w') (hne:Nat.beq i j=false):HBo i g' w' b ob:=by
 have hij:g.o b ≠ j:=by rw [h.1]; intro he; rw [he] at hne; simp at hne
 exact ⟨(k.o b (Gg h.2) hij).trans h.1,(k.block b (Gg h.2) hij).trans h.2⟩
def HB1 (i:Nat) (g:Gh) (w:World) (et:TypeId) (cs:Array Value) (v:Value):Prop:=∃ b,v=.slice (some ⟨b,0,none⟩) 1 1∧HBo i g w b (.cells cs et (0,0))
theorem HB1.ext {i:Nat} {g g':Gh} {w w':World} {et:TypeId} {cs:Array Value} {v:Value} (h:HB1 i g w et cs v) (k:Ext g w g' w'):HB1 i g' w' et cs v:=let ⟨b,h1,h2⟩:=h; ⟨b,h1,h2.ext k⟩
theorem Ib {i:Nat} {et:TypeId} {cs:Array Value} {v:Value}:Up Um (fun g w=>HB1 i g w et cs v):=fun _ _ _ _ hx h=>h.ext hx
section
variable {P:Program} {e:Env} {w:World} {g:Gh} {K:Value→World→Prop}
theorem V9 {α : Type} [GoT α] (i : Nat) {t et : TypeId} {zv : Value} {os : List (Nat × Operand)} {x : α} {u : Value}
  (ht:P.underlying t=some (.slice et)) (hs:∀ w,(sizeOf et).run P w=.ok (GoT.k α) w) (hz:∀ w,(zeroValue et).run P w=.ok zv w) (hzs:zv.cells.size=GoT.k α) (hk:Nat.blt 0 (GoT.k α)=true)
  (hps:Parts e os (K4 0 [u])) (hv:RV g.m w x u) (hsm:Nat.ble (GoT.k α) 16777216=true)
  (h:∀ g' w' v,Ext g w g' w'→RV g'.m w' [x] v→HB1 i g' w' et u.cells v→K v w'):Doe P (.buildSlice t 1 os.toArray) e w K:=fun d ty pos af gd=>by
 have hvs:RVs g.m w [x] [u]:=RVs.cons hv RVs.nil
 have hrun:=Yf (P:=P) ht hs hz hzs (Nat.le_of_ble_eq_true hk) hvs (by have:=Nat.le_of_ble_eq_true hsm; simpa using this)
 have hflat:=hvs.flat
 have hl:=hflat.len
 have hc1:(([u].map fun v=>v.cells.toList).flatten)=u.cells.toList:=by simp
 rw [hc1] at hrun hflat hl
 have hst:=H8 i g w u.cells et (1 * GoT.k α)
 have hrun2:(execOp (ev e) ⟨d,.buildSlice t 1 os.toArray,ty,pos,af,gd⟩).run P w=.ok (.value (.slice (some ⟨w.heap.size,0,none⟩) 1 1)) (w.alloc (.cells u.cells et)):=by
  simp only [execOp,List.map_toArray,hps.map,Sem.run_bind]
  rw [show ([x]:List α).length=1 from rfl,Array.toArray_toList] at hrun
  rw [hrun]
  simp only [Result.andThen_ok,Sem.run_pure]
 unfold doE; rw [hrun2]
 refine h _ _ _ ⟨(Below.refl _ w).alloc (Nat.le_refl _) _, fun b hb => Qx _ _ (by omega), fun b hb => Qx _ _ (by omega)⟩
  (Wt rfl (Nat.le_refl _) fun _=>⟨w.heap.size,0,rfl,by simp,by rw [Nat.zero_add]; exact Nat.le_of_eq (To _ _ _).symm,(hflat.ch hst.ch).row fun j v hj=>?_⟩)
  ⟨_,rfl,To _ _ _,Q1 _ _⟩
 rw [Nat.zero_add,Y4]
 simpa using hj
theorem Ov {α : Type} [GoT α] {i : Nat} {g0 : Gh} {w0 : World} {t t2 : TypeId} {x : Operand} {p : Value} {a : α} {K : Prop} (ha : ∀ w, (isAgg t).run P w = .ok (GoT.agg α) w) (hs : ∀ w, (sizeOf t).run P w = .ok (GoT.k α) w) (hp : OB i g0 w0 t2 a p)
  (k:∀ b cs,p=.pointer (some ⟨b,0,none⟩)→w0.heap[b]?=some (.cells cs t2 (0,0))→GoT.rep g0.m w0 a cs.toList→(∀ (e:Env) (g:Gh) (w:World),(Ch g0.m w0 g.m w∧∀ b,b < w0.heap.size→g0.o b=i→w.heap[b]?=w0.heap[b]?)→ev e x=p→∀ d ty pos af gd,(execOp (ev e) ⟨d,.load t x,ty,pos,af,gd⟩).run P w=.ok (.value (toV (GoT.agg α) cs.toList)) w)→K):K:=by
 obtain ⟨b,cs,rfl,ho,hm,hh,hr⟩:=hp
 refine k b cs rfl hh hr fun e g w hx he d ty pos af gd=>?_
 have hh':w.heap[b]?=some (.cells cs t2 (0,0)):=(hx.2 b (Gg hh) ho).trans hh
 have h1:=Qw (P:=P) (t:=t) (b:=b) (off:=0) (a:=a) (cs:=cs.toList) ha hs (GoT.mono hx.1 hr) (fun j c hj=>by simpa [World.cell?,hh'] using hj)
 simp [execOp,he,Instr.loadAt,Instr.sureAddr,h1]
end

/-! ### All that is new, as what one owns -/
def Ox (gI:Gh) (wI:World) (i:Nat):Gh:={ m:=fun b=>if b < wI.heap.size then gI.m b else 0,o:=fun b=>if b < wI.heap.size then gI.o b else i }
theorem N8 {gI g:Gh} {wI w:World} {i:Nat} (h:Fr gI wI g w):Ext gI wI (Ox gI wI i) w:=
 ⟨h.below,fun _ hb=>if_pos hb,fun _ hb=>if_pos hb⟩
theorem Iv {gI:Gh} {wI:World} {i b:Nat} (h:¬ b < wI.heap.size):(Ox gI wI i).o b=i∧(Ox gI wI i).m b=0:=⟨if_neg h,if_neg h⟩
theorem Nr {gI g:Gh} {wI w:World} {b j:Nat} (h:Fr gI wI g w) (ho:g.o b=j + 1):¬ b < wI.heap.size:=fun hb=>by have:=h.o b hb; omega
section
variable {α β γ:Type} [GoT α] [GoT β] [GoT γ] {A:Ow α} {B:Ow β} {E:Ow γ} {i j k:Nat} {gI g:Gh} {wI w:World} {v:Value}
def WnT (A:Ow α) (i:Nat) (gI g:Gh) (wI w:World) (x:α) (cs:List Value) (T:List Nat):Prop:=∃ s,Wn A i (Ox gI wI i) w x s cs∧A.ok s∧∀ c ∈ A.bl s,g.o c ∈ T
theorem WnT.sh (hp:Yg α) {m:Nat→Nat} {x:α} {cs:List Value} (h:GoT.rep m w x cs):WnT (Ow.sh α) i gI g wI w x cs []:=⟨(),⟨hp _ _ _ _ _ _ h,List.nodup_nil,fun c hc=>by cases hc⟩,trivial,fun c hc=>by cases hc⟩
theorem WnT.os (hp:Yg α) {et:TypeId} {xs:List α} (hfr:Fr gI wI g w) (h:OS (j + 1) g w et xs v) (hr:RV g.m w xs v):WnT (Ow.list et (Ow.sh α)) i gI g wI w xs [v] [j + 1]:=by
 rcases h with ⟨rfl,rfl⟩ | ⟨b,c,cs,rfl,ho,hm,hh,hc,hcm,hcs⟩
 ·exact ⟨.nil,⟨⟨rfl,rfl⟩,List.nodup_nil,fun c hc=>by cases hc⟩,trivial,fun c hc=>by cases hc⟩
 ·have hbl : (Ow.list et (Ow.sh α)).bl (.at b c (List.replicate xs.length ())) = [b] := congrArg (List.cons b) (Mr (α := α) _)
  have hf:Ts (Ox gI wI i).m w xs (cs.toList.take (xs.length * GoT.k α)):=by
   rcases Nat.eq_zero_or_pos xs.length with h0 | h0
   ·have hx : xs = [] := List.eq_nil_of_length_eq_zero h0
    subst hx
    simp [Ts]
   ·obtain ⟨a, c2, he, _, hrow⟩ := Qn hr
    obtain ⟨b2,off2,rfl,_,_,hrow⟩:=hrow h0
    injection he with he _ _
    injection he with he
    injection he with h1 h2
    subst h1; subst h2
    obtain ⟨ds,hf,hcell⟩:=hrow.flat
    have hl:=hf.len
    have hds:cs.toList.take (xs.length * GoT.k α)=ds:=by
     apply List.ext_getElem?
     intro q
     rw [List.getElem?_take]
     split
     ·rename_i hk
      have hk2:q < ds.length:=by rw [hl]; exact hk
      have:=hcell q _ (List.getElem?_eq_getElem hk2)
      simp only [World.cell?,hh,Nat.zero_add,Option.isSome_none,Bool.false_eq_true,if_false] at this
      rw [List.getElem?_eq_getElem hk2,← this,Array.getElem?_toList]
     ·rename_i hk
      rw [List.getElem?_eq_none (by omega)]
    rw [hds]
    exact hf.plain hp
  refine ⟨.at b c (List.replicate xs.length ()),⟨⟨rfl,hc,hcm,cs,hh,hcs,Rx hf⟩,by rw [hbl]; simp,fun x hx=>?_⟩,fun _ _=>trivial,fun x hx=>?_⟩
  ·rw [hbl, List.mem_singleton] at hx
   rw [hx]; exact Iv (Nr hfr ho)
  ·rw [hbl, List.mem_singleton] at hx
   rw [hx,ho]; simp
theorem WnT.pair {x:α} {y:β} {c1 c2:List Value} {T1 T2:List Nat} (h1:WnT A i gI g wI w x c1 T1) (h2:WnT B i gI g wI w y c2 T2) (hd:∀ a ∈ T1,a ∉ T2):WnT (Ow.pair A B) i gI g wI w (x,y) (c1 ++ c2) (T1 ++ T2):=by
 obtain ⟨s,a1,a2,a3⟩:=h1
 obtain ⟨t,b1,b2,b3⟩:=h2
 refine ⟨(s,t),⟨⟨c1,c2,rfl,a1.ow,b1.ow⟩,List.nodup_append.2 ⟨a1.nd,b1.nd,fun a ha b hb e=>hd _ (a3 a ha) (e ▸ b3 b hb)⟩,fun c hc=>?_⟩,⟨a2,b2⟩,fun c hc=>?_⟩
 ·exact (List.mem_append.1 hc).elim (a1.tg c) (b1.tg c)
 ·exact (List.mem_append.1 hc).elim (fun h=>List.mem_append_left _ (a3 c h)) fun h=>List.mem_append_right _ (b3 c h)
theorem WnT.struct {α:Type} {to:α→β} {x:α} {cs:List Value} {T:List Nat} (h:WnT B i gI g wI w (to x) cs T):@WnT α (GoT.struct α to) (Ow.struct to B) i gI g wI w x cs T:=by
 obtain ⟨s,a1,a2,a3⟩:=h
 exact ⟨s,Wn.struct (x:=x) a1,a2,a3⟩
theorem WnT.one {et:TypeId} {x:γ} {cs:Array Value} {T:List Nat} (hfr:Fr gI wI g w) (hb:HB1 (j + 1) g w et cs v) (h:WnT E i gI g wI w x cs.toList T) (hT:j + 1 ∉ T):WnT (Ow.list et E) i gI g wI w [x] [v] ((j + 1) :: T):=by
 obtain ⟨b,rfl,ho,hh⟩:=hb
 obtain ⟨s,a1,a2,a3⟩:=h
 have hl:=E.len a1.ow
 have hsz:cs.size=1 * GoT.k γ:=by rw [Nat.one_mul]; simpa using hl
 have hbl:(Ow.list et E).bl (.at b 1 [s])=b :: E.bl s:=congrArg (List.cons b) (by simp)
 have hn:b ∉ E.bl s:=fun hb=>hT (ho ▸ a3 b hb)
 refine ⟨.at b 1 [s],⟨⟨rfl,Nat.le_refl _,by decide,cs,hh,hsz,x,[],cs.toList,[],rfl,?_,a1.ow,rfl,rfl⟩,by rw [hbl]; exact List.nodup_cons.2 ⟨hn,a1.nd⟩,fun c hc=>?_⟩,fun q hq=>?_,fun c hc=>?_⟩
 ·rw [List.append_nil,List.take_of_length_le (by show cs.toList.length ≤ 1 * GoT.k γ; simp; omega)]
 ·rw [hbl] at hc
  rcases List.mem_cons.1 hc with rfl | hc
  ·exact Iv (Nr hfr ho)
  ·exact a1.tg c hc
 ·rw [List.mem_singleton.1 hq]; exact a2
 ·rw [hbl] at hc
  rcases List.mem_cons.1 hc with rfl | hc
  ·rw [ho]; simp
  ·exact List.mem_cons_of_mem _ (a3 c hc)
theorem WnT.hand {x:α} {cs:List Value} {T:List Nat} (hfr:Fr gI wI g w) (h:WnT A i gI g wI w x cs T) (hv:v=toV (GoT.agg α) cs):∃ g',Ext gI wI g' w∧OWx A i g' w x v:=by
 obtain ⟨s,a1,a2,_⟩:=h
 exact ⟨_,N8 hfr,s,hv ▸ Wn.mk_ a1,a2⟩
end
end Go.Proofs.YtepehlhgkipcoaaGreatDoor
