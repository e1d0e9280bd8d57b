/- Slices built as the blocks that they are; what is new, handed out with all that it leads to. No program is named here. -/
import Derived.Test.YtmebkoemfjlbcaaGreatDoorMm
namespace Go.Proofs.YtmebkoemfjlbcaaGreatDoor
open Go.RowKit

def HBo (i:Nat) (g:Gh) (w:World) (b:Nat) (ob:Obj):Prop:=g.o b=i∧w.heap[b]?=some ob
theorem HBo.ext {i:Nat} {g g':Gh} {w w':World} {b:Nat} {ob:Obj} (h:HBo i g w b ob) (k:Ext g w g' w'):HBo i g' w' b ob:=⟨(k.o b (lt_of_heap h.2)).trans h.1,(k.below.block b (lt_of_heap h.2)).trans h.2⟩
theorem HBo.stp {i j:Nat} {g g':Gh} {w w':World} {b:Nat} {ob:Obj} (h:HBo i g w b ob) (k:Stp j g w g' w') (hne:Nat.beq i j=false):HBo i g' w' b ob:=by
 have hij:g.o b ≠ j:=by rw [h.1]; intro he; rw [he] at hne; simp at hne
 exact ⟨(k.o b (lt_of_heap h.2) hij).trans h.1,(k.block b (lt_of_heap h.2) hij).trans h.2⟩
def HB1 (i:Nat) (g:Gh) (w:World) (et:TypeId) (cs:Array Value) (v:Value):Prop:=∃ b,v=.slice (some ⟨b,0,none⟩) 1 1∧HBo i g w b (.cells cs et (0,0))
theorem HB1.ext {i:Nat} {g g':Gh} {w w':World} {et:TypeId} {cs:Array Value} {v:Value} (h:HB1 i g w et cs v) (k:Ext g w g' w'):HB1 i g' w' et cs v:=let ⟨b,h1,h2⟩:=h; ⟨b,h1,h2.ext k⟩
theorem HB1.stp {i j:Nat} {g g':Gh} {w w':World} {et:TypeId} {cs:Array Value} {v:Value} (h:HB1 i g w et cs v) (k:Stp j g w g' w') (hne:Nat.beq i j=false):HB1 i g' w' et cs v:=let ⟨b,h1,h2⟩:=h; ⟨b,h1,h2.stp k hne⟩
section
variable {P:Program} {e:Env} {w:World} {g:Gh} {K:Value→World→Prop}
end

/-! ### All that is new, as what one owns -/
def gNew (gI:Gh) (wI:World) (i:Nat):Gh:={ m:=fun b=>if b < wI.heap.size then gI.m b else 0,o:=fun b=>if b < wI.heap.size then gI.o b else i }
theorem gNew_o {gI:Gh} {wI:World} {i b:Nat} (h:¬ b < wI.heap.size):(gNew gI wI i).o b=i∧(gNew gI wI i).m b=0:=⟨if_neg h,if_neg h⟩
theorem fr_new {gI g:Gh} {wI w:World} {b j:Nat} (h:Fr gI wI g w) (ho:g.o b=j + 1):¬ b < wI.heap.size:=fun hb=>by have:=h.o b hb; omega
section
variable {α β γ:Type} [GoT α] [GoT β] [GoT γ] {A:Ow α} {B:Ow β} {E:Ow γ} {i j k:Nat} {gI g:Gh} {wI w:World} {v:Value}
def WnT (A:Ow α) (i:Nat) (gI g:Gh) (wI w:World) (x:α) (cs:List Value) (T:List Nat):Prop:=∃ s,Wn A i (gNew gI wI i) w x s cs∧A.ok s∧∀ c ∈ A.bl s,g.o c ∈ T
theorem WnT.sh (hp:Plain α) {m:Nat→Nat} {x:α} {cs:List Value} (h:GoT.rep m w x cs):WnT (Ow.sh α) i gI g wI w x cs []:=⟨(),⟨hp _ _ _ _ _ _ h,List.nodup_nil,fun c hc=>by cases hc⟩,trivial,fun c hc=>by cases hc⟩
theorem WnT.os (hp:Plain α) {et:TypeId} {xs:List α} (hfr:Fr gI wI g w) (h:OS (j + 1) g w et xs v) (hr:RV g.m w xs v):WnT (Ow.list et (Ow.sh α)) i gI g wI w xs [v] [j + 1]:=by
 rcases h with ⟨rfl,rfl⟩ | ⟨b,c,cs,rfl,ho,hm,hh,hc,hcm,hcs⟩
 ·exact ⟨.nil,⟨⟨rfl,rfl⟩,List.nodup_nil,fun c hc=>by cases hc⟩,trivial,fun c hc=>by cases hc⟩
 ·have hbl : (Ow.list et (Ow.sh α)).bl (.at b c (List.replicate xs.length ())) = [b] := congrArg (List.cons b) (sh_flat (α := α) _)
  have hf:FlatR (gNew gI wI i).m w xs (cs.toList.take (xs.length * GoT.k α)):=by
   rcases Nat.eq_zero_or_pos xs.length with h0 | h0
   ·have hx : xs = [] := List.eq_nil_of_length_eq_zero h0
    subst hx
    simp [FlatR]
   ·obtain ⟨a, c2, he, _, hrow⟩ := RV_list hr
    obtain ⟨b2,off2,rfl,_,_,hrow⟩:=hrow h0
    injection he with he _ _
    injection he with he
    injection he with h1 h2
    subst h1; subst h2
    obtain ⟨ds,hf,hcell⟩:=hrow.flat
    have hl:=hf.len
    have hds:cs.toList.take (xs.length * GoT.k α)=ds:=by
     apply List.ext_getElem?
     intro q
     rw [List.getElem?_take]
     split
     ·rename_i hk
      have hk2:q < ds.length:=by rw [hl]; exact hk
      have:=hcell q _ (List.getElem?_eq_getElem hk2)
      simp only [World.cell?,hh,Nat.zero_add,Option.isSome_none,Bool.false_eq_true,if_false] at this
      rw [List.getElem?_eq_getElem hk2,← this,Array.getElem?_toList]
     ·rename_i hk
      rw [List.getElem?_eq_none (by omega)]
    rw [hds]
    exact hf.plain hp
  refine ⟨.at b c (List.replicate xs.length ()),⟨⟨rfl,hc,hcm,cs,hh,hcs,flat_rows hf⟩,by rw [hbl]; simp,fun x hx=>?_⟩,fun _ _=>trivial,fun x hx=>?_⟩
  ·rw [hbl, List.mem_singleton] at hx
   rw [hx]; exact gNew_o (fr_new hfr ho)
  ·rw [hbl, List.mem_singleton] at hx
   rw [hx,ho]; simp
theorem WnT.pair {x:α} {y:β} {c1 c2:List Value} {T1 T2:List Nat} (h1:WnT A i gI g wI w x c1 T1) (h2:WnT B i gI g wI w y c2 T2) (hd:∀ a ∈ T1,a ∉ T2):WnT (Ow.pair A B) i gI g wI w (x,y) (c1 ++ c2) (T1 ++ T2):=by
 obtain ⟨s,a1,a2,a3⟩:=h1
 obtain ⟨t,b1,b2,b3⟩:=h2
 refine ⟨(s,t),⟨⟨c1,c2,rfl,a1.ow,b1.ow⟩,List.nodup_append.2 ⟨a1.nd,b1.nd,fun a ha b hb e=>hd _ (a3 a ha) (e ▸ b3 b hb)⟩,fun c hc=>?_⟩,⟨a2,b2⟩,fun c hc=>?_⟩
 ·exact (List.mem_append.1 hc).elim (a1.tg c) (b1.tg c)
 ·exact (List.mem_append.1 hc).elim (fun h=>List.mem_append_left _ (a3 c h)) fun h=>List.mem_append_right _ (b3 c h)
theorem WnT.struct {α:Type} {to:α→β} {x:α} {cs:List Value} {T:List Nat} (h:WnT B i gI g wI w (to x) cs T):@WnT α (GoT.struct α to) (Ow.struct to B) i gI g wI w x cs T:=by
 obtain ⟨s,a1,a2,a3⟩:=h
 exact ⟨s,Wn.struct (x:=x) a1,a2,a3⟩
theorem WnT.one {et:TypeId} {x:γ} {cs:Array Value} {T:List Nat} (hfr:Fr gI wI g w) (hb:HB1 (j + 1) g w et cs v) (h:WnT E i gI g wI w x cs.toList T) (hT:j + 1 ∉ T):WnT (Ow.list et E) i gI g wI w [x] [v] ((j + 1) :: T):=by
 obtain ⟨b,rfl,ho,hh⟩:=hb
 obtain ⟨s,a1,a2,a3⟩:=h
 have hl:=E.len a1.ow
 have hsz:cs.size=1 * GoT.k γ:=by rw [Nat.one_mul]; simpa using hl
 have hbl:(Ow.list et E).bl (.at b 1 [s])=b :: E.bl s:=congrArg (List.cons b) (by simp)
 have hn:b ∉ E.bl s:=fun hb=>hT (ho ▸ a3 b hb)
 refine ⟨.at b 1 [s],⟨⟨rfl,Nat.le_refl _,by decide,cs,hh,hsz,x,[],cs.toList,[],rfl,?_,a1.ow,rfl,rfl⟩,by rw [hbl]; exact List.nodup_cons.2 ⟨hn,a1.nd⟩,fun c hc=>?_⟩,fun q hq=>?_,fun c hc=>?_⟩
 ·rw [List.append_nil,List.take_of_length_le (by show cs.toList.length ≤ 1 * GoT.k γ; simp; omega)]
 ·rw [hbl] at hc
  rcases List.mem_cons.1 hc with rfl | hc
  ·exact gNew_o (fr_new hfr ho)
  ·exact a1.tg c hc
 ·rw [List.mem_singleton.1 hq]; exact a2
 ·rw [hbl] at hc
  rcases List.mem_cons.1 hc with rfl | hc
  ·rw [ho]; simp
  ·exact List.mem_cons_of_mem _ (a3 c hc)
end
end Go.Proofs.YtmebkoemfjlbcaaGreatDoor
