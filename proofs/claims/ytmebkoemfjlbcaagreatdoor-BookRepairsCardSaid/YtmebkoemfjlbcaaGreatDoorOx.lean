/- Values that the function owns with all that they lead to: laws for operations. No program is named here. -/
import Derived.Test.YtmebkoemfjlbcaaGreatDoorOw
namespace Go.Proofs.YtmebkoemfjlbcaaGreatDoor
open Go.RowKit

def OV {α:Type} [GoT α] (A:Ow α) (i:Nat) (g:Gh) (w:World) (t:TypeId) (x:α) (b:Nat) (s:A.S):Prop:=
 ∃ cs,g.o b=i∧g.m b=0∧w.heap[b]?=some (.cells cs t (0,0))∧A.ow s g.m w x cs.toList∧(b :: A.bl s).Nodup∧∀ c ∈ A.bl s,g.o c=i∧g.m c=0
def OW {α:Type} [GoT α] (A:Ow α) (i:Nat) (g:Gh) (w:World) (x:α) (s:A.S) (v:Value):Prop:=
 ∃ cs,v=toV (GoT.agg α) cs∧A.ow s g.m w x cs∧(A.bl s).Nodup∧∀ c ∈ A.bl s,g.o c=i∧g.m c=0
def OWx {α:Type} [GoT α] (A:Ow α) (i:Nat) (g:Gh) (w:World) (x:α) (v:Value):Prop:=∃ s,OW A i g w x s v∧A.ok s
section
variable {α β γ:Type} [GoT α] [GoT β] [GoT γ] {A:Ow α} {B:Ow β} {i j b:Nat} {g g':Gh} {w w':World} {t:TypeId} {x:α} {s:A.S} {v:Value}
theorem OV.ext (h:OV A i g w t x b s) (k:Ext g w g' w'):OV A i g' w' t x b s:=by
 obtain ⟨cs,h1,h2,h3,h4,h5,h6⟩:=h
 have hb:=lt_of_heap h3
 exact ⟨cs,(k.o b hb).trans h1,(k.m b hb).trans h2,(k.below.block b hb).trans h3,A.mono k.ch (fun c hc=>k.below.block c (A.lt h4 c hc)) h4,h5,fun c hc=>⟨(k.o c (A.lt h4 c hc)).trans (h6 c hc).1,(k.m c (A.lt h4 c hc)).trans (h6 c hc).2⟩⟩
theorem OV.stp (h:OV A i g w t x b s) (k:Stp j g w g' w') (hne:Nat.beq i j=false):OV A i g' w' t x b s:=by
 have hij:i ≠ j:=fun e=>by rw [e] at hne; simp at hne
 obtain ⟨cs,h1,h2,h3,h4,h5,h6⟩:=h
 have hb:=lt_of_heap h3
 have hn:∀ c,g.o c=i→g.o c ≠ j:=fun c e=>by rw [e]; exact hij
 exact ⟨cs,(k.o b hb (hn b h1)).trans h1,(k.m b hb (hn b h1)).trans h2,(k.block b hb (hn b h1)).trans h3,A.mono k.ch (fun c hc=>k.block c (A.lt h4 c hc) (hn c (h6 c hc).1)) h4,h5,fun c hc=>⟨(k.o c (A.lt h4 c hc) (hn c (h6 c hc).1)).trans (h6 c hc).1,(k.m c (A.lt h4 c hc) (hn c (h6 c hc).1)).trans (h6 c hc).2⟩⟩
theorem OV.ist {n:Nat} (h:OV A i g w t x b s) (k:IStp n g w g' w') (hi:Nat.beq i 0=false:=by rfl):OV A i g' w' t x b s:=h.stp k.st hi
theorem OW.ext (h:OW A i g w x s v) (k:Ext g w g' w'):OW A i g' w' x s v:=by
 obtain ⟨cs,h1,h4,h5,h6⟩:=h
 exact ⟨cs,h1,A.mono k.ch (fun c hc=>k.below.block c (A.lt h4 c hc)) h4,h5,fun c hc=>⟨(k.o c (A.lt h4 c hc)).trans (h6 c hc).1,(k.m c (A.lt h4 c hc)).trans (h6 c hc).2⟩⟩
theorem OW.stp (h:OW A i g w x s v) (k:Stp j g w g' w') (hne:Nat.beq i j=false):OW A i g' w' x s v:=by
 have hij:i ≠ j:=fun e=>by rw [e] at hne; simp at hne
 obtain ⟨cs,h1,h4,h5,h6⟩:=h
 have hn:∀ c,g.o c=i→g.o c ≠ j:=fun c e=>by rw [e]; exact hij
 exact ⟨cs,h1,A.mono k.ch (fun c hc=>k.block c (A.lt h4 c hc) (hn c (h6 c hc).1)) h4,h5,fun c hc=>⟨(k.o c (A.lt h4 c hc) (hn c (h6 c hc).1)).trans (h6 c hc).1,(k.m c (A.lt h4 c hc) (hn c (h6 c hc).1)).trans (h6 c hc).2⟩⟩
theorem OWx.ext (h:OWx A i g w x v) (k:Ext g w g' w'):OWx A i g' w' x v:=let ⟨s,h1,h2⟩:=h; ⟨s,h1.ext k,h2⟩
theorem OWx.stp (h:OWx A i g w x v) (k:Stp j g w g' w') (hne:Nat.beq i j=false:=by rfl):OWx A i g' w' x v:=let ⟨s,h1,h2⟩:=h; ⟨s,h1.stp k hne,h2⟩
theorem OV.loc (h:OV A i g w t x b s):LocR A s g.m w b 0 x:=by
 obtain ⟨cs,h1,h2,h3,h4,h5,h6⟩:=h
 exact ⟨cs,t,_,h3,h4,fun j v hj=>by rw [Nat.zero_add]; simpa using hj⟩
theorem OW.cells (h:OW A i g w x s v):A.ow s g.m w x v.cells.toList:=by
 obtain ⟨cs,rfl,h4,_⟩:=h
 cases ha:GoT.agg α with
 | true=>simpa [toV,Value.cells] using h4
 | false=>
  have hk:=A.len h4
  rw [GoT.k1 ha] at hk
  match cs,hk with
  | [c],_=>
   have h0:=A.one h4 c (by simp)
   simp only [toV,cond_false,List.headD_cons,oneCell_cells h0]
   exact h4
/-! ### Published, lent -/
def markT (i:Nat) (g:Gh) (w:World):Gh:={ m:=fun b=>if g.o b=i then (if g.m b < blkN w b then blkN w b else g.m b) else g.m b,o:=g.o }
theorem markT_le (i:Nat) (g:Gh) (w:World) (b:Nat):g.m b ≤ (markT i g w).m b:=by
 show g.m b ≤ if _ then (if _ then _ else _) else _
 split
 ·split <;> omega
 ·exact Nat.le_refl _
theorem markT_stp (i:Nat) (g:Gh) (w:World):Stp i g w (markT i g w) w:=
 ⟨rfl,rfl,rfl,ch_up (markT_le i g w),fun _ _ _=>rfl,fun b _ hn=>by show (if _ then _ else _)=_; rw [if_neg hn],fun _ _ _=>rfl⟩
theorem markT_blk {c:Nat} (h:g.o c=i):blkN w c ≤ (markT i g w).m c:=by
 show _ ≤ if _ then (if _ then _ else _) else _
 rw [if_pos h]; split <;> omega
theorem OV.pub (h:OV A i g w t x b s) (hok:A.ok s):∃ g',Stp i g w g' w∧PT g'.m w x (.pointer (some ⟨b,0,none⟩)):=by
 obtain ⟨cs,h1,h2,h3,h4,h5,h6⟩:=h
 refine ⟨_,markT_stp i g w,b,0,cs.toList,rfl,lt_of_heap h3,?_,A.pub h4 hok (markT_le i g w) fun c hc=>markT_blk (h6 c hc).1,fun j c hj=>by simpa [World.cell?,h3] using hj⟩
 have hl:=A.len h4
 have h7:=markT_blk (w:=w) h1
 unfold blkN at h7; rw [h3] at h7
 rw [Nat.zero_add,← hl]; simpa using h7
theorem OW.pub (h:OW A i g w x s v) (hok:A.ok s):∃ g',Stp i g w g' w∧RV g'.m w x v:=by
 obtain ⟨cs,h1,h4,h5,h6⟩:=h
 exact ⟨_,markT_stp i g w,cs,A.pub h4 hok (markT_le i g w) fun c hc=>markT_blk (h6 c hc).1,h1⟩
/-! ### Tags change -/
def retB (bs:List Nat) (i:Nat) (g:Gh):Gh:={ m:=g.m,o:=fun c=>if c ∈ bs then i else g.o c }
theorem retB_stp {bs:List Nat} (h:∀ c ∈ bs,g.o c=j) (i:Nat):Stp j g w (retB bs i g) w:=
 ⟨rfl,rfl,rfl,Ch.refl _ _,fun _ _ _=>rfl,fun _ _ _=>rfl,fun c _ hn=>by show (if c ∈ bs then i else g.o c)=g.o c; rw [if_neg fun hc=>hn (h c hc)]⟩
theorem OW.retag (h:OW A j g w x s v) (i:Nat):∃ g',Stp j g w g' w∧g'.m=g.m∧OW A i g' w x s v:=by
 obtain ⟨cs,h1,h4,h5,h6⟩:=h
 exact ⟨retB (A.bl s) i g,retB_stp (fun c hc=>(h6 c hc).1) i,rfl,cs,h1,h4,h5,fun c hc=>⟨if_pos hc,(h6 c hc).2⟩⟩
/-! ### Slices -/
def hdrV {σ:Type} (s:Sl σ) (n:Nat):Value:=match s with | .at b c _=>.slice (some ⟨b,0,none⟩) n c | .nil=>.slice none 0 0 | _=>undef
theorem flat_rows {m : Nat → Nat} {w : World} : ∀ {xs : List α} {cs : List Value}, FlatR m w xs cs → Rows (Ow.sh α) m w (List.replicate xs.length ()) xs cs
 | [],_,h=>⟨rfl,h⟩
 | _ :: _,_,⟨c1,c2,h2,h3,h4⟩=>by subst h2; exact ⟨_,_,c1,c2,rfl,rfl,h3,flat_rows h4⟩
end
end Go.Proofs.YtmebkoemfjlbcaaGreatDoor
