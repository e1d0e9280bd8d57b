/- Appends of own rows to an own slice of slices. No program is named here. -/
import Derived.Test.YtpckllcdlpoieaaCh
namespace Go.Proofs.Ytpckllcdlpoieaa
open Go.RowKit
section
variable {γ:Type} [GoT γ] {E:Ow γ} {P:Program} {m:Nat→Nat} {w:World} {g:Gh} {e:Env} {K:Value→World→Prop} {x y:Operand}
end
end Go.Proofs.Ytpckllcdlpoieaa
/- A region that draws its order, whose changing operations come in one order; some loads come before one of them, the operation M. No program is named here. -/
namespace Go.Proofs.Ytpckllcdlpoieaa
open Go.RowKit
section
variable {P:Program} {ops:Array Oper}
variable {cst:Nat→Option Bool} {L:Bool→World→Prop} {M:Nat} {Q:Env→World→Prop}
end
section
variable {P:Program} {ops:Array Oper} {ls es V U:List Nat} {M:Nat} {g0:Gh} {w0:World} {Q:Env→World→Prop} {i:Nat} {l:List Nat} {e:Env} {w:World} {op:Op} {ty:TypeId} {pos:String} {af:Array Edge} {gd:Option (Nat × Bool)} {d:Option Tmp}
end
section
variable {α β γ:Type} [GoT α] [GoT γ] {A:Ow α} {E:Ow γ} {P:Program} {x:Operand} {i b b1 off:Nat} {t t2:TypeId} {a:α} {s:A.S}
end
end Go.Proofs.Ytpckllcdlpoieaa
/- A part cut out of an own slice, in place; a slice that an own variable shares. No program is named here. -/
namespace Go.Proofs.Ytpckllcdlpoieaa
open Go.RowKit
section
variable {α:Type} [GoT α] {m:Nat→Nat} {w:World}
theorem FlatR.take : ∀ {xs : List α} {cs : List Value} (n : Nat), FlatR m w xs cs → FlatR m w (xs.take n) (cs.take (n * GoT.k α))
 | [],_,n,h=>by rw [show _=[] from h]; simp; exact rfl
 | _ :: _,_,0,_=>by simp; exact rfl
 | _ :: _,_,n + 1,⟨c1,c2,he,h1,h2⟩=>by
  subst he
  have hl:=GoT.len h1
  have e1:(n + 1) * GoT.k α=c1.length + n * GoT.k α:=by rw [Nat.add_mul,hl]; omega
  rw [List.take_succ_cons,e1,List.take_append,List.take_of_length_le (Nat.le_add_right _ _),Nat.add_sub_cancel_left]
  exact ⟨_,_,rfl,h1,h2.take n⟩
theorem FlatR.drop : ∀ {xs : List α} {cs : List Value} (n : Nat), FlatR m w xs cs → FlatR m w (xs.drop n) (cs.drop (n * GoT.k α))
 | [],_,n,h=>by rw [show _=[] from h]; simp; exact rfl
 | _ :: _,_,0,h=>by simpa using h
 | _ :: _,_,n + 1,⟨c1,c2,he,h1,h2⟩=>by
  subst he
  have hl:=GoT.len h1
  have e1:(n + 1) * GoT.k α=c1.length + n * GoT.k α:=by rw [Nat.add_mul,hl]; omega
  rw [List.drop_succ_cons,e1,List.drop_append,List.drop_of_length_le (Nat.le_add_right _ _),List.nil_append,Nat.add_sub_cancel_left]
  exact h2.drop n
end
section
variable {P:Program} {e:Env} {w:World} {g:Gh} {K:Value→World→Prop} {x y z:Operand}
end
end Go.Proofs.Ytpckllcdlpoieaa
/- A region that draws its order, of which some changing operations come in several orders: a tree of orders. No program is named here. -/
namespace Go.Proofs.Ytpckllcdlpoieaa
open Go.RowKit
inductive OTr where
 | done
 | step (i:Nat) (t:OTr)
 | alt (i:Nat) (t:OTr) (r:OTr)
 | stop
section
variable {P:Program} {ops:Array Oper}
variable {cst:Nat→Option Bool} {L:Bool→World→Prop} {M:Nat} {Q:Env→World→Prop}
structure Form (N : Nat) (ops : Array Oper) : Prop where
 ok:∀ j,j < ops.size→okO N (opAt ops j).dst=true∧isSel (opAt ops j)=false∧∀ k ∈ directOf (opAt ops j),k < j
variable {N n:Nat}
end
section
variable {P:Program} {ops:Array Oper} {ls es V U:List Nat} {M:Nat} {g0:Gh} {w0:World} {Q:Env→World→Prop} {i:Nat} {t r:OTr} {e:Env} {w:World} {op:Op} {ty:TypeId} {pos:String} {af:Array Edge} {gd:Option (Nat × Bool)} {d:Option Tmp}
end
end Go.Proofs.Ytpckllcdlpoieaa
/- Variables that a draw makes and stores to, several of them. No program is named here. -/
namespace Go.Proofs.Ytpckllcdlpoieaa
open Go.RowKit
structure Vd where
 tag:Nat
 A0:Value→Fact
 A1:Value→Fact
 e0:∀ {v g w g' w'},Ext g w g' w'→A0 v g w→A0 v g' w'
 e1:∀ {v g w g' w'},Ext g w g' w'→A1 v g w→A1 v g' w'
 s0:∀ {v k g w g' w'},tag ≠ k→Stp k g w g' w'→A0 v g w→A0 v g' w'
 s1:∀ {v k g w g' w'},tag ≠ k→Stp k g w g' w'→A1 v g w→A1 v g' w'
def Vd.keep (d:Vd) (g:Gh) (w:World) (g':Gh) (w':World):Prop:=∀ v,(d.A1 v g w→d.A1 v g' w')∧(d.A0 v g w ∨ d.A1 v g w→d.A0 v g' w' ∨ d.A1 v g' w')
def vRel (n0:Nat) (vs:List Vd):StepRel:={ rel:=fun g w g' w'=>(Ext g w g' w' ∨ ∃ d ∈ vs,Stp d.tag g w g' w'∧∀ b,b < n0→w'.heap[b]?=w.heap[b]?∧g'.m b=g.m b∧g'.o b=g.o b)∧∀ d ∈ vs,d.keep g w g' w' }
section
variable {n0:Nat} {vs:List Vd} {g g':Gh} {w w':World}
theorem vl_ext (h:Ext g w g' w'):(vRel n0 vs).rel g w g' w':=⟨.inl h,fun d _ v=>⟨d.e1 h,fun k=>k.imp (d.e0 h) (d.e1 h)⟩⟩
theorem vl_ch (h:(vRel n0 vs).rel g w g' w'):Ch g.m w g'.m w':=by
 rcases h.1 with h | ⟨d,_,h,_⟩
 ·exact h.ch
 ·exact h.ch
theorem vl_C {g0:Gh} {w0:World}:Up (vRel w0.heap.size vs) (fun g w=>Ext g0 w0 g w):=fun g w g' w' hx h=>by
 rcases hx.1 with hx | ⟨d,_,hs,hold⟩
 ·exact h.trans hx
 ·refine ⟨⟨hs.os.trans h.below.os,hs.tape.trans h.below.tape,hs.output.trans h.below.output,Nat.le_trans h.below.size hs.ch.size,fun b hb=>(hold b hb).1.trans (h.below.block b hb)⟩,fun b hb=>(hold b hb).2.1.trans (h.m b hb),fun b hb=>(hold b hb).2.2.trans (h.o b hb)⟩
def noTag (j:Nat) (vs:List Vd):Prop:=∀ d ∈ vs,Nat.beq j d.tag=false
theorem noTag_nil {j:Nat}:noTag j []:=fun _ h=>by cases h
theorem noTag_cons {j:Nat} {d:Vd} {vs:List Vd} (h:Nat.beq j d.tag=false) (k:noTag j vs):noTag j (d :: vs):=fun d' hd=>by
 rcases List.mem_cons.1 hd with rfl | hd
 ·exact h
 ·exact k d' hd
variable {β:Type} [GoT β]
theorem upL_rv {x:β} {v:Value}:Up (vRel n0 vs) (fun g w=>RV g.m w x v):=fun _ _ _ _ hx h=>h.ch (vl_ch hx)
theorem upL_os {j:Nat} {t:TypeId} {x:List β} {v:Value} (hj:noTag j vs):Up (vRel n0 vs) (fun g w=>OS j g w t x v):=fun _ _ _ _ hx h=>by
 rcases hx.1 with hx | ⟨d,hd,hs,_⟩
 ·exact h.ext hx
 ·exact h.stp hs (hj d hd)
theorem upL_eq (p:Prop):Up (vRel n0 vs) (fun _ _=>p):=fun _ _ _ _ _ h=>h
theorem upL_and {A B:Fact} (h:Up (vRel n0 vs) A) (k:Up (vRel n0 vs) B):Up (vRel n0 vs) (fun g w=>A g w∧B g w):=fun g w g' w' hx q=>⟨h g w g' w' hx q.1,k g w g' w' hx q.2⟩
theorem nbeq {a b:Nat} (h:a ≠ b):Nat.beq a b=false:=by
 cases hb:Nat.beq a b with
 | true=>exact absurd (Nat.eq_of_beq_eq_true hb) h
 | false=>rfl
def OBn {α:Type} [GoT α] (n0 i:Nat) (t2:TypeId) (a:α) (v:Value):Fact:=fun g w=>OB i g w t2 a v∧∀ b o f,v=.pointer (some ⟨b,o,f⟩)→n0 ≤ b
def mkVd {α : Type} [GoT α] (n0 i : Nat) (t2 : TypeId) (a0 a1 : α) : Vd where
 tag:=i
 A0:=OBn n0 i t2 a0
 A1:=OBn n0 i t2 a1
 e0 h k:=⟨k.1.ext h,k.2⟩
 e1 h k:=⟨k.1.ext h,k.2⟩
 s0 hne h k:=⟨k.1.stp h (nbeq hne),k.2⟩
 s1 hne h k:=⟨k.1.stp h (nbeq hne),k.2⟩
def vA {α:Type} [GoT α] (n0 i:Nat) (t2:TypeId) (a0 a1:α) (v:Value):Fact:=fun g w=>OBn n0 i t2 a0 v g w ∨ OBn n0 i t2 a1 v g w
theorem up_vA {α:Type} [GoT α] {i:Nat} {t2:TypeId} {a0 a1:α} {v:Value} (hd:mkVd n0 i t2 a0 a1 ∈ vs):Up (vRel n0 vs) (vA n0 i t2 a0 a1 v):=fun _ _ _ _ hx h=>(hx.2 _ hd v).2 h
theorem up_vB {α:Type} [GoT α] {i:Nat} {t2:TypeId} {a0 a1:α} {v:Value} (hd:mkVd n0 i t2 a0 a1 ∈ vs):Up (vRel n0 vs) (OBn n0 i t2 a1 v):=fun _ _ _ _ hx h=>(hx.2 _ hd v).1 h
variable {P:Program} {N:Nat} {e:Env}
theorem D_allocN {α:Type} [GoT α] {i:Nat} {t:TypeId} {z:Value} {K:Value→World→Prop} {g0:Gh} {w0:World} (hC:Ext g0 w0 g w) (a a1:α) (hz:∀ w,(zeroValue t).run P w=.ok z w) (hv:∀ m w,RV m w a z) (h:∀ g' w' p,Ext g w g' w'→vA w0.heap.size i t a a1 p g' w'→K p w'):Doe P (.alloc t) e w K:=fun d ty pos af gd=>by
 have hrun:(execOp (ev e) ⟨d,.alloc t,ty,pos,af,gd⟩).run P w=.ok (.value (.pointer (some ⟨w.heap.size,0,none⟩))) (w.alloc (.cells z.cells t)):=by
  simp [execOp,Instr.alloc,hz,newVar,newRow,Sem.run_bind,Result.andThen]
 unfold doE; rw [hrun]
 refine h _ _ _ (ext_alloc i g w (.cells z.cells t)) (.inl ⟨ob_new (hv g.m w).cells,fun b o f hb=>?_⟩)
 injection hb with hb; injection hb with hb; injection hb with hb
 rw [← hb]; exact hC.below.size
theorem E_drawVL {n : Nat} {ro : Option Nat} {Q' : Post} {id : Nat} {ops : List Oper} {ds : List Deferred} (vs : List Vd) (words : List (Nat × (Env → Value → Fact))) (ix : List Nat) (hix : ix = List.range n) (hm : P.follows .mixedOrders = true) (hok : lexOk N ops.toArray n = true) (hΦ : UpE (vRel w.heap.size vs) words) (hW : WokE ops.toArray words)
  (h:Lex (vRel w.heap.size vs) P ops.toArray (fun g' w'=>Ext g w g' w') (fun i=>words.lookup i) (fun e' _ w'=>EL P N ro ops.toArray (ops.drop n) Q' e' ds w') ix (fun _ _ _=>True) e):E P N ro (.region id ops.toArray true) Q' e ds w:=
 E_drawR (SR:=vRel w.heap.size vs) (fun g' w'=>Ext g w g' w') (fun i=>words.lookup i) hm hok vl_C (ext_drew g w) (upE_get hΦ) (wokE_get hW) (hix ▸ h)
def apartV (d:Vd) (vs:List Vd):Prop:=∀ d' ∈ vs,d'=d ∨ d'.tag ≠ d.tag
theorem apartV_nil {d:Vd}:apartV d []:=fun _ h=>by cases h
theorem apartV_cons {d d':Vd} {vs:List Vd} (h:d'=d ∨ d'.tag ≠ d.tag) (k:apartV d vs):apartV d (d' :: vs):=fun x hx=>by
 rcases List.mem_cons.1 hx with rfl | hx
 ·exact h
 ·exact k x hx
theorem D_storeVL {α : Type} [GoT α] {i : Nat} {t2 : TypeId} {a0 a1 : α} {g0 : Gh} {w0 : World} {o1 o2 : Operand} {t : TypeId} {p v : Value} (hd : mkVd w0.heap.size i t2 a0 a1 ∈ vs) (hap : apartV (mkVd w0.heap.size i t2 a0 a1) vs) (_hC : Ext g0 w0 g w) (hs : ∀ w, (sizeOf t).run P w = .ok (GoT.k α) w) (hx : ev e o1 = p) (hp : vA w0.heap.size i t2 a0 a1 p g w) (hy : ev e o2 = v) (hv : RV g.m w a1 v) :
  Doe P (.store t o1 o2) e w fun _ w'=>∃ g',(vRel w0.heap.size vs).rel g w g' w'∧OBn w0.heap.size i t2 a1 p g' w':=fun d ty pos af gd=>by
 have key:∀ a:α,OBn w0.heap.size i t2 a p g w→doE P ⟨d,.store t o1 o2,ty,pos,af,gd⟩ e w fun _ w'=>∃ g',(vRel w0.heap.size vs).rel g w g' w'∧OBn w0.heap.size i t2 a1 p g' w':=fun a ⟨hp,hnew⟩=>by
  obtain ⟨b,cs,rfl,ho,hm,hh,hr⟩:=hp
  have hbn:w0.heap.size ≤ b:=hnew b 0 none rfl
  have hsz:=cells_size hv
  have hl:=GoT.len hr
  have hrow:cs.toList.take 0 ++ v.cells.toList ++ cs.toList.drop (0 + v.cells.size)=v.cells.toList:=by
   rw [List.take_zero,List.nil_append,List.drop_of_length_le (by simp at hl; simp; omega),List.append_nil]
  have hrun:=storeVar_run (P:=P) (t:=t) (v:=v) (b:=b) (o:=0) (by rw [hsz]; exact hs) hh (by simp at hl; omega) (GoT.one hv.cells)
  rw [hrow] at hrun
  have hstp:Stp i g w g (w.setRow b v.cells.toList.toArray):=stp_row hh ho (fun j hj=>by rw [hm] at hj; omega)
  have hrun2:(execOp (ev e) ⟨d,.store t o1 o2,ty,pos,af,gd⟩).run P w=.ok .skip (w.setRow b v.cells.toList.toArray):=by
   simp [execOp,hx,hy,Instr.storeAt,Instr.sureAddr,Result.andThen,hrun]
  unfold doE; rw [hrun2]
  have hb:OBn w0.heap.size i t2 a1 (.pointer (some ⟨b,0,none⟩)) g (w.setRow b v.cells.toList.toArray):=⟨⟨b,_,rfl,ho,hm,setRow_cells _ _ hh,by simpa using GoT.mono hstp.ch hv.cells⟩,hnew⟩
  have oth:∀ (a:α) (u:Value),u ≠ .pointer (some ⟨b,0,none⟩)→OBn w0.heap.size i t2 a u g w→OBn w0.heap.size i t2 a u g (w.setRow b v.cells.toList.toArray):=fun a u hne ⟨⟨b2,cs2,hu,ho2,hm2,hh2,hr2⟩,hn2⟩=>by
   have hbb:b2 ≠ b:=fun he=>hne (by rw [hu,he])
   refine ⟨⟨b2,cs2,hu,ho2,hm2,?_,GoT.mono hstp.ch hr2⟩,hn2⟩
   have hset:(w.setRow b v.cells.toList.toArray).heap[b2]?=w.heap[b2]?:=setRow_other _ _ hbb
   rw [hset]; exact hh2
  refine ⟨g,⟨.inr ⟨_,hd,hstp,fun b' hb'=>⟨setRow_other _ _ (by omega),rfl,rfl⟩⟩,fun d' hd'=>?_⟩,hb⟩
  rcases hap d' hd' with rfl | hne
  ·intro u
   by_cases hu:u=.pointer (some ⟨b,0,none⟩)
   ·subst hu; exact ⟨fun _=>hb,fun _=>.inr hb⟩
   ·exact ⟨oth _ _ hu,fun k=>k.imp (oth _ _ hu) (oth _ _ hu)⟩
  ·exact fun u=>⟨d'.s1 hne hstp,fun k=>k.imp (d'.s0 hne hstp) (d'.s1 hne hstp)⟩
 rcases hp with hp | hp
 ·exact key _ hp
 ·exact key _ hp
end
end Go.Proofs.Ytpckllcdlpoieaa
