/- Appends of own rows to an own slice of slices. No program is named here. -/
import Derived.Test.YtmebkoemfjlbcaaGreatDoorCh
namespace Go.Proofs.YtmebkoemfjlbcaaGreatDoor
open Go.RowKit
section
variable {γ:Type} [GoT γ] {E:Ow γ} {P:Program} {m:Nat→Nat} {w:World} {g:Gh} {e:Env} {K:Value→World→Prop} {x y:Operand}
theorem Rows.append : ∀ {ss ss' : List E.S} {xs ys : List γ} {c1 c2 : List Value}, Rows E m w ss xs c1 → Rows E m w ss' ys c2 → Rows E m w (ss ++ ss') (xs ++ ys) (c1 ++ c2)
 | [],_,_,_,_,_,⟨h1,h2⟩,h=>by subst h1; subst h2; exact h
 | _ :: _,_,_,_,_,c2,⟨x,xs',d1,d2,h1,h2,h3,h4⟩,h=>by
  subst h1; subst h2
  exact ⟨x,_,d1,d2 ++ c2,rfl,by rw [List.append_assoc],h3,Rows.append h4 h⟩
end
end Go.Proofs.YtmebkoemfjlbcaaGreatDoor
/- A region that draws its order, whose changing operations come in one order; some loads come before one of them, the operation M. No program is named here. -/
namespace Go.Proofs.YtmebkoemfjlbcaaGreatDoor
open Go.RowKit
section
variable {P:Program} {ops:Array Oper}
variable {cst:Nat→Option Bool} {L:Bool→World→Prop} {M:Nat} {Q:Env→World→Prop}
end
section
variable {P:Program} {ops:Array Oper} {ls es V U:List Nat} {M:Nat} {g0:Gh} {w0:World} {Q:Env→World→Prop} {i:Nat} {l:List Nat} {e:Env} {w:World} {op:Op} {ty:TypeId} {pos:String} {af:Array Edge} {gd:Option (Nat × Bool)} {d:Option Tmp}
end
section
variable {α β γ:Type} [GoT α] [GoT γ] {A:Ow α} {E:Ow γ} {P:Program} {x:Operand} {i b b1 off:Nat} {t t2:TypeId} {a:α} {s:A.S}
end
end Go.Proofs.YtmebkoemfjlbcaaGreatDoor
/- A part cut out of an own slice, in place; a slice that an own variable shares. No program is named here. -/
namespace Go.Proofs.YtmebkoemfjlbcaaGreatDoor
open Go.RowKit
section
variable {α:Type} [GoT α] {m:Nat→Nat} {w:World}
theorem FlatR.take : ∀ {xs : List α} {cs : List Value} (n : Nat), FlatR m w xs cs → FlatR m w (xs.take n) (cs.take (n * GoT.k α))
 | [],_,n,h=>by rw [show _=[] from h]; simp; exact rfl
 | _ :: _,_,0,_=>by simp; exact rfl
 | _ :: _,_,n + 1,⟨c1,c2,he,h1,h2⟩=>by
  subst he
  have hl:=GoT.len h1
  have e1:(n + 1) * GoT.k α=c1.length + n * GoT.k α:=by rw [Nat.add_mul,hl]; omega
  rw [List.take_succ_cons,e1,List.take_append,List.take_of_length_le (Nat.le_add_right _ _),Nat.add_sub_cancel_left]
  exact ⟨_,_,rfl,h1,h2.take n⟩
theorem FlatR.drop : ∀ {xs : List α} {cs : List Value} (n : Nat), FlatR m w xs cs → FlatR m w (xs.drop n) (cs.drop (n * GoT.k α))
 | [],_,n,h=>by rw [show _=[] from h]; simp; exact rfl
 | _ :: _,_,0,h=>by simpa using h
 | _ :: _,_,n + 1,⟨c1,c2,he,h1,h2⟩=>by
  subst he
  have hl:=GoT.len h1
  have e1:(n + 1) * GoT.k α=c1.length + n * GoT.k α:=by rw [Nat.add_mul,hl]; omega
  rw [List.drop_succ_cons,e1,List.drop_append,List.drop_of_length_le (Nat.le_add_right _ _),List.nil_append,Nat.add_sub_cancel_left]
  exact h2.drop n
end
section
variable {P:Program} {e:Env} {w:World} {g:Gh} {K:Value→World→Prop} {x y z:Operand}
theorem OM.hdr {α:Type} [GoT α] {i:Nat} {t:TypeId} {xs:List α} {v:Value} (h:OM i g w t xs v):∃ a c,v=.slice a xs.length c∧xs.length ≤ c:=by
 rcases h with ⟨rfl,rfl⟩ | ⟨b,c,cs,rfl,hc,_⟩
 ·exact ⟨none,0,rfl,Nat.le_refl _⟩
 ·exact ⟨_,c,rfl,hc⟩
theorem P_cutM {α : Type} [GoT α] {t et : TypeId} {v : Value} {xs r : List α} {lo hi : Option Operand} {l h : Int} (ht : P.underlying t = some (.slice et)) (hs : ∀ w, (sizeOf et).run P w = .ok (GoT.k α) w)
  (hx:ev e x=v) (hv:∃ a c,v=.slice a xs.length c∧xs.length ≤ c) (hlo:match lo with | some o=>ev e o=.int .i64 l | none=>l=0) (hhi:match hi with | some o=>ev e o=.int .i64 h | none=>h=xs.length) (hc:cut xs l h=some r) :
  Pur P (.slice t x lo hi none) e (cutV v l.toNat h.toNat (GoT.k α)):=fun _ _ _ _ _ _=>by
 obtain ⟨a,c,rfl,hxc⟩:=hv
 unfold cut at hc
 split at hc
 case isFalse=>cases hc
 rename_i hb
 obtain ⟨h0,hlh,hhl⟩:=hb
 obtain ⟨ln,rfl⟩:=Int.eq_ofNat_of_zero_le h0
 obtain ⟨hn,rfl⟩:=Int.eq_ofNat_of_zero_le (Int.le_trans h0 hlh)
 have hlh':ln ≤ hn:=by omega
 have hhl':hn ≤ xs.length:=by omega
 have hb3:hn ≤ c:=by omega
 simp only [Int.toNat_natCast]
 cases lo with
 | none=>
  simp only at hlo
  have:ln=0:=by omega
  subst this
  cases hi with
  | none=>
   simp only at hhi
   have:hn=xs.length:=by omega
   subst this
   simp [execOp,hx,Instr.sliceAt,Instr.slice,run_underlying ht,Instr.sliceBounds,hs,cutV]
  | some oh=>
   simp only at hhi
   simp [execOp,hx,hhi,Instr.sliceAt,Instr.slice,run_underlying ht,Instr.sliceBounds,Instr.sliceBound,asIntOf,hs,hb3,cutV]
 | some ol=>
  simp only at hlo
  cases hi with
  | none=>
   simp only at hhi
   have:hn=xs.length:=by omega
   subst this
   simp [execOp,hx,hlo,Instr.sliceAt,Instr.slice,run_underlying ht,Instr.sliceBounds,Instr.sliceBound,asIntOf,hs,hlh',cutV]
  | some oh=>
   simp only at hhi
   simp [execOp,hx,hlo,hhi,Instr.sliceAt,Instr.slice,run_underlying ht,Instr.sliceBounds,Instr.sliceBound,asIntOf,hs,hb3,hlh',cutV]
end
end Go.Proofs.YtmebkoemfjlbcaaGreatDoor
/- A region that draws its order, of which some changing operations come in several orders: a tree of orders. No program is named here. -/
namespace Go.Proofs.YtmebkoemfjlbcaaGreatDoor
open Go.RowKit
inductive OTr where
 | done
 | step (i:Nat) (t:OTr)
 | alt (i:Nat) (t:OTr) (r:OTr)
 | stop
section
variable {P:Program} {ops:Array Oper}
def OTr.rm (cst : Nat → Option Bool) (j : Nat) : OTr → OTr
 | .done=>.done
 | .step i t=>if i=j then t else .step i (t.rm cst j)
 | .alt i t r => match cst j with
  | some _=>.alt i (t.rm cst j) (r.rm cst j)
  | none=>if i=j then t else r.rm cst j
 | .stop=>.stop
variable {cst:Nat→Option Bool} {L:Bool→World→Prop} {M:Nat} {Q:Env→World→Prop}
structure Form (N : Nat) (ops : Array Oper) : Prop where
 ok:∀ j,j < ops.size→okO N (opAt ops j).dst=true∧isSel (opAt ops j)=false∧∀ k ∈ directOf (opAt ops j),k < j
theorem Form.apart {N:Nat} (F:Form N ops) {i j:Nat} (hi:i < ops.size) (hj:j < ops.size) (h:apartB ops (opAt ops i) (opAt ops j)=true):ApartC ops (opAt ops i) (opAt ops j):=by
 obtain ⟨k1,k2,k3⟩:=apartB_parts h
 exact ⟨k1,k2,k3,(F.ok i hi).2.1,(F.ok j hj).2.1⟩
variable {N n:Nat}
end
section
variable {P:Program} {ops:Array Oper} {ls es V U:List Nat} {M:Nat} {g0:Gh} {w0:World} {Q:Env→World→Prop} {i:Nat} {t r:OTr} {e:Env} {w:World} {op:Op} {ty:TypeId} {pos:String} {af:Array Edge} {gd:Option (Nat × Bool)} {d:Option Tmp}
end
end Go.Proofs.YtmebkoemfjlbcaaGreatDoor
/- Variables that a draw makes and stores to, several of them. No program is named here. -/
namespace Go.Proofs.YtmebkoemfjlbcaaGreatDoor
open Go.RowKit
structure Vd where
 tag:Nat
 A0:Value→Fact
 A1:Value→Fact
 e0:∀ {v g w g' w'},Ext g w g' w'→A0 v g w→A0 v g' w'
 e1:∀ {v g w g' w'},Ext g w g' w'→A1 v g w→A1 v g' w'
 s0:∀ {v k g w g' w'},tag ≠ k→Stp k g w g' w'→A0 v g w→A0 v g' w'
 s1:∀ {v k g w g' w'},tag ≠ k→Stp k g w g' w'→A1 v g w→A1 v g' w'
section
variable {n0:Nat} {vs:List Vd} {g g':Gh} {w w':World}
variable {β:Type} [GoT β]
variable {P:Program} {N:Nat} {e:Env}
end
section
variable {α:Type} [GoT α] {i:Nat} {g g1:Gh} {w w':World} {t:TypeId} {xs:List α} {v:Value}
end
end Go.Proofs.YtmebkoemfjlbcaaGreatDoor
