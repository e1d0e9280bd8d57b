/- Steps of a walk under short names. No program is named here. -/
import Derived.Test.YtepehlhgkipcoaaGreatDoorKey
import Derived.Test.YtepehlhgkipcoaaGreatDoorLend
import Derived.Lib.AppendZerosOnto
namespace Go.Proofs.YtepehlhgkipcoaaGreatDoor
open Go.RowKit
section
variable {P:Program} {N:Nat} {ro:Option Nat} {Q:Jg} {e:Env} {ds:List Deferred} {w:World} {ops:Array Oper} {rest:List Oper} {d:Option Tmp} {ty:TypeId} {pos:String} {af:Array Edge} {x y:Operand}
theorem Zo {v:Value} (hx:ev e x=v) (hd:okO N d=true) (h:EL P N ro ops rest Q (Qc e d v) ds w):EL P N ro ops (⟨d,.move x,ty,pos,af,none⟩ :: rest) Q e ds w:=
 D7 (Zk hx) .plain (by simpa [U0] using hd) h
theorem EL_as {v:Value} (hx:ev e x=v) (hd:okO N d=true) (h:EL P N ro ops rest Q (Qc e d v) ds w):EL P N ro ops (⟨d,.assign x,ty,pos,af,none⟩ :: rest) Q e ds w:=
 D7 (Tx hx) .plain (by simpa [U0] using hd) h
theorem Zn (v:Value) (hx:ev e x=v) (hd:okO N d=true) (h:EL P N ro ops rest Q (Qc e d v) ds w):EL P N ro ops (⟨d,.move x,ty,pos,af,none⟩ :: rest) Q e ds w:=Zo hx hd h
theorem Zg (v:Value) (hx:ev e x=v) (hd:okO N d=true) (h:EL P N ro ops rest Q (Qc e d v) ds w):EL P N ro ops (⟨d,.assign x,ty,pos,af,none⟩ :: rest) Q e ds w:=EL_as hx hd h
theorem Gf {op:BinOp} {t t2:TypeId} {m n:Int} (v:Value) (hx:ev e x=.int .i64 m) (hy:ev e y=.int .i64 n) (hv:iop op m n=some v) (hd:okO N d=true) (h:EL P N ro ops rest Q (Qc e d v) ds w):EL P N ro ops (⟨d,.binOp op t x y t2,ty,pos,af,none⟩ :: rest) Q e ds w:=
 D7 (Gx hx hy hv) .plain (by simpa [U0] using hd) h
theorem G5 {c:Operand} {a b:Code} {t:Bool} (ht:t=true) (hc:ev e c=.bool t) (h:E P N ro a Q e ds w):E P N ro (.cond c a b) Q e ds w:=Tj (hc.trans (congrArg Value.bool ht)) h
theorem G8 {c:Operand} {a b:Code} {t:Bool} (ht:t=false) (hc:ev e c=.bool t) (h:E P N ro b Q e ds w):E P N ro (.cond c a b) Q e ds w:=Gz (hc.trans (congrArg Value.bool ht)) h
end
section
variable {SR:Hr} {P:Program} {N:Nat} {ops:Array Oper} {C:T5} {Φ:U1} {F:Nat→T5} {Q:Env→T5} {e:Env} {i:Nat} {l:List Nat} {ro:Option Nat} {R:Jg} {ds:List Deferred} {w:World} {rest:List Oper}
variable {op:Op} {ty:TypeId} {pos:String} {af:Array Edge} {gd:Option (Nat × Bool)} {d:Option Tmp} {j t:Nat} {b b' c':Bool}
theorem Z2 (c : Value) (ho : ops[i]? = some ⟨d, op, ty, pos, af, none⟩) (hφ : Φ i = none) (hc : Pur P op e c)
  (k:Lex SR P ops C Φ Q l (Wl F i (fun g w=>∀ j ∈ Gu ⟨d,op,ty,pos,af,none⟩,F j g w)) (Qc e d c)) (hnl:SR.late i=false:=by rfl):Lex SR P ops C Φ Q (i :: l) F e:=
 J5 (c:=c) ho hφ .plain (fun _ _ _=>hc) k hnl
theorem L_y (c : Value) (ho : ops[i]? = some ⟨d, op, ty, pos, af, some (j, b)⟩) (hφ : Φ i = none) (hd : (ops[j]?).bind (·.dst) = some t) (he : e t = .bool b') (hb : b' = b) (hc : Pur P op e c)
  (k:Lex SR P ops C Φ Q l (Wl F i (fun g w=>∀ j' ∈ Gu ⟨d,op,ty,pos,af,some (j,b)⟩,F j' g w)) (Qc e d c)) (hnl:SR.late i=false:=by rfl):Lex SR P ops C Φ Q (i :: l) F e:=
 J5 (c:=c) ho hφ (.yes2 hd he hb) (fun _ _ _=>hc) k hnl
theorem L_s (ho:ops[i]?=some ⟨d,op,ty,pos,af,some (j,b)⟩) (hd:(ops[j]?).bind (·.dst)=some t) (he:e t=.bool b') (hb:b'=c') (hc:(c' == b)=false) (k:Lex SR P ops C Φ Q l (Wl F i (fun _ _=>True)) (Qc e d undef)):Lex SR P ops C Φ Q (i :: l) F e:=
 N5 ho (.no2 hd he hb hc) k
theorem Ho (h:∀ g w,C g w→Q e g w):Lex SR P ops C Φ Q [] F e:=Jz fun g w ha=>h g w ha.1
theorem Zz (v:Value) (h1:Pur P op e v) (hd:(U0 op && okO N d)=true) (h:EL P N ro ops rest R (Qc e d v) ds w):EL P N ro ops (⟨d,op,ty,pos,af,none⟩ :: rest) R e ds w:=D7 h1 .plain hd h
theorem Z0 (v:Value) (h1:Pur P op e v) (hd:(ops[j]?).bind (·.dst)=some t) (he:e t=.bool b') (hb:b'=b) (hd':(U0 op && okO N d)=true) (h:EL P N ro ops rest R (Qc e d v) ds w):EL P N ro ops (⟨d,op,ty,pos,af,some (j,b)⟩ :: rest) R e ds w:=D7 h1 (.yes2 hd he hb) hd' h
theorem Z1 (hd:(ops[j]?).bind (·.dst)=some t) (he:e t=.bool b') (hb:b'=c') (hc:(c' == b)=false) (hd':okO N d=true) (h:EL P N ro ops rest R (Qc e d undef) ds w):EL P N ro ops (⟨d,op,ty,pos,af,some (j,b)⟩ :: rest) R e ds w:=B4 (.no2 hd he hb hc) hd' h
end
section
variable {P:Program} {e:Env} {w:World} {g:Gh} {K:Value→World→Prop} {x y:Operand}
theorem Mv {α β : Type} [GoT α] [GoT β] {i off : Nat} {f : α → β} {s : α → β → α} {t t2 : TypeId} {p v : Value} {a : α} {b : β} (hsub : Gp off f s) (hs : ∀ w, (sizeOf t).run P w = .ok (GoT.k β) w) (hx : ev e x = Ga p off) (hp : OB i g w t2 a p) (hy : ev e y = v) (hv : RV g.m w b v)
  (h:∀ g' w',Stp i g w g' w'→OB i g' w' t2 (s a b) p→Rest i off (GoT.k β) g w g' w' t2 p→(∀ (γ:Type) (_:GoT γ) (j:Nat) (et:TypeId) (xs:List γ) (d:Nat) (u:Value),(v.cells[d]?=some u)→Nat.beq j i=false→OS j g w et xs u→OSF i j (off + d) g' w' et t2 xs p)→K undef w'):Doe P (.store t x y) e w K:=fun d ty pos af gd=>by
 obtain ⟨bl,cs,rfl,ho,hm,hh,hr⟩:=hp
 have hsz:=G4 hv
 have hl:=GoT.len hr
 have hb:=hsub.1.1
 have hrun:=W7 (P:=P) (t:=t) (v:=v) (b:=bl) (o:=off) (by rw [hsz]; exact hs) hh (by simp at hl; omega) (GoT.one hv.cells)
 have hrep:=hsub.2 _ _ _ _ _ _ hr hv.cells
 rw [show v.cells.toList.length=v.cells.size from by simp] at hrep
 generalize hrow:cs.toList.take off ++ v.cells.toList ++ cs.toList.drop (off + v.cells.size)=row at hrun hrep
 have hstp:Stp i g w g (w.setRow bl row.toArray):=Uv hh ho (fun j hj=>by rw [hm] at hj; omega)
 have hrun2:(execOp (ev e) ⟨d,.store t x y,ty,pos,af,gd⟩).run P w=.ok .skip (w.setRow bl row.toArray):=by
  simp [execOp,hx,hy,Ga,Instr.storeAt,Instr.sureAddr,Result.andThen,hrun]
 have htk:(cs.toList.take off).length=off:=by rw [List.length_take,Array.length_toList]; simp at hl; omega
 unfold doE; rw [hrun2]
 refine h g _ hstp ⟨bl,_,rfl,ho,hm,T9 _ _ hh,by simpa using GoT.mono hstp.ch hrep⟩ ⟨bl,cs,_,rfl,rfl,hh,T9 _ _ hh,fun j hj=>?_,fun j hj=>?_⟩ (fun γ _ j et xs dd u hv1 hji hos=>⟨bl,u,_,rfl,ho,T9 _ _ hh,?_,hos.stp hstp hji⟩)
 ·rw [List.getElem?_toArray,← hrow,List.append_assoc,List.getElem?_append_left (by omega),List.getElem?_take,if_pos hj]; simp
 ·have hvl : v.cells.toList.length = GoT.k β := by simpa using hsz
  rw [List.getElem?_toArray,← hrow,List.getElem?_append_right (by rw [List.length_append,htk,hvl]; omega),List.getElem?_drop,List.length_append,htk,hvl,hsz]
  have:off + GoT.k β + (j - (off + GoT.k β))=j:=by omega
  rw [this]; simp
 ·have hdl:dd < v.cells.toList.length:=by
   have:=(Array.getElem?_eq_some_iff.1 hv1).1
   simpa using this
  rw [List.getElem?_toArray,← hrow,List.append_assoc,List.getElem?_append_right (by omega),htk,show off + dd - off=dd by omega,List.getElem?_append_left hdl]
  simpa using hv1
end
theorem sinj.{u} {α:Type u} {a b:α} (h:some a=some b):a=b:=Option.some.inj h
end Go.Proofs.YtepehlhgkipcoaaGreatDoor
/- slices.Grow of nil: an own slice of nothing, with room. No program is named here. -/
namespace Go.Proofs.YtepehlhgkipcoaaGreatDoor
open Go.RowKit Go.Lib

theorem OS.handn {α:Type} [GoT α] {j i:Nat} {g0 g:Gh} {w0 w:World} {t:TypeId} {xs:List α} {v:Value} (hfr:Fr g0 w0 g w) (h:OS (j + 1) g w t xs v) (hr:RV g.m w xs v):∃ g',Ext g0 w0 g' w∧OS i g' w t xs v∧RV g'.m w xs v:=by
 rcases h with ⟨h1,h2⟩ | ⟨b,c,cs,hv,ho,hm,hh,hc,hcm,hcs⟩
 ·exact ⟨_,hfr.fin,.inl ⟨h1,h2⟩,by subst h2; exact h1 ▸ Qi⟩
 ·have hb : ¬ b < w0.heap.size := fun hb => by have := hfr.o b hb; omega
  refine ⟨{ m:=g.m,o:=Wk (fun b=>if b < w0.heap.size then g0.o b else 0) b i },⟨hfr.below,hfr.m,fun b' hb'=>?_⟩,.inr ⟨b,c,cs,hv,by simp [Wk],hm,hh,hc,hcm,hcs⟩,hr⟩
  rw [show ({ m:=g.m,o:=Wk (fun b=>if b < w0.heap.size then g0.o b else 0) b i }:Gh).o b'=Wk (fun b=>if b < w0.heap.size then g0.o b else 0) b i b' from rfl,Qx _ _ (show b' ≠ b from fun h=>hb (h ▸ hb'))]
  simp [hb']
section
variable {P:Program} {e:Env} {w:World} {g:Gh} {K:Value→World→Prop} {x y z:Operand}
end
section
variable {P:Program} {N:Nat} {w:World} {g:Gh}
end
end Go.Proofs.YtepehlhgkipcoaaGreatDoor
/- Appends to own slices in regions that draw their order. No program is named here. -/
namespace Go.Proofs.YtepehlhgkipcoaaGreatDoor
open Go.RowKit

theorem Ts.pre {α : Type} [GoT α] {m : Nat → Nat} {w : World} : ∀ {xs ys : List α} {cs : List Value}, Ts m w (xs ++ ys) cs → Ts m w xs (cs.take (xs.length * GoT.k α))
 | [],_,_,_=>by simp [Ts]
 | x :: xs,ys,_,⟨c1,c2,rfl,h1,h2⟩=>by
  have hl:=GoT.len h1
  refine ⟨c1,c2.take (xs.length * GoT.k α),?_,h1,Ts.pre h2⟩
  rw [List.length_cons,Nat.add_mul,Nat.one_mul,List.take_append,List.take_of_length_le (by omega),hl]
  congr 2; omega
section
variable {α:Type} [GoT α] {i:Nat} {et:TypeId} {xs r:List α} {u:Value} {g g':Gh} {w w':World}
variable {P:Program} {N:Nat}
end
end Go.Proofs.YtepehlhgkipcoaaGreatDoor
