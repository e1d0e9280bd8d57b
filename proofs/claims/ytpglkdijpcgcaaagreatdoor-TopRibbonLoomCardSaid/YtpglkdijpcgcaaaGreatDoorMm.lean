/- Steps of a walk under short names. No program is named here. -/
import Derived.Test.YtpglkdijpcgcaaaGreatDoorKey
import Derived.Test.YtpglkdijpcgcaaaGreatDoorLend
import Derived.Lib.AppendZerosOnto
namespace Go.Proofs.YtpglkdijpcgcaaaGreatDoor
open Go.RowKit
section
variable {P:Program} {N:Nat} {ro:Option Nat} {Q:Hz} {e:Env} {ds:List Deferred} {w:World} {ops:Array Oper} {rest:List Oper} {d:Option Tmp} {ty:TypeId} {pos:String} {af:Array Edge} {x y:Operand}
theorem Zo {v:Value} (hx:X e x=v) (hd:okO N d=true) (h:EL P N ro ops rest Q (T7 e d v) ds w):EL P N ro ops (⟨d,.move x,ty,pos,af,none⟩::rest) Q e ds w:=
 Sb (Zk hx) .plain (by simpa [U0] using hd) h
theorem aQ {v:Value} (hx:X e x=v) (h:EL P N ro ops rest Q (T7 e d v) ds w) (hd:okO N d=true:=by rfl):EL P N ro ops (⟨d,.move x,ty,pos,af,none⟩::rest) Q e ds w:=Zo hx hd h
theorem EL_as {v:Value} (hx:X e x=v) (hd:okO N d=true) (h:EL P N ro ops rest Q (T7 e d v) ds w):EL P N ro ops (⟨d,.assign x,ty,pos,af,none⟩::rest) Q e ds w:=
 Sb (Tp hx) .plain (by simpa [U0] using hd) h
theorem Zn (v:Value) (hx:X e x=v) (hd:okO N d=true) (h:EL P N ro ops rest Q (T7 e d v) ds w):EL P N ro ops (⟨d,.move x,ty,pos,af,none⟩::rest) Q e ds w:=Zo hx hd h
theorem M (v:Value) (h:EL P N ro ops rest Q (T7 e d v) ds w) (hx:X e x=v:=by rfl) (hd:okO N d=true:=by rfl):EL P N ro ops (⟨d,.move x,ty,pos,af,none⟩::rest) Q e ds w:=Zn v hx hd h
theorem Zg (v:Value) (hx:X e x=v) (hd:okO N d=true) (h:EL P N ro ops rest Q (T7 e d v) ds w):EL P N ro ops (⟨d,.assign x,ty,pos,af,none⟩::rest) Q e ds w:=EL_as hx hd h
theorem H (v:Value) (h:EL P N ro ops rest Q (T7 e d v) ds w) (hx:X e x=v:=by rfl) (hd:okO N d=true:=by rfl):EL P N ro ops (⟨d,.assign x,ty,pos,af,none⟩::rest) Q e ds w:=Zg v hx hd h
theorem Gf {op:BinOp} {t t2:TypeId} {m n:Int} (v:Value) (hx:X e x=.int .i64 m) (hy:X e y=.int .i64 n) (hv:iop op m n=some v) (hd:okO N d=true) (h:EL P N ro ops rest Q (T7 e d v) ds w):EL P N ro ops (⟨d,.binOp op t x y t2,ty,pos,af,none⟩::rest) Q e ds w:=
 Sb (Gp hx hy hv) .plain (by simpa [U0] using hd) h
theorem aT {op:BinOp} {t t2:TypeId} {m n:Int} (v:Value) (hx:X e x=.int .i64 m) (hy:X e y=.int .i64 n) (hv:iop op m n=some v) (h:EL P N ro ops rest Q (T7 e d v) ds w) (hd:okO N d=true:=by rfl):EL P N ro ops (⟨d,.binOp op t x y t2,ty,pos,af,none⟩::rest) Q e ds w:=Gf v hx hy hv hd h
theorem Gz {c:Operand} {a b:Code} {t:Bool} (ht:t=true) (hc:X e c=.bool t) (h:E P N ro a Q e ds w):E P N ro (.cond c a b) Q e ds w:=Ta (hc.trans (congrArg Value.bool ht)) h
theorem G0 {c:Operand} {a b:Code} {t:Bool} (ht:t=false) (hc:X e c=.bool t) (h:E P N ro b Q e ds w):E P N ro (.cond c a b) Q e ds w:=Gv (hc.trans (congrArg Value.bool ht)) h
end
section
variable {SR:Ke} {P:Program} {N:Nat} {ops:Array Oper} {C:T0} {Φ:U5} {F:Nat→T0} {Q:Env→T0} {e:Env} {i:Nat} {l:List Nat} {ro:Option Nat} {R:Hz} {ds:List Deferred} {w:World} {rest:List Oper}
variable {op:Op} {ty:TypeId} {pos:String} {af:Array Edge} {gd:Option (Nat × Bool)} {d:Option Tmp} {j t:Nat} {b b' c':Bool}
theorem Z0 (c:Value) (ho:ops[i]?=some ⟨d,op,ty,pos,af,none⟩) (hφ:Φ i=none) (hc:Pur P op e c)
  (k:Lex SR P ops C Φ Q l (Wq F i (fun g w=>∀ j∈G4 ⟨d,op,ty,pos,af,none⟩,F j g w)) (T7 e d c)) (hnl:SR.late i=false:=by rfl):Lex SR P ops C Φ Q (i::l) F e:=
 J8 (c:=c) ho hφ .plain (fun _ _ _=>hc) k hnl
theorem V (c:Value) (ho:ops[i]?=some ⟨d,op,ty,pos,af,none⟩) (hc:Pur P op e c) (k:Lex SR P ops C Φ Q l (Wq F i (fun g w=>∀ j∈G4 ⟨d,op,ty,pos,af,none⟩,F j g w)) (T7 e d c)) (hnl:SR.late i=false:=by rfl) (hφ:Φ i=none:=by rfl):Lex SR P ops C Φ Q (i::l) F e:=Z0 c ho hφ hc k hnl
theorem L_y (c:Value) (ho:ops[i]?=some ⟨d,op,ty,pos,af,some (j,b)⟩) (hφ:Φ i=none) (hd:(ops[j]?).bind (·.dst)=some t) (he:e t=.bool b') (hb:b'=b) (hc:Pur P op e c)
  (k:Lex SR P ops C Φ Q l (Wq F i (fun g w=>∀ j'∈G4 ⟨d,op,ty,pos,af,some (j,b)⟩,F j' g w)) (T7 e d c)) (hnl:SR.late i=false:=by rfl):Lex SR P ops C Φ Q (i::l) F e:=
 J8 (c:=c) ho hφ (.yes2 hd he hb) (fun _ _ _=>hc) k hnl
theorem L_s (ho:ops[i]?=some ⟨d,op,ty,pos,af,some (j,b)⟩) (hd:(ops[j]?).bind (·.dst)=some t) (he:e t=.bool b') (hb:b'=c') (hc:(c'==b)=false) (k:Lex SR P ops C Φ Q l (Wq F i (fun _ _=>True)) (T7 e d undef)):Lex SR P ops C Φ Q (i::l) F e:=
 Et ho (.no2 hd he hb hc) k
theorem Ki (h:∀ g w,C g w→Q e g w):Lex SR P ops C Φ Q [] F e:=Jx fun g w ha=>h g w ha.1
theorem Zx (v:Value) (h1:Pur P op e v) (hd:(U0 op&&okO N d)=true) (h:EL P N ro ops rest R (T7 e d v) ds w):EL P N ro ops (⟨d,op,ty,pos,af,none⟩::rest) R e ds w:=Sb h1 .plain hd h
theorem Y (v:Value) (h1:Pur P op e v) (h:EL P N ro ops rest R (T7 e d v) ds w) (hd:(U0 op&&okO N d)=true:=by rfl):EL P N ro ops (⟨d,op,ty,pos,af,none⟩::rest) R e ds w:=Zx v h1 hd h
theorem Zy (v:Value) (h1:Pur P op e v) (hd:(ops[j]?).bind (·.dst)=some t) (he:e t=.bool b') (hb:b'=b) (hd':(U0 op&&okO N d)=true) (h:EL P N ro ops rest R (T7 e d v) ds w):EL P N ro ops (⟨d,op,ty,pos,af,some (j,b)⟩::rest) R e ds w:=Sb h1 (.yes2 hd he hb) hd' h
theorem ag (v:Value) (h1:Pur P op e v) (hd:(ops[j]?).bind (·.dst)=some t) (he:e t=.bool b') (hb:b'=b) (h:EL P N ro ops rest R (T7 e d v) ds w) (hd':(U0 op&&okO N d)=true:=by rfl):EL P N ro ops (⟨d,op,ty,pos,af,some (j,b)⟩::rest) R e ds w:=Zy v h1 hd he hb hd' h
theorem Zz (hd:(ops[j]?).bind (·.dst)=some t) (he:e t=.bool b') (hb:b'=c') (hc:(c'==b)=false) (hd':okO N d=true) (h:EL P N ro ops rest R (T7 e d undef) ds w):EL P N ro ops (⟨d,op,ty,pos,af,some (j,b)⟩::rest) R e ds w:=S8 (.no2 hd he hb hc) hd' h
end
section
variable {P:Program} {e:Env} {w:World} {g:Gh} {K:Value→World→Prop} {x y:Operand}
theorem Ij {α β:Type} [GoT α] [GoT β] {i off:Nat} {f:α→β} {s:α→β→α} {t t2:TypeId} {p v:Value} {a:α} {b:β} (hsub:Gl off f s) (hs:∀ w,(sizeOf t).run P w=.ok (GoT.k β) w) (hx:X e x=S p off) (hp:OB i g w t2 a p) (hy:X e y=v) (hv:RV g.m w b v)
  (h:∀ g' w',Stp i g w g' w'→OB i g' w' t2 (s a b) p→Rest i off (GoT.k β) g w g' w' t2 p→(∀ (γ:Type) (_:GoT γ) (j:Nat) (et:TypeId) (xs:List γ) (d:Nat) (u:Value),(v.cells[d]?=some u)→Nat.beq j i=false→OS j g w et xs u→OSF i j (off+d) g' w' et t2 xs p)→K undef w'):Doe P (.store t x y) e w K:=fun d ty pos af gd=>by
 obtain ⟨bl,cs,rfl,ho,hm,hh,hr⟩:=hp
 have hsz:=Tl hv
 have hl:=GoT.len hr
 have hb:=hsub.1.1
 have hrun:=Wr (P:=P) (t:=t) (v:=v) (b:=bl) (o:=off) (by rw [hsz];exact hs) hh (by simp at hl;omega) (GoT.one hv.cells)
 have hrep:=hsub.2 _ _ _ _ _ _ hr hv.cells
 rw [show v.cells.toList.length=v.cells.size from by simp] at hrep
 generalize hrow:cs.toList.take off++v.cells.toList++cs.toList.drop (off+v.cells.size)=row at hrun hrep
 have hstp:Stp i g w g (w.setRow bl row.toArray):=Y8 hh ho (fun j hj=>by rw [hm] at hj;omega)
 have hrun2:(execOp (X e) ⟨d,.store t x y,ty,pos,af,gd⟩).run P w=.ok .skip (w.setRow bl row.toArray):=by
  simp [execOp,hx,hy,S,Instr.storeAt,Instr.sureAddr,Result.andThen,hrun]
 have htk:(cs.toList.take off).length=off:=by rw [List.length_take,Array.length_toList];simp at hl;omega
 unfold doE;rw [hrun2]
 refine h g _ hstp ⟨bl,_,rfl,ho,hm,T4 _ _ hh,by simpa using GoT.mono hstp.ch hrep⟩ ⟨bl,cs,_,rfl,rfl,hh,T4 _ _ hh,fun j hj=>?_,fun j hj=>?_⟩ (fun γ _ j et xs dd u hv1 hji hos=>⟨bl,u,_,rfl,ho,T4 _ _ hh,?_,hos.stp hstp hji⟩)
 ·rw [List.getElem?_toArray,← hrow,List.append_assoc,List.getElem?_append_left (by omega),List.getElem?_take,if_pos hj];simp
 ·have hvl:v.cells.toList.length=GoT.k β:=by simpa using hsz
  rw [List.getElem?_toArray,← hrow,List.getElem?_append_right (by rw [List.length_append,htk,hvl];omega),List.getElem?_drop,List.length_append,htk,hvl,hsz]
  have:off+GoT.k β+(j-(off+GoT.k β))=j:=by omega
  rw [this];simp
 ·have hdl:dd<v.cells.toList.length:=by
   have:=(Array.getElem?_eq_some_iff.1 hv1).1
   simpa using this
  rw [List.getElem?_toArray,← hrow,List.append_assoc,List.getElem?_append_right (by omega),htk,show off+dd-off=dd by omega,List.getElem?_append_left hdl]
  simpa using hv1
end
theorem sinj.{u} {α:Type u} {a b:α} (h:some a=some b):a=b:=Option.some.inj h
end Go.Proofs.YtpglkdijpcgcaaaGreatDoor
namespace Go.Proofs.YtpglkdijpcgcaaaGreatDoor
open Go.RowKit Go.Lib

end Go.Proofs.YtpglkdijpcgcaaaGreatDoor
namespace Go.Proofs.YtpglkdijpcgcaaaGreatDoor
open Go.RowKit

end Go.Proofs.YtpglkdijpcgcaaaGreatDoor
namespace Go.Proofs.YtpglkdijpcgcaaaGreatDoor
open Go.RowKit

end Go.Proofs.YtpglkdijpcgcaaaGreatDoor
namespace Go.Proofs.YtpglkdijpcgcaaaGreatDoor
open Go.RowKit

end Go.Proofs.YtpglkdijpcgcaaaGreatDoor
namespace Go.Proofs.YtpglkdijpcgcaaaGreatDoor
open Go.RowKit

end Go.Proofs.YtpglkdijpcgcaaaGreatDoor
namespace Go.Proofs.YtpglkdijpcgcaaaGreatDoor
open Go.RowKit

section
variable {α β γ : Type} [GoT α] [GoT β] [GoT γ] {P : Program} {e : Env} {w : World} {g : Gh} {K : Value → World → Prop} {x y z : Operand}
 {i j b b1 off:Nat} {t t2:TypeId} {a:α} 
theorem C1 {t:TypeId} {v:Value} (ha:∀ w,(isAgg t).run P w=.ok false w) (h:w.cell? ⟨b1,off,none⟩=some v):(loadVar t ⟨b1,off,none⟩).run P w=.ok v w:=by
 unfold loadVar
 simp [Sem.run_bind,ha,Result.andThen,run_load,h]
theorem P_lenH {et:TypeId} {v:Value} {n:Nat} (ht:P.underlying t=some (.slice et)) (hx:X e x=v) (hv:∃ ad c,v=.slice ad n c) :
  Pur P (.call {callee:=.builtin .len,args:=#[x],argTypes:=#[t]}) e (.int .i64 (n:Int)):=fun _ _ _ _ _ _=>by
 obtain ⟨ad,c,rfl⟩:=hv
 simp [execOp,resolve,invoke,builtin,Builtin.len_,hx,run_underlying ht,goInt]
end
end Go.Proofs.YtpglkdijpcgcaaaGreatDoor
namespace Go.Proofs.YtpglkdijpcgcaaaGreatDoor
open Go.RowKit

section
variable {α β γ:Type} [GoT α] [GoT β] [GoT γ] {P:Program} {e:Env} {w:World} {g:Gh} {x y:Operand} {i b b1 off:Nat} {t t2:TypeId} {a0 a1:α} 
theorem Gl.at_ {α β:Type} [GoT α] [GoT β] {o off:Nat} {f:α→β} {s:α→β→α} (h:Gl o f s) (ho:off=o):Gl off f s:=ho▸h
end
end Go.Proofs.YtpglkdijpcgcaaaGreatDoor
namespace Go.Proofs.YtpglkdijpcgcaaaGreatDoor
open Go.RowKit

end Go.Proofs.YtpglkdijpcgcaaaGreatDoor
namespace Go.Proofs.YtpglkdijpcgcaaaGreatDoor
open Go.RowKit
end Go.Proofs.YtpglkdijpcgcaaaGreatDoor
