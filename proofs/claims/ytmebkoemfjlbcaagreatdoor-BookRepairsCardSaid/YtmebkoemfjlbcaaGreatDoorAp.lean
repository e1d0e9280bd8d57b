/- Steps of a walk under short names. No program is named here. -/
import Derived.Test.YtmebkoemfjlbcaaGreatDoorKey
import Derived.Test.YtmebkoemfjlbcaaGreatDoorLend
import Derived.Lib.AppendZerosOnto
namespace Go.Proofs.YtmebkoemfjlbcaaGreatDoor
open Go.RowKit
section
variable {P:Program} {N:Nat} {ro:Option Nat} {Q:Post} {e:Env} {ds:List Deferred} {w:World} {ops:Array Oper} {rest:List Oper} {d:Option Tmp} {ty:TypeId} {pos:String} {af:Array Edge} {x y:Operand}
theorem Zo {v:Value} (hx:ev e x=v) (hd:okO N d=true) (h:EL P N ro ops rest Q (updO e d v) ds w):EL P N ro ops (⟨d,.move x,ty,pos,af,none⟩ :: rest) Q e ds w:=
 EL_pur (Zk hx) .plain (by simpa [nodef] using hd) h
theorem EL_as {v:Value} (hx:ev e x=v) (hd:okO N d=true) (h:EL P N ro ops rest Q (updO e d v) ds w):EL P N ro ops (⟨d,.assign x,ty,pos,af,none⟩ :: rest) Q e ds w:=
 EL_pur (P_assign hx) .plain (by simpa [nodef] using hd) h
theorem Zn (v:Value) (hx:ev e x=v) (hd:okO N d=true) (h:EL P N ro ops rest Q (updO e d v) ds w):EL P N ro ops (⟨d,.move x,ty,pos,af,none⟩ :: rest) Q e ds w:=Zo hx hd h
theorem Zg (v:Value) (hx:ev e x=v) (hd:okO N d=true) (h:EL P N ro ops rest Q (updO e d v) ds w):EL P N ro ops (⟨d,.assign x,ty,pos,af,none⟩ :: rest) Q e ds w:=EL_as hx hd h
theorem EL_in {op:BinOp} {t t2:TypeId} {m n:Int} (v:Value) (hx:ev e x=.int .i64 m) (hy:ev e y=.int .i64 n) (hv:iop op m n=some v) (hd:okO N d=true) (h:EL P N ro ops rest Q (updO e d v) ds w):EL P N ro ops (⟨d,.binOp op t x y t2,ty,pos,af,none⟩ :: rest) Q e ds w:=
 EL_pur (P_int hx hy hv) .plain (by simpa [nodef] using hd) h
theorem E_ct {c:Operand} {a b:Code} {t:Bool} (ht:t=true) (hc:ev e c=.bool t) (h:E P N ro a Q e ds w):E P N ro (.cond c a b) Q e ds w:=E_cond_true (hc.trans (congrArg Value.bool ht)) h
theorem E_cf {c:Operand} {a b:Code} {t:Bool} (ht:t=false) (hc:ev e c=.bool t) (h:E P N ro b Q e ds w):E P N ro (.cond c a b) Q e ds w:=E_cond_false (hc.trans (congrArg Value.bool ht)) h
end
section
variable {SR:StepRel} {P:Program} {N:Nat} {ops:Array Oper} {C:Fact} {Φ:Words} {F:Nat→Fact} {Q:Env→Fact} {e:Env} {i:Nat} {l:List Nat} {ro:Option Nat} {R:Post} {ds:List Deferred} {w:World} {rest:List Oper}
variable {op:Op} {ty:TypeId} {pos:String} {af:Array Edge} {gd:Option (Nat × Bool)} {d:Option Tmp} {j t:Nat} {b b' c':Bool}
theorem L_p (c : Value) (ho : ops[i]? = some ⟨d, op, ty, pos, af, none⟩) (hφ : Φ i = none) (hc : Pur P op e c)
  (k:Lex SR P ops C Φ Q l (setF F i (fun g w=>∀ j ∈ directOf ⟨d,op,ty,pos,af,none⟩,F j g w)) (updO e d c)) (hnl:SR.late i=false:=by rfl):Lex SR P ops C Φ Q (i :: l) F e:=
 L_pur (c:=c) ho hφ .plain (fun _ _ _=>hc) k hnl
theorem L_y (c : Value) (ho : ops[i]? = some ⟨d, op, ty, pos, af, some (j, b)⟩) (hφ : Φ i = none) (hd : (ops[j]?).bind (·.dst) = some t) (he : e t = .bool b') (hb : b' = b) (hc : Pur P op e c)
  (k:Lex SR P ops C Φ Q l (setF F i (fun g w=>∀ j' ∈ directOf ⟨d,op,ty,pos,af,some (j,b)⟩,F j' g w)) (updO e d c)) (hnl:SR.late i=false:=by rfl):Lex SR P ops C Φ Q (i :: l) F e:=
 L_pur (c:=c) ho hφ (.yes2 hd he hb) (fun _ _ _=>hc) k hnl
theorem L_s (ho:ops[i]?=some ⟨d,op,ty,pos,af,some (j,b)⟩) (hd:(ops[j]?).bind (·.dst)=some t) (he:e t=.bool b') (hb:b'=c') (hc:(c' == b)=false) (k:Lex SR P ops C Φ Q l (setF F i (fun _ _=>True)) (updO e d undef)):Lex SR P ops C Φ Q (i :: l) F e:=
 L_skip ho (.no2 hd he hb hc) k
theorem L_nl (h:∀ g w,C g w→Q e g w):Lex SR P ops C Φ Q [] F e:=L_nil fun g w ha=>h g w ha.1
theorem EL_p (v:Value) (h1:Pur P op e v) (hd:(nodef op && okO N d)=true) (h:EL P N ro ops rest R (updO e d v) ds w):EL P N ro ops (⟨d,op,ty,pos,af,none⟩ :: rest) R e ds w:=EL_pur h1 .plain hd h
theorem EL_y (v:Value) (h1:Pur P op e v) (hd:(ops[j]?).bind (·.dst)=some t) (he:e t=.bool b') (hb:b'=b) (hd':(nodef op && okO N d)=true) (h:EL P N ro ops rest R (updO e d v) ds w):EL P N ro ops (⟨d,op,ty,pos,af,some (j,b)⟩ :: rest) R e ds w:=EL_pur h1 (.yes2 hd he hb) hd' h
theorem EL_s (hd:(ops[j]?).bind (·.dst)=some t) (he:e t=.bool b') (hb:b'=c') (hc:(c' == b)=false) (hd':okO N d=true) (h:EL P N ro ops rest R (updO e d undef) ds w):EL P N ro ops (⟨d,op,ty,pos,af,some (j,b)⟩ :: rest) R e ds w:=EL_skip (.no2 hd he hb hc) hd' h
end
section
variable {P:Program} {e:Env} {w:World} {g:Gh} {K:Value→World→Prop} {x y:Operand}
end
theorem sinj.{u} {α:Type u} {a b:α} (h:some a=some b):a=b:=Option.some.inj h
end Go.Proofs.YtmebkoemfjlbcaaGreatDoor
/- slices.Grow of nil: an own slice of nothing, with room. No program is named here. -/
namespace Go.Proofs.YtmebkoemfjlbcaaGreatDoor
open Go.RowKit Go.Lib

section
variable {P:Program} {e:Env} {w:World} {g:Gh} {K:Value→World→Prop} {x y z:Operand}
end
section
variable {P:Program} {N:Nat} {w:World} {g:Gh}
end
end Go.Proofs.YtmebkoemfjlbcaaGreatDoor
/- Appends to own slices in regions that draw their order. No program is named here. -/
namespace Go.Proofs.YtmebkoemfjlbcaaGreatDoor
open Go.RowKit

theorem FlatR.pre {α : Type} [GoT α] {m : Nat → Nat} {w : World} : ∀ {xs ys : List α} {cs : List Value}, FlatR m w (xs ++ ys) cs → FlatR m w xs (cs.take (xs.length * GoT.k α))
 | [],_,_,_=>by simp [FlatR]
 | x :: xs,ys,_,⟨c1,c2,rfl,h1,h2⟩=>by
  have hl:=GoT.len h1
  refine ⟨c1,c2.take (xs.length * GoT.k α),?_,h1,FlatR.pre h2⟩
  rw [List.length_cons,Nat.add_mul,Nat.one_mul,List.take_append,List.take_of_length_le (by omega),hl]
  congr 2; omega
section
variable {α:Type} [GoT α] {i:Nat} {et:TypeId} {xs r:List α} {u:Value} {g g':Gh} {w w':World}
variable {P:Program} {N:Nat}
end
end Go.Proofs.YtmebkoemfjlbcaaGreatDoor
