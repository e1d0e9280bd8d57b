/- Steps of a walk under short names. No program is named here. -/
import Derived.Test.YtlmibfohllgmeaaGreatKey
import Derived.Test.YtlmibfohllgmeaaGreatLend
namespace Go.Proofs.YtlmibfohllgmeaaGreat
open Go.RowKit
section
variable {P:Program} {N:Nat} {ro:Option Nat} {Q:Yq} {e:Env} {ds:List Deferred} {w:World} {ops:Array Oper} {rest:List Oper} {d:Option Tmp} {ty:TypeId} {pos:String} {af:Array Edge} {x y:Operand}
theorem Zo {v:Value} (hx:ev e x=v) (hd:okO N d=true) (h:EL P N ro ops rest Q (Qr e d v) ds w):EL P N ro ops (⟨d,.move x,ty,pos,af,none⟩ :: rest) Q e ds w:=
 Fk (Zk hx) .plain (by simpa [Bo] using hd) h
theorem EL_as {v:Value} (hx:ev e x=v) (hd:okO N d=true) (h:EL P N ro ops rest Q (Qr e d v) ds w):EL P N ro ops (⟨d,.assign x,ty,pos,af,none⟩ :: rest) Q e ds w:=
 Fk (Qt hx) .plain (by simpa [Bo] using hd) h
theorem Zn (v:Value) (hx:ev e x=v) (hd:okO N d=true) (h:EL P N ro ops rest Q (Qr e d v) ds w):EL P N ro ops (⟨d,.move x,ty,pos,af,none⟩ :: rest) Q e ds w:=Zo hx hd h
theorem Zg (v:Value) (hx:ev e x=v) (hd:okO N d=true) (h:EL P N ro ops rest Q (Qr e d v) ds w):EL P N ro ops (⟨d,.assign x,ty,pos,af,none⟩ :: rest) Q e ds w:=EL_as hx hd h
theorem Gy {op:BinOp} {t t2:TypeId} {m n:Int} (v:Value) (hx:ev e x=.int .i64 m) (hy:ev e y=.int .i64 n) (hv:iop op m n=some v) (hd:okO N d=true) (h:EL P N ro ops rest Q (Qr e d v) ds w):EL P N ro ops (⟨d,.binOp op t x y t2,ty,pos,af,none⟩ :: rest) Q e ds w:=
 Fk (Td hx hy hv) .plain (by simpa [Bo] using hd) h
theorem Qo {c:Operand} {a b:Code} {t:Bool} (ht:t=true) (hc:ev e c=.bool t) (h:E P N ro a Q e ds w):E P N ro (.cond c a b) Q e ds w:=Qn (hc.trans (congrArg Value.bool ht)) h
theorem Qm {c:Operand} {a b:Code} {t:Bool} (ht:t=false) (hc:ev e c=.bool t) (h:E P N ro b Q e ds w):E P N ro (.cond c a b) Q e ds w:=Qa (hc.trans (congrArg Value.bool ht)) h
end
section
variable {SR:Hk} {P:Program} {N:Nat} {ops:Array Oper} {C:Qf} {Φ:Dq} {F:Nat→Qf} {Q:Env→Qf} {e:Env} {i:Nat} {l:List Nat} {ro:Option Nat} {R:Yq} {ds:List Deferred} {w:World} {rest:List Oper}
variable {op:Op} {ty:TypeId} {pos:String} {af:Array Edge} {gd:Option (Nat × Bool)} {d:Option Tmp} {j t:Nat} {b b' c':Bool}
theorem Gb (c : Value) (ho : ops[i]? = some ⟨d, op, ty, pos, af, none⟩) (hφ : Φ i = none) (hc : Pur P op e c)
  (k:Lex SR P ops C Φ Q l (Kt F i (fun g w=>∀ j ∈ Te ⟨d,op,ty,pos,af,none⟩,F j g w)) (Qr e d c)) (hnl:SR.late i=false:=by rfl):Lex SR P ops C Φ Q (i :: l) F e:=
 L_pur (c:=c) ho hφ .plain (fun _ _ _=>hc) k hnl
theorem L_y (c : Value) (ho : ops[i]? = some ⟨d, op, ty, pos, af, some (j, b)⟩) (hφ : Φ i = none) (hd : (ops[j]?).bind (·.dst) = some t) (he : e t = .bool b') (hb : b' = b) (hc : Pur P op e c)
  (k:Lex SR P ops C Φ Q l (Kt F i (fun g w=>∀ j' ∈ Te ⟨d,op,ty,pos,af,some (j,b)⟩,F j' g w)) (Qr e d c)) (hnl:SR.late i=false:=by rfl):Lex SR P ops C Φ Q (i :: l) F e:=
 L_pur (c:=c) ho hφ (.yes2 hd he hb) (fun _ _ _=>hc) k hnl
theorem L_s (ho:ops[i]?=some ⟨d,op,ty,pos,af,some (j,b)⟩) (hd:(ops[j]?).bind (·.dst)=some t) (he:e t=.bool b') (hb:b'=c') (hc:(c' == b)=false) (k:Lex SR P ops C Φ Q l (Kt F i (fun _ _=>True)) (Qr e d undef)):Lex SR P ops C Φ Q (i :: l) F e:=
 L_skip ho (.no2 hd he hb hc) k
theorem Yz (h:∀ g w,C g w→Q e g w):Lex SR P ops C Φ Q [] F e:=Yc fun g w ha=>h g w ha.1
theorem Zy (v:Value) (h1:Pur P op e v) (hd:(Bo op && okO N d)=true) (h:EL P N ro ops rest R (Qr e d v) ds w):EL P N ro ops (⟨d,op,ty,pos,af,none⟩ :: rest) R e ds w:=Fk h1 .plain hd h
theorem Zz (v:Value) (h1:Pur P op e v) (hd:(ops[j]?).bind (·.dst)=some t) (he:e t=.bool b') (hb:b'=b) (hd':(Bo op && okO N d)=true) (h:EL P N ro ops rest R (Qr e d v) ds w):EL P N ro ops (⟨d,op,ty,pos,af,some (j,b)⟩ :: rest) R e ds w:=Fk h1 (.yes2 hd he hb) hd' h
theorem Ga (hd:(ops[j]?).bind (·.dst)=some t) (he:e t=.bool b') (hb:b'=c') (hc:(c' == b)=false) (hd':okO N d=true) (h:EL P N ro ops rest R (Qr e d undef) ds w):EL P N ro ops (⟨d,op,ty,pos,af,some (j,b)⟩ :: rest) R e ds w:=EL_skip (.no2 hd he hb hc) hd' h
end
section
variable {P:Program} {e:Env} {w:World} {g:Gh} {K:Value→World→Prop} {x y:Operand}
end
theorem sinj.{u} {α:Type u} {a b:α} (h:some a=some b):a=b:=Option.some.inj h
end Go.Proofs.YtlmibfohllgmeaaGreat
