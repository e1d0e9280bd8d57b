/- Steps of a walk under short names. No program is named here. -/
import Derived.Test.YtlmibfohllgmeaaKey
import Derived.Test.YtlmibfohllgmeaaLend
namespace Go.Proofs.Ytlmibfohllgmeaa
open Go.RowKit
section
variable {P : Program} {N : Nat} {ro : Option Nat} {Q : Jt} {e : Env} {ds : List Deferred} {w : World} {ops : Array Oper} {rest : List Oper} {d : Option Tmp} {ty : TypeId} {pos : String} {af : Array Edge} {x y : Operand}
theorem Zo {v : Value} (hx : ev e x = v) (hd : okO N d = true) (h : EL P N ro ops rest Q (Qg e d v) ds w) : EL P N ro ops (⟨d, .move x, ty, pos, af, none⟩ :: rest) Q e ds w :=
 Bo (Zk hx) .plain (by simpa [Xb] using hd) h
theorem EL_as {v : Value} (hx : ev e x = v) (hd : okO N d = true) (h : EL P N ro ops rest Q (Qg e d v) ds w) : EL P N ro ops (⟨d, .assign x, ty, pos, af, none⟩ :: rest) Q e ds w :=
 Bo (Tb hx) .plain (by simpa [Xb] using hd) h
theorem Zn (v : Value) (hx : ev e x = v) (hd : okO N d = true) (h : EL P N ro ops rest Q (Qg e d v) ds w) : EL P N ro ops (⟨d, .move x, ty, pos, af, none⟩ :: rest) Q e ds w := Zo hx hd h
theorem Zg (v : Value) (hx : ev e x = v) (hd : okO N d = true) (h : EL P N ro ops rest Q (Qg e d v) ds w) : EL P N ro ops (⟨d, .assign x, ty, pos, af, none⟩ :: rest) Q e ds w := EL_as hx hd h
theorem Gg {op : BinOp} {t t2 : TypeId} {m n : Int} (v : Value) (hx : ev e x = .int .i64 m) (hy : ev e y = .int .i64 n) (hv : iop op m n = some v) (hd : okO N d = true) (h : EL P N ro ops rest Q (Qg e d v) ds w) : EL P N ro ops (⟨d, .binOp op t x y t2, ty, pos, af, none⟩ :: rest) Q e ds w :=
 Bo (Gj hx hy hv) .plain (by simpa [Xb] using hd) h
theorem Tn {c : Operand} {a b : Code} {t : Bool} (ht : t = true) (hc : ev e c = .bool t) (h : E P N ro a Q e ds w) : E P N ro (.cond c a b) Q e ds w := Tv (hc.trans (congrArg Value.bool ht)) h
theorem To {c : Operand} {a b : Code} {t : Bool} (ht : t = false) (hc : ev e c = .bool t) (h : E P N ro b Q e ds w) : E P N ro (.cond c a b) Q e ds w := Tj (hc.trans (congrArg Value.bool ht)) h
end
section
variable {SR : Jb} {P : Program} {N : Nat} {ops : Array Oper} {C : Qo} {Φ : Xl} {F : Nat → Qo} {Q : Env → Qo} {e : Env} {i : Nat} {l : List Nat} {ro : Option Nat} {R : Jt} {ds : List Deferred} {w : World} {rest : List Oper}
variable {op : Op} {ty : TypeId} {pos : String} {af : Array Edge} {gd : Option (Nat × Bool)} {d : Option Tmp} {j t : Nat} {b b' c' : Bool}
theorem Zz (c : Value) (ho : ops[i]? = some ⟨d, op, ty, pos, af, none⟩) (hφ : Φ i = none) (hc : Pur P op e c)
  (k : Lex SR P ops C Φ Q l (Kc F i (fun g w => ∀ j ∈ Td ⟨d, op, ty, pos, af, none⟩, F j g w)) (Qg e d c)) (hnl : SR.late i = false := by rfl) : Lex SR P ops C Φ Q (i :: l) F e :=
 Fe (c := c) ho hφ .plain (fun _ _ _ => hc) k hnl
theorem L_y (c : Value) (ho : ops[i]? = some ⟨d, op, ty, pos, af, some (j, b)⟩) (hφ : Φ i = none) (hd : (ops[j]?).bind (·.dst) = some t) (he : e t = .bool b') (hb : b' = b) (hc : Pur P op e c)
  (k : Lex SR P ops C Φ Q l (Kc F i (fun g w => ∀ j' ∈ Td ⟨d, op, ty, pos, af, some (j, b)⟩, F j' g w)) (Qg e d c)) (hnl : SR.late i = false := by rfl) : Lex SR P ops C Φ Q (i :: l) F e :=
 Fe (c := c) ho hφ (.yes2 hd he hb) (fun _ _ _ => hc) k hnl
theorem L_s (ho : ops[i]? = some ⟨d, op, ty, pos, af, some (j, b)⟩) (hd : (ops[j]?).bind (·.dst) = some t) (he : e t = .bool b') (hb : b' = c') (hc : (c' == b) = false) (k : Lex SR P ops C Φ Q l (Kc F i (fun _ _ => True)) (Qg e d undef)) : Lex SR P ops C Φ Q (i :: l) F e :=
 Ia ho (.no2 hd he hb hc) k
theorem Kr (h : ∀ g w, C g w → Q e g w) : Lex SR P ops C Φ Q [] F e := Um fun g w ha => h g w ha.1
theorem Zw (v : Value) (h1 : Pur P op e v) (hd : (Xb op && okO N d) = true) (h : EL P N ro ops rest R (Qg e d v) ds w) : EL P N ro ops (⟨d, op, ty, pos, af, none⟩ :: rest) R e ds w := Bo h1 .plain hd h
theorem Zx (v : Value) (h1 : Pur P op e v) (hd : (ops[j]?).bind (·.dst) = some t) (he : e t = .bool b') (hb : b' = b) (hd' : (Xb op && okO N d) = true) (h : EL P N ro ops rest R (Qg e d v) ds w) : EL P N ro ops (⟨d, op, ty, pos, af, some (j, b)⟩ :: rest) R e ds w := Bo h1 (.yes2 hd he hb) hd' h
theorem Zy (hd : (ops[j]?).bind (·.dst) = some t) (he : e t = .bool b') (hb : b' = c') (hc : (c' == b) = false) (hd' : okO N d = true) (h : EL P N ro ops rest R (Qg e d undef) ds w) : EL P N ro ops (⟨d, op, ty, pos, af, some (j, b)⟩ :: rest) R e ds w := Sv (.no2 hd he hb hc) hd' h
end
section
variable {P : Program} {e : Env} {w : World} {g : Gh} {K : Value → World → Prop} {x y : Operand}
end
theorem sinj.{u} {α : Type u} {a b : α} (h : some a = some b) : a = b := Option.some.inj h
end Go.Proofs.Ytlmibfohllgmeaa
