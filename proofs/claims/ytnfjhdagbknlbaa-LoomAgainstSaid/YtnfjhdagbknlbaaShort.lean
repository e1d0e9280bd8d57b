/- Steps of a walk under short names. No program is named here. -/
import Derived.Test.YtnfjhdagbknlbaaKey
import Derived.Test.YtnfjhdagbknlbaaLend
namespace Go.Proofs.Ytnfjhdagbknlbaa
open Go.RowKit
section
variable {P : Program} {N : Nat} {ro : Option Nat} {Q : Post} {e : Env} {ds : List Deferred} {w : World} {ops : Array Oper} {rest : List Oper} {d : Option Tmp} {ty : TypeId} {pos : String} {af : Array Edge} {x y : Operand}
theorem EL_mv {v : Value} (hx : ev e x = v) (hd : okO N d = true) (h : EL P N ro ops rest Q (updO e d v) ds w) : EL P N ro ops (⟨d, .move x, ty, pos, af, none⟩ :: rest) Q e ds w :=
 EL_pur (P_move hx) .plain (by simpa [nodef] using hd) h
theorem EL_as {v : Value} (hx : ev e x = v) (hd : okO N d = true) (h : EL P N ro ops rest Q (updO e d v) ds w) : EL P N ro ops (⟨d, .assign x, ty, pos, af, none⟩ :: rest) Q e ds w :=
 EL_pur (P_assign hx) .plain (by simpa [nodef] using hd) h
theorem EL_mw (v : Value) (hx : ev e x = v) (hd : okO N d = true) (h : EL P N ro ops rest Q (updO e d v) ds w) : EL P N ro ops (⟨d, .move x, ty, pos, af, none⟩ :: rest) Q e ds w := EL_mv hx hd h
theorem EL_at (v : Value) (hx : ev e x = v) (hd : okO N d = true) (h : EL P N ro ops rest Q (updO e d v) ds w) : EL P N ro ops (⟨d, .assign x, ty, pos, af, none⟩ :: rest) Q e ds w := EL_as hx hd h
theorem EL_in {op : BinOp} {t t2 : TypeId} {m n : Int} (v : Value) (hx : ev e x = .int .i64 m) (hy : ev e y = .int .i64 n) (hv : iop op m n = some v) (hd : okO N d = true) (h : EL P N ro ops rest Q (updO e d v) ds w) : EL P N ro ops (⟨d, .binOp op t x y t2, ty, pos, af, none⟩ :: rest) Q e ds w :=
 EL_pur (P_int hx hy hv) .plain (by simpa [nodef] using hd) h
theorem E_ct {c : Operand} {a b : Code} {t : Bool} (ht : t = true) (hc : ev e c = .bool t) (h : E P N ro a Q e ds w) : E P N ro (.cond c a b) Q e ds w := E_cond_true (hc.trans (congrArg Value.bool ht)) h
theorem E_cf {c : Operand} {a b : Code} {t : Bool} (ht : t = false) (hc : ev e c = .bool t) (h : E P N ro b Q e ds w) : E P N ro (.cond c a b) Q e ds w := E_cond_false (hc.trans (congrArg Value.bool ht)) h
end
theorem sinj.{u} {α : Type u} {a b : α} (h : some a = some b) : a = b := Option.some.inj h
end Go.Proofs.Ytnfjhdagbknlbaa
