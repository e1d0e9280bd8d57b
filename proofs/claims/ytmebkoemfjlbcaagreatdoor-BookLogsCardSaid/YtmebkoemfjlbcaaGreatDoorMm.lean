/- Steps of a walk under short names. No program is named here. -/
import Derived.Test.YtmebkoemfjlbcaaGreatDoorKey
import Derived.Test.YtmebkoemfjlbcaaGreatDoorLend
import Derived.Lib.AppendZerosOnto
namespace Go.Proofs.YtmebkoemfjlbcaaGreatDoor
open Go.RowKit
section
variable {P : Program} {N : Nat} {ro : Option Nat} {Q : Kx} {e : Env} {ds : List Deferred} {w : World} {ops : Array Oper} {rest : List Oper} {d : Option Tmp} {ty : TypeId} {pos : String} {af : Array Edge} {x y : Operand}
theorem Zo {v : Value} (hx : ev e x = v) (hd : okO N d = true) (h : EL P N ro ops rest Q (Te e d v) ds w) : EL P N ro ops (⟨d, .move x, ty, pos, af, none⟩ :: rest) Q e ds w :=
 V8 (Zk hx) .plain (by simpa [Yz] using hd) h
theorem EL_as {v : Value} (hx : ev e x = v) (hd : okO N d = true) (h : EL P N ro ops rest Q (Te e d v) ds w) : EL P N ro ops (⟨d, .assign x, ty, pos, af, none⟩ :: rest) Q e ds w :=
 V8 (Tv hx) .plain (by simpa [Yz] using hd) h
theorem Zn (v : Value) (hx : ev e x = v) (hd : okO N d = true) (h : EL P N ro ops rest Q (Te e d v) ds w) : EL P N ro ops (⟨d, .move x, ty, pos, af, none⟩ :: rest) Q e ds w := Zo hx hd h
theorem Zg (v : Value) (hx : ev e x = v) (hd : okO N d = true) (h : EL P N ro ops rest Q (Te e d v) ds w) : EL P N ro ops (⟨d, .assign x, ty, pos, af, none⟩ :: rest) Q e ds w := EL_as hx hd h
theorem Gd {op : BinOp} {t t2 : TypeId} {m n : Int} (v : Value) (hx : ev e x = .int .i64 m) (hy : ev e y = .int .i64 n) (hv : iop op m n = some v) (hd : okO N d = true) (h : EL P N ro ops rest Q (Te e d v) ds w) : EL P N ro ops (⟨d, .binOp op t x y t2, ty, pos, af, none⟩ :: rest) Q e ds w :=
 V8 (Gp hx hy hv) .plain (by simpa [Yz] using hd) h
theorem Gx {c : Operand} {a b : Code} {t : Bool} (ht : t = true) (hc : ev e c = .bool t) (h : E P N ro a Q e ds w) : E P N ro (.cond c a b) Q e ds w := Ta (hc.trans (congrArg Value.bool ht)) h
theorem Gy {c : Operand} {a b : Code} {t : Bool} (ht : t = false) (hc : ev e c = .bool t) (h : E P N ro b Q e ds w) : E P N ro (.cond c a b) Q e ds w := G1 (hc.trans (congrArg Value.bool ht)) h
end
section
variable {SR : Kt} {P : Program} {N : Nat} {ops : Array Oper} {C : To} {Φ : Yw} {F : Nat → To} {Q : Env → To} {e : Env} {i : Nat} {l : List Nat} {ro : Option Nat} {R : Kx} {ds : List Deferred} {w : World} {rest : List Oper}
variable {op : Op} {ty : TypeId} {pos : String} {af : Array Edge} {gd : Option (Nat × Bool)} {d : Option Tmp} {j t : Nat} {b b' c' : Bool}
theorem Z0 (c : Value) (ho : ops[i]? = some ⟨d, op, ty, pos, af, none⟩) (hφ : Φ i = none) (hc : Pur P op e c)
  (k : Lex SR P ops C Φ Q l (Wj F i (fun g w => ∀ j ∈ Gl ⟨d, op, ty, pos, af, none⟩, F j g w)) (Te e d c)) (hnl : SR.late i = false := by rfl) : Lex SR P ops C Φ Q (i :: l) F e :=
 Yx (c := c) ho hφ .plain (fun _ _ _ => hc) k hnl
theorem L_y (c : Value) (ho : ops[i]? = some ⟨d, op, ty, pos, af, some (j, b)⟩) (hφ : Φ i = none) (hd : (ops[j]?).bind (·.dst) = some t) (he : e t = .bool b') (hb : b' = b) (hc : Pur P op e c)
  (k : Lex SR P ops C Φ Q l (Wj F i (fun g w => ∀ j' ∈ Gl ⟨d, op, ty, pos, af, some (j, b)⟩, F j' g w)) (Te e d c)) (hnl : SR.late i = false := by rfl) : Lex SR P ops C Φ Q (i :: l) F e :=
 Yx (c := c) ho hφ (.yes2 hd he hb) (fun _ _ _ => hc) k hnl
theorem L_s (ho : ops[i]? = some ⟨d, op, ty, pos, af, some (j, b)⟩) (hd : (ops[j]?).bind (·.dst) = some t) (he : e t = .bool b') (hb : b' = c') (hc : (c' == b) = false) (k : Lex SR P ops C Φ Q l (Wj F i (fun _ _ => True)) (Te e d undef)) : Lex SR P ops C Φ Q (i :: l) F e :=
 Ae ho (.no2 hd he hb hc) k
theorem Jd (h : ∀ g w, C g w → Q e g w) : Lex SR P ops C Φ Q [] F e := Y7 fun g w ha => h g w ha.1
theorem Zx (v : Value) (h1 : Pur P op e v) (hd : (Yz op && okO N d) = true) (h : EL P N ro ops rest R (Te e d v) ds w) : EL P N ro ops (⟨d, op, ty, pos, af, none⟩ :: rest) R e ds w := V8 h1 .plain hd h
theorem Zy (v : Value) (h1 : Pur P op e v) (hd : (ops[j]?).bind (·.dst) = some t) (he : e t = .bool b') (hb : b' = b) (hd' : (Yz op && okO N d) = true) (h : EL P N ro ops rest R (Te e d v) ds w) : EL P N ro ops (⟨d, op, ty, pos, af, some (j, b)⟩ :: rest) R e ds w := V8 h1 (.yes2 hd he hb) hd' h
theorem Zz (hd : (ops[j]?).bind (·.dst) = some t) (he : e t = .bool b') (hb : b' = c') (hc : (c' == b) = false) (hd' : okO N d = true) (h : EL P N ro ops rest R (Te e d undef) ds w) : EL P N ro ops (⟨d, op, ty, pos, af, some (j, b)⟩ :: rest) R e ds w := La (.no2 hd he hb hc) hd' h
end
theorem sinj.{u} {α : Type u} {a b : α} (h : some a = some b) : a = b := Option.some.inj h
end Go.Proofs.YtmebkoemfjlbcaaGreatDoor
/- slices.Grow of nil: an own slice of nothing, with room. No program is named here. -/
namespace Go.Proofs.YtmebkoemfjlbcaaGreatDoor
open Go.RowKit Go.Lib

end Go.Proofs.YtmebkoemfjlbcaaGreatDoor
/- Appends to own slices in regions that draw their order. No program is named here. -/
namespace Go.Proofs.YtmebkoemfjlbcaaGreatDoor
open Go.RowKit

end Go.Proofs.YtmebkoemfjlbcaaGreatDoor
/- Values that the function owns with all that they lead to: structs of slices, slices of slices. No program is named here. -/
namespace Go.Proofs.YtmebkoemfjlbcaaGreatDoor
open Go.RowKit

/-! ### Parts of what is owned -/
end Go.Proofs.YtmebkoemfjlbcaaGreatDoor
/- Values that the function owns with all that they lead to: places inside, and what is done there. No program is named here. -/
namespace Go.Proofs.YtmebkoemfjlbcaaGreatDoor
open Go.RowKit

end Go.Proofs.YtmebkoemfjlbcaaGreatDoor
/- Values that the function owns with all that they lead to: laws for operations. No program is named here. -/
namespace Go.Proofs.YtmebkoemfjlbcaaGreatDoor
open Go.RowKit

end Go.Proofs.YtmebkoemfjlbcaaGreatDoor
/- Values that the function owns with all that they lead to: loads, stores, appends. No program is named here. -/
namespace Go.Proofs.YtmebkoemfjlbcaaGreatDoor
open Go.RowKit

section
variable {α β γ : Type} [GoT α] [GoT β] [GoT γ] {P : Program} {e : Env} {w : World} {g : Gh} {K : Value → World → Prop} {x y z : Operand}
 {i j b b1 off : Nat} {t t2 : TypeId} {a : α} 
theorem Sj {t : TypeId} {v : Value} (ha : ∀ w, (isAgg t).run P w = .ok false w) (h : w.cell? ⟨b1, off, none⟩ = some v) : (loadVar t ⟨b1, off, none⟩).run P w = .ok v w := by
 unfold loadVar
 simp [Sem.run_bind, ha, Result.andThen, run_load, h]
theorem Dn {et : TypeId} {v : Value} {n : Nat} (ht : P.underlying t = some (.slice et)) (hx : ev e x = v) (hv : ∃ ad c, v = .slice ad n c) :
  Pur P (.call { callee := .builtin .len, args := #[x], argTypes := #[t] }) e (.int .i64 (n : Int)) := fun _ _ _ _ _ _ => by
 obtain ⟨ad, c, rfl⟩ := hv
 simp [execOp, resolve, invoke, builtin, Builtin.len_, hx, run_underlying ht, goInt]
end
end Go.Proofs.YtmebkoemfjlbcaaGreatDoor
/- Values that the function owns with all that they lead to: from and to own slices; struct values; what calls hand out. No program is named here. -/
namespace Go.Proofs.YtmebkoemfjlbcaaGreatDoor
open Go.RowKit

/-! ### In regions that draw their order -/
section
variable {α β γ : Type} [GoT α] [GoT β] [GoT γ] {P : Program} {e : Env} {w : World} {g : Gh} {x y : Operand} {i b b1 off : Nat} {t t2 : TypeId} {a0 a1 : α} 
theorem Bv {α : Type} [GoT α] {t t2 : TypeId} {i : Nat} {p v : Value} {a0 a1 : α} (hs : ∀ w, (sizeOf t).run P w = .ok (GoT.k α) w) (hx : ev e x = p) (hp : OB i g w t2 a0 p ∨ OB i g w t2 a1 p) (hy : ev e y = v) (hv : RV g.m w a1 v) :
  Doe P (.store t x y) e w fun _ w' => ∃ g', (Bd i (fun g w => OB i g w t2 a0 p) (fun g w => OB i g w t2 a1 p)).rel g w g' w' ∧ OB i g' w' t2 a1 p := by
 rcases hp with hp | hp
 ·exact Tx hs hx hp hy hv fun g' w' hst hb => ⟨g', ⟨hst, fun _ => hb, fun _ => .inr hb⟩, hb⟩
 ·exact Tx hs hx hp hy hv fun g' w' hst hb => ⟨g', ⟨hst, fun _ => hb, fun _ => .inr hb⟩, hb⟩
end
end Go.Proofs.YtmebkoemfjlbcaaGreatDoor
/- Appends to a slice that lies in an own variable, in regions that draw their order. No program is named here. -/
namespace Go.Proofs.YtmebkoemfjlbcaaGreatDoor
open Go.RowKit

end Go.Proofs.YtmebkoemfjlbcaaGreatDoor
/- Maps that lie in variables and behind pointers; pointers as data. No program is named here. -/
namespace Go.Proofs.YtmebkoemfjlbcaaGreatDoor
open Go.RowKit
/-! ### Pointers as data -/
/-! ### A cell that stays -/
/-! ### Maps in variables -/
end Go.Proofs.YtmebkoemfjlbcaaGreatDoor
