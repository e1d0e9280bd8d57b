/- A region that draws its order, whose changing operations come in one order; some loads come before one of them, the operation M. No program is named here. -/
import Derived.Test.YtkfdjkkbnfohjaaDoorAw
namespace Go.Proofs.YtkfdjkkbnfohjaaDoor
open Go.RowKit
section
variable {P : Program} {ops : Array Oper}
variable {cst : Nat → Option Bool} {L : Bool → World → Prop} {M : Nat} {Q : Env → World → Prop}
end
section
variable {P : Program} {ops : Array Oper} {ls es V U : List Nat} {M : Nat} {g0 : Gh} {w0 : World} {Q : Env → World → Prop} {i : Nat} {l : List Nat} {e : Env} {w : World} {op : Op} {ty : TypeId} {pos : String} {af : Array Edge} {gd : Option (Nat × Bool)} {d : Option Tmp}
end
section
variable {α β γ : Type} [GoT α] [GoT γ] {A : Ow α} {E : Ow γ} {P : Program} {x : Operand} {i b b1 off : Nat} {t t2 : TypeId} {a : α} {s : A.S}
end
end Go.Proofs.YtkfdjkkbnfohjaaDoor
