/- A region that draws its order, of which some changing operations come in several orders: a tree of orders. No program is named here. -/
import Derived.Test.YtkfdjkkbnfohjaaDoorCu
namespace Go.Proofs.YtkfdjkkbnfohjaaDoor
open Go.RowKit
inductive OTr where
 | done
 | step (i : Nat) (t : OTr)
 | alt (i : Nat) (t : OTr) (r : OTr)
 | stop
section
variable {P : Program} {ops : Array Oper}
variable {cst : Nat → Option Bool} {L : Bool → World → Prop} {M : Nat} {Q : Env → World → Prop}
structure Form (N : Nat) (ops : Array Oper) : Prop where
 ok : ∀ j, j < ops.size → okO N (opAt ops j).dst = true ∧ isSel (opAt ops j) = false ∧ ∀ k ∈ directOf (opAt ops j), k < j
variable {N n : Nat}
end
section
variable {P : Program} {ops : Array Oper} {ls es V U : List Nat} {M : Nat} {g0 : Gh} {w0 : World} {Q : Env → World → Prop} {i : Nat} {t r : OTr} {e : Env} {w : World} {op : Op} {ty : TypeId} {pos : String} {af : Array Edge} {gd : Option (Nat × Bool)} {d : Option Tmp}
end
end Go.Proofs.YtkfdjkkbnfohjaaDoor
