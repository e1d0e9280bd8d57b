/- Functions with several outcomes (a range over a map fills what lives on): the plain function lists them all. No program is named here. -/
import Derived.Test.YtmebkoemfjlbcaaGreatDoorCp
namespace Go.Proofs.YtmebkoemfjlbcaaGreatDoor
open Go.RowKit

end Go.Proofs.YtmebkoemfjlbcaaGreatDoor
/- Maps that a variable may hold or not; ranges over maps that are older than the call; a map that is handed out by a function which writes another one. No program is named here. -/
namespace Go.Proofs.YtmebkoemfjlbcaaGreatDoor
open Go.RowKit
open Go.ChangeMaps (setBlock)

end Go.Proofs.YtmebkoemfjlbcaaGreatDoor
/- An entry of a map that is changed in place (m[k] op= x); delete. No program is named here. -/
namespace Go.Proofs.YtmebkoemfjlbcaaGreatDoor
open Go.RowKit
open Go.ChangeMaps (setBlock)

/-! ### Slices against nil -/
end Go.Proofs.YtmebkoemfjlbcaaGreatDoor
/- Integers and texts as values of an interface type: any. No program is named here. -/
namespace Go.Proofs.YtmebkoemfjlbcaaGreatDoor
open Go.RowKit

inductive AnyV (ti ts : Nat) where
 | int (n : Int)
 | str (s : Str)
section
variable {ti ts : Nat} {P : Program} {e : Env} {x : Operand}
def AnyV.v : AnyV ti ts → Value
 | .int n => .iface ti (.int .i64 n)
 | .str s => .iface ts s.v
theorem AnyV.one (a : AnyV ti ts) : a.v.oneCell' = true := by cases a <;> rfl
instance : GoT (AnyV ti ts) where
 k := 1
 agg := false
 rep _ _ x cs := cs = [x.v]
 len h := by subst h; rfl
 one {m w x cs} h := by subst h; simpa using x.one
 mono _ h := h
 k1 _ := rfl
theorem Hh {m : Nat → Nat} {w : World} {a : AnyV ti ts} {v : Value} : RV m w a v ↔ v = a.v := ⟨fun ⟨_, h, hv⟩ => by rw [hv, h]; rfl, fun h => ⟨_, rfl, h⟩⟩
theorem Ye (ht : P.underlying ti = some (.int .i64)) {n : Int} (hx : ev e x = .int .i64 n) : Pur P (.makeInterface ti x) e (AnyV.int (ti := ti) (ts := ts) n).v := fun _ _ _ _ _ _ => by
 simp [execOp, hx, Instr.makeInterface, Sem.run_bind, run_underlying ht, Result.andThen, AnyV.v]
theorem Ht (ht : P.underlying ts = some .string) {s : Str} (hx : ev e x = s.v) : Pur P (.makeInterface ts x) e (AnyV.str (ti := ti) (ts := ts) s).v := fun _ _ _ _ _ _ => by
 simp [execOp, hx, Instr.makeInterface, Sem.run_bind, run_underlying ht, Result.andThen, AnyV.v]
theorem Nc {it : TypeId} (ht : P.underlying ts = some .string) {s : Str} (hx : ev e x = (AnyV.str (ti := ti) (ts := ts) s).v) : Pur P (.typeAssert x it ts true) e (.tuple #[s.v, .bool true]) := fun _ _ _ _ _ _ => by
 simp [execOp, hx, Instr.typeAssert, Sem.run_bind, run_underlying ht, Result.andThen, AnyV.v]
theorem Nx {it : TypeId} (ht : P.underlying ti = some (.int .i64)) {n : Int} (hx : ev e x = (AnyV.int (ti := ti) (ts := ts) n).v) : Pur P (.typeAssert x it ti true) e (.tuple #[.int .i64 n, .bool true]) := fun _ _ _ _ _ _ => by
 simp [execOp, hx, Instr.typeAssert, Sem.run_bind, run_underlying ht, Result.andThen, AnyV.v]
theorem Mo {it : TypeId} {z : Value} (ht : P.underlying ts = some .string) (hne : Nat.beq ti ts = false) (hz : ∀ w, (zeroValue ts).run P w = .ok z w) {n : Int} (hx : ev e x = (AnyV.int (ti := ti) (ts := ts) n).v) : Pur P (.typeAssert x it ts true) e (.tuple #[z, .bool false]) := fun _ _ _ _ _ w => by
 have h : ¬ ti = ts := fun h => by subst h; simp at hne
 simp [execOp, hx, Instr.typeAssert, Sem.run_bind, run_underlying ht, Result.andThen, AnyV.v, h, hz]
end
end Go.Proofs.YtmebkoemfjlbcaaGreatDoor
