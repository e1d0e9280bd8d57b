/- One law for each kind of operation, over the env-based logic. No program is named here. -/
import Derived.Test.YtmebkoemfjlbcaaGreatDoorRep
namespace Go.Proofs.YtmebkoemfjlbcaaGreatDoor
open Go.RowKit

/-! ### What plain functions stand for Go's operations on int -/
def w64 (n : Int) : Int := IntKind.i64.wrap n
def idx {α : Type} (xs : List α) (i : Int) : Option α := if 0 ≤ i then xs[i.toNat]? else none
def W5 (op : BinOp) (x y : Int) : Int :=
 let a := BitVec.ofInt 64 x
 let b := BitVec.ofInt 64 y
 w64 (match op with | .and => (a &&& b).toNat | .or => (a ||| b).toNat | .xor => (a ^^^ b).toNat | _ => (a &&& ~~~b).toNat : Nat)
def Ve (x y : Int) : Option Int := if y < 0 then none else some (w64 (x * 2 ^ (min y.toNat 64)))
def Kz (x y : Int) : Option Int := if y < 0 then none else some (x.fdiv (2 ^ (min y.toNat 64)))
def U2 (x y : Int) : Option Int := if y = 0 then none else some (w64 (x.tdiv y))
def H3 (x y : Int) : Option Int := if y = 0 then none else some (x.tmod y)

section
variable {P : Program} {ops : Array Oper} {e : Env} {w : World} {x y z : Operand}

theorem Wants.yes2 {j d : Nat} {b b' : Bool} (hd : (ops[j]?).bind (·.dst) = some d) (he : e d = .bool b') (hb : b' = b) : Wants ops e (some (j, b)) true := .yes hd (hb ▸ he)
theorem Wants.no2 {j d : Nat} {b b' c : Bool} (hd : (ops[j]?).bind (·.dst) = some d) (he : e d = .bool b') (hb : b' = c) (hc : (c == b) = false) : Wants ops e (some (j, b)) false := .no hd (hb ▸ he) hc

theorem Zk {v : Value} (hx : ev e x = v) : Pur P (.move x) e v := fun _ _ _ _ _ _ => by simp [execOp, hx]
theorem Tv {v : Value} (hx : ev e x = v) : Pur P (.assign x) e v := fun _ _ _ _ _ _ => by simp [execOp, hx]
theorem Zl {v : Value} {b : Bool} (hx : ev e x = .bool b) (hv : (bif b then ev e y else ev e z) = v) : Pur P (.pick x y z) e v := fun _ _ _ _ _ _ => by cases b <;> simp_all [execOp, asBool]
theorem Zi {vs : Array Value} {i : Nat} {v : Value} (hx : ev e x = .tuple vs) (hv : vs[i]? = some v) : Pur P (.extract x i) e v := fun _ _ _ _ _ _ => by simp [execOp, hx, Instr.extract, hv]
theorem Qj {b : Bool} {t : TypeId} (hx : ev e x = .bool b) : Pur P (.unOp .not t x) e (.bool !b) := fun _ _ _ _ _ _ => by simp [execOp, hx, Op.unary]
theorem Wt {fn : Fn} {first captured : Array Operand} {v : Value} (hv : .func fn (first.map (ev e)) (captured.map (ev e)) = v) : Pur P (.makeFunc fn first captured) e v := fun _ _ _ _ _ _ => by simp [execOp, Instr.makeFunc, ← hv]
theorem Z8 {a : Addr} (hx : ev e x = .pointer (some a)) : Pur P (.nilCheck x) e (.pointer (some a)) := fun _ _ _ _ _ _ => by simp [execOp, hx]

/-! ### Two-place operations -/
theorem H6 {op : BinOp} {t t2 : TypeId} {u1 u2 v : Value} (hx : ev e x = u1) (hy : ev e y = u2)
  (hg : ∀ w, (eqGuard op t x y u1 u2).run P w = .ok () w) (hr : ∀ w, (binOp op t u1 u2).run P w = .ok v w) : Pur P (.binOp op t x y t2) e v := fun _ _ _ _ _ _ => by simp [execOp, hx, hy, Sem.run_bind, hg, hr, Result.andThen]
theorem Wc {op : BinOp} {t : TypeId} {k k' : IntKind} {m n : Int} (w : World) : (eqGuard op t x y (.int k m) (.int k' n)).run P w = .ok () w := by
 unfold eqGuard; cases op <;> simp
theorem S9 {op : BinOp} {t : TypeId} {m n : Bool} (w : World) : (eqGuard op t x y (.bool m) (.bool n)).run P w = .ok () w := by
 unfold eqGuard; cases op <;> simp
theorem C1 {op : BinOp} {t : TypeId} {m n : ByteArray} (w : World) : (eqGuard op t x y (.string m) (.string n)).run P w = .ok () w := by
 unfold eqGuard; cases op <;> simp
def iop (op : BinOp) (m n : Int) : Option Value :=
 match op with
 | .add => some (.int .i64 (w64 (m + n)))
 | .sub => some (.int .i64 (w64 (m - n)))
 | .mul => some (.int .i64 (w64 (m * n)))
 | .quo => (U2 m n).map (.int .i64)
 | .rem => (H3 m n).map (.int .i64)
 | .and | .or | .xor | .andNot => some (.int .i64 (W5 op m n))
 | .shl => (Ve m n).map (.int .i64)
 | .shr => (Kz m n).map (.int .i64)
 | .eql => some (.bool (m == n))
 | .neq => some (.bool (m != n))
 | .lss => some (.bool (decide (m < n)))
 | .leq => some (.bool (decide (m ≤ n)))
 | .gtr => some (.bool (decide (m > n)))
 | .geq => some (.bool (decide (m ≥ n)))
theorem Fb {op : BinOp} {t : TypeId} {m n : Int} (h : op = .and ∨ op = .or ∨ op = .xor ∨ op = .andNot) (w : World) : (binOp op t (.int .i64 m) (.int .i64 n)).run P w = .ok (.int .i64 (W5 op m n)) w := by
 rcases h with rfl | rfl | rfl | rfl <;> (simp only [binOp, ne_eq, not_true_eq_false, if_false, Op.intBits]; rfl)
theorem L8 {op : BinOp} {t : TypeId} {m n : Int} {v : Value} (h : iop op m n = some v) (w : World) : (binOp op t (.int .i64 m) (.int .i64 n)).run P w = .ok v w := by
  cases op <;> simp only [iop, U2, H3, Ve, Kz] at h <;> first
    | (injection h with h; subst h; exact Fb (by simp) w)
    | (injection h with h; subst h; simp [binOp, Op.intArith, Op.intCmp, w64]; done)
    | (split at h
       · cases h
       · rename_i hn; simp only [Option.map_some, Option.some.injEq] at h; subst h
         simp [binOp, Op.intDiv, Op.shift, w64, hn]; done)
    | (split at h
       · cases h
       · rename_i hn; simp only [Option.map_some, Option.some.injEq] at h; subst h
         simp only [binOp, Op.shift, if_neg hn, w64]; rfl)
theorem Gp {op : BinOp} {t t2 : TypeId} {m n : Int} {v : Value} (hx : ev e x = .int .i64 m) (hy : ev e y = .int .i64 n) (hv : iop op m n = some v) : Pur P (.binOp op t x y t2) e v :=
 H6 hx hy (fun w => Wc w) (fun w => L8 hv w)
def bop (op : BinOp) (m n : Bool) : Option Value :=
 match op with
 | .eql => some (.bool (m == n))
 | .neq => some (.bool (!(m == n)))
 | _ => none
theorem Sy {t : TypeId} {m n : Bool} (ht : P.underlying t = some .bool) (d : Nat) (w : World) : (Op.equalIn (d + 1) t (.bool m) (.bool n)).run P w = .ok (m == n) w := by
 simp [Op.equalIn, run_underlying ht]
theorem Fq {op : BinOp} {t : TypeId} {m n : Bool} {v : Value} (ht : P.underlying t = some .bool) (h : bop op m n = some v) (w : World) : (binOp op t (.bool m) (.bool n)).run P w = .ok v w := by
 have he := Sy (P := P) (m := m) (n := n) ht 9999 w
 cases op <;> simp only [bop] at h <;> first
  | (cases h; done)
  | (injection h with h; subst h; simp only [binOp, Op.equal, Op.maxDepth, Sem.run_bind, he, Result.andThen, Sem.run_pure]; done)
theorem P_bool {op : BinOp} {t t2 : TypeId} {m n : Bool} {v : Value} (ht : P.underlying t = some .bool) (hx : ev e x = .bool m) (hy : ev e y = .bool n) (hv : bop op m n = some v) : Pur P (.binOp op t x y t2) e v :=
 H6 hx hy (fun w => S9 w) (fun w => Fq ht hv w)
theorem M0 (l : List UInt8) : (ByteArray.mk (Array.mk l)).toList = l := by
 rw [ByteArray.toList_eq]
def sop (op : BinOp) (s t : Str) : Option Value :=
 match op with
 | .eql => some (.bool (s.b == t.b))
 | .neq => some (.bool (!(s.b == t.b)))
 | .lss => some (.bool (Op.bytesLess s.b t.b))
 | .leq => some (.bool (Op.bytesLess s.b t.b || s.b == t.b))
 | .gtr => some (.bool (!(Op.bytesLess s.b t.b || s.b == t.b)))
 | .geq => some (.bool (!Op.bytesLess s.b t.b))
 | .add => if s.b.length + t.b.length ≤ 9223372036854775807 then some (Str.v ⟨s.b ++ t.b⟩) else none
 | _ => none
theorem Bq {t : TypeId} {a b : Str} (hn : a.b.length + b.b.length ≤ 9223372036854775807) (w : World) : (binOp .add t a.v b.v).run P w = .ok (Str.v ⟨a.b ++ b.b⟩) w := by
 have hmax : IntKind.i64.max = 9223372036854775807 := rfl
 have h2 : ¬ ((((ByteArray.mk (Array.mk a.b)).size + (ByteArray.mk (Array.mk b.b)).size : Nat) : Int) > IntKind.i64.max) := by
  rw [hmax]; show ¬ (((a.b.length + b.b.length : Nat) : Int) > _); omega
 simp only [binOp, Str.v, Op.stringOp]
 rw [if_neg h2]
 simp only [Sem.run_pure]
 congr 2
theorem Pi {op : BinOp} {t : TypeId} {a b : Str} {v : Value} (h : sop op a b = some v) (w : World) : (binOp op t a.v b.v).run P w = .ok v w := by
 cases op
 case add =>
  simp only [sop] at h
  split at h
  ·rename_i hn
   injection h with h; subst h
   exact Bq hn w
  ·cases h
 all_goals
  simp only [sop] at h
  first
  | (cases h; done)
  | (injection h with h; subst h; simp only [binOp, Str.v, Op.stringOp, M0, Sem.run_pure]; done)
theorem W2 {op : BinOp} {t t2 : TypeId} {a b : Str} {v : Value} (hx : ev e x = a.v) (hy : ev e y = b.v) (hv : sop op a b = some v) : Pur P (.binOp op t x y t2) e v :=
 H6 hx hy (fun w => C1 w) (fun w => Pi hv w)
end
end Go.Proofs.YtmebkoemfjlbcaaGreatDoor
