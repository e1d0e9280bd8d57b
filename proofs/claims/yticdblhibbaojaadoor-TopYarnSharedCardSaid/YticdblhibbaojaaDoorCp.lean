/- The builtin copy into a slice that the function owns; a variable that holds an own slice that is appended to; full products of unsigned numbers. No program is named here. -/
import Derived.Test.YticdblhibbaojaaDoorVr
namespace Go.Proofs.YticdblhibbaojaaDoor
open Go.RowKit

/-! ### A variable that holds an own slice that begins its block -/
def BXA {α : Type} [GoT α] (i j : Nat) (g : Gh) (w : World) (et bt : TypeId) (xs : List α) (p : Value) : Prop := ∃ q : Fv, OB i g w bt q p ∧ OA j g w et xs q.v
def BXF {α : Type} [GoT α] (i j : Nat) (g : Gh) (w : World) (et bt : TypeId) (q : Fv) (u : Value) (xs : List α) (p : Value) : Prop := OB i g w bt q p ∧ OM j g w et xs u
def BXAF {α : Type} [GoT α] (i j : Nat) (g : Gh) (w : World) (et bt : TypeId) (q : Fv) (u : Value) (xs : List α) (p : Value) : Prop := OB i g w bt q p ∧ OA j g w et xs u
section
variable {α : Type} [GoT α] {i j k : Nat} {g g' : Gh} {w w' : World} {et bt : TypeId} {xs : List α} {p : Value} {q : Fv} {u : Value}
theorem BXA.ext (h : BXA i j g w et bt xs p) (hx : Ext g w g' w') : BXA i j g' w' et bt xs p := let ⟨q, h1, h2⟩ := h; ⟨q, h1.ext hx, h2.ext hx⟩
theorem BXA.stp (h : BXA i j g w et bt xs p) (hx : Stp k g w g' w') (h1 : Nat.beq i k = false) (h2 : Nat.beq j k = false := by rfl) : BXA i j g' w' et bt xs p := let ⟨q, k1, k2⟩ := h; ⟨q, k1.stp hx h1, k2.stp hx h2⟩
theorem BXF.ext (h : BXF i j g w et bt q u xs p) (hx : Ext g w g' w') : BXF i j g' w' et bt q u xs p := ⟨h.1.ext hx, h.2.ext hx⟩
theorem BXF.stp (h : BXF i j g w et bt q u xs p) (hx : Stp k g w g' w') (h1 : Nat.beq i k = false) (h2 : Nat.beq j k = false := by rfl) : BXF i j g' w' et bt q u xs p := ⟨h.1.stp hx h1, h.2.stp hx h2⟩
theorem BXAF.ext (h : BXAF i j g w et bt q u xs p) (hx : Ext g w g' w') : BXAF i j g' w' et bt q u xs p := ⟨h.1.ext hx, h.2.ext hx⟩
theorem BXAF.stp (h : BXAF i j g w et bt q u xs p) (hx : Stp k g w g' w') (h1 : Nat.beq i k = false) (h2 : Nat.beq j k = false := by rfl) : BXAF i j g' w' et bt q u xs p := ⟨h.1.stp hx h1, h.2.stp hx h2⟩
end

/-! ### copy -/
section
variable {P : Program} {e : Env} {w : World} {g : Gh} {K : Value → World → Prop} {x y : Operand}
end

/-! ### Handing out -/
/-! ### Unsigned numbers -/
def ucmp (op : BinOp) (m n : Int) : Option Bool := match op with
 | .eql => some (m == n)
 | .neq => some (m != n)
 | .lss => some (decide (m < n))
 | .leq => some (decide (m ≤ n))
 | .gtr => some (decide (m > n))
 | .geq => some (decide (m ≥ n))
 | _ => none
section
variable {P : Program} {e : Env} {w : World} {K : Value → World → Prop} {x y : Operand}
theorem P_u64cmp {op : BinOp} {t t2 : TypeId} {m n : Int} {v : Bool} (hx : ev e x = .int .u64 m) (hy : ev e y = .int .u64 n) (h : ucmp op m n = some v) : Pur P (.binOp op t x y t2) e (.bool v) := fun _ _ _ _ _ _ => by
 cases op <;> simp only [ucmp, Option.some.injEq] at h <;> first
  | (cases h; done)
  | (subst h; simp [execOp, hx, hy, eqGuard, binOp, Op.intCmp])
end
/-! ### Unsigned numbers of 64 bits as data -/
structure U64 where
 n : Int
 deriving DecidableEq, Inhabited
instance {k : Nat} : OfNat U64 k := ⟨⟨k⟩⟩
instance : GoT U64 where
 k := 1
 agg := false
 rep _ _ x cs := cs = [.int .u64 x.n]
 len h := by subst h; rfl
 one h := by subst h; simp [Value.oneCell']
 mono _ h := h
 k1 _ := rfl
def bitU (op : BinOp) (x y : Int) : Int :=
 let a := BitVec.ofInt 64 x
 let b := BitVec.ofInt 64 y
 wu64 (match op with | .and => (a &&& b).toNat | .or => (a ||| b).toNat | .xor => (a ^^^ b).toNat | _ => (a &&& ~~~b).toNat : Nat)
def shlU (x y : Int) : Option Int := if y < 0 then none else some (wu64 (x * 2 ^ (min y.toNat 64)))
section
variable {P : Program} {e : Env} {x y : Operand}
theorem P_bitU {op : BinOp} {t t2 : TypeId} {m n : Int} (h : op = .and ∨ op = .or ∨ op = .xor ∨ op = .andNot) (hx : ev e x = .int .u64 m) (hy : ev e y = .int .u64 n) : Pur P (.binOp op t x y t2) e (.int .u64 (bitU op m n)) :=
 P_bin hx hy (fun w => eqGuard_int w) fun w => by
  rcases h with rfl | rfl | rfl | rfl <;> (simp only [binOp, ne_eq, not_true_eq_false, if_false, Op.intBits]; rfl)
theorem P_shlU {t t2 : TypeId} {m n v : Int} {k : IntKind} (hx : ev e x = .int .u64 m) (hy : ev e y = .int k n) (hv : shlU m n = some v) : Pur P (.binOp .shl t x y t2) e (.int .u64 v) :=
 P_bin hx hy (fun w => eqGuard_int w) fun w => by
  unfold shlU at hv
  split at hv
  ·cases hv
  ·rename_i hn; injection hv with hv; subst hv
   simp only [binOp, Op.shift, if_neg hn, wu64]; rfl
theorem P_uadd {t t2 : TypeId} {m n : Int} (hx : ev e x = .int .u64 m) (hy : ev e y = .int .u64 n) : Pur P (.binOp .add t x y t2) e (.int .u64 (wu64 (m + n))) :=
 P_bin hx hy (fun w => eqGuard_int w) fun w => by simp [binOp, Op.intArith, wu64]
theorem P_usub {t t2 : TypeId} {m n : Int} (hx : ev e x = .int .u64 m) (hy : ev e y = .int .u64 n) : Pur P (.binOp .sub t x y t2) e (.int .u64 (wu64 (m - n))) :=
 P_bin hx hy (fun w => eqGuard_int w) fun w => by simp [binOp, Op.intArith, wu64]
end
/-! ### Slices that stay written and appended to, through calls -/
section
variable {α : Type} [GoT α] {i j : Nat} {g0 g : Gh} {w0 w : World} {t : TypeId} {xs xs0 : List α} {v : Value}
end

/-! ### Texts as keys of maps -/
/-! ### Appends to an own slice of what is shared -/
section
variable {γ : Type} [GoT γ] {P : Program} {w : World} {g : Gh} {e : Env} {K : Value → World → Prop} {x y : Operand} {i j : Nat} {et : TypeId}
end
/-! ### Numbers of 32 bits -/
section
variable {P : Program} {e : Env} {x y : Operand}
end
end Go.Proofs.YticdblhibbaojaaDoor
