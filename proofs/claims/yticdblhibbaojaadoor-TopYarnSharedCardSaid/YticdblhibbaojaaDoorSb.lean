/- Builders of strings, iterators over strings, functions without a body. No program is named here. -/
import Derived.Test.YticdblhibbaojaaDoorBox
import Derived.Lib.Builder
import Derived.Lib.UnsafeStr
import Derived.Laws.RangeString
import Derived.Laws.Externs
import Derived.Laws.Pointers
namespace Go.Proofs.YticdblhibbaojaaDoor
open Go.RowKit

/-! ### Iterators over strings -/
def SI (i : Nat) (g : Gh) (w : World) (s : Str) (pos : Nat) (p : Value) : Prop := ∃ b, p = .pointer (some ⟨b, 0, none⟩) ∧ HB i g w b (.stringIter ⟨⟨s.b⟩⟩ pos)
section
variable {i j pos B : Nat} {g g' : Gh} {w w' : World} {s : Str} {p : Value}
theorem SI.ext (h : SI i g w s pos p) (k : Ext g w g' w') : SI i g' w' s pos p := let ⟨b, h1, h2⟩ := h; ⟨b, h1, h2.ext k⟩
theorem SI.stp (h : SI i g w s pos p) (k : Stp j g w g' w') (hne : Nat.beq i j = false) : SI i g' w' s pos p := let ⟨b, h1, h2⟩ := h; ⟨b, h1, h2.stp k hne⟩
end
def dec (s : Str) (pos : Nat) : Int × Nat := let r := Utf8.decode ⟨⟨s.b⟩⟩ pos; ((r.1 : Int), r.2)
section
variable {P : Program} {e : Env} {w : World} {g : Gh} {K : Value → World → Prop} {x y z : Operand}
/-! ### Unsigned numbers -/
theorem P_shrU {t t2 : TypeId} {m n v : Int} {k : IntKind} (hx : ev e x = .int .u64 m) (hy : ev e y = .int k n) (hv : shr64 m n = some v) : Pur P (.binOp .shr t x y t2) e (.int .u64 v) :=
 P_bin hx hy (fun w => eqGuard_int w) fun w => by
  unfold shr64 at hv
  split at hv
  ·cases hv
  ·rename_i hn; injection hv with hv; subst hv
   simp only [binOp, Op.shift, if_neg hn]; rfl
theorem P_u64int {s t : TypeId} {n : Int} (hs : P.underlying s = some (.int .u64)) (ht : P.underlying t = some (.int .i64)) (hx : ev e x = .int .u64 n) : Pur P (.convert s t x) e (.int .i64 (w64 n)) := fun _ _ _ _ _ _ => by
 simp [execOp, hx, convert, run_underlying hs, run_underlying ht, Conv.intToInt, w64]

/-! ### A function without a body -/
theorem D_callC {f : FuncId} {xs : List Operand} {vs : List Value} {ats : Array TypeId} {R : Value → World → Prop} (hent : Enters P f) (ha : Args e xs vs) (hc : Calls P f vs.toArray w fun r w' => ∃ v, r = .returned v ∧ R v w')
  (h : ∀ v w', R v w' → K v w') : Doe P (.call { callee := .value (.func f), args := xs.toArray, argTypes := ats }) e w K := fun d ty pos af gd => by
 have he := hent vs.toArray w
 have hrun : (execOp (ev e) ⟨d, .call { callee := .value (.func f), args := xs.toArray, argTypes := ats }, ty, pos, af, gd⟩).run P w = .ok (.enter f vs.toArray) w := by
  simp only [execOp, resolve, ev, Deferred.ofValue, Sem.run_bind, Sem.run_pure, Result.andThen_ok, invoke, List.map_toArray, ha.map, Array.empty_append, Array.append_empty, he]
 unfold doE; rw [hrun]
 refine Calls.mono hc ?_
 rintro r w'' ⟨v, rfl, hr⟩
 exact ⟨v, rfl, h v w'' hr⟩

theorem D_allocX {α : Type} [GoT α] (i : Nat) {t : TypeId} {z : Value} (a : α) (hz : ∀ w, (zeroValue t).run P w = .ok z w) (hv : ∀ m w, RV m w a z) (h : ∀ g' w' p, Ext g w g' w' → OB i g' w' t a p → K p w') : Doe P (.alloc t) e w K := fun d ty pos af gd => by
 have hrun : (execOp (ev e) ⟨d, .alloc t, ty, pos, af, gd⟩).run P w = .ok (.value (.pointer (some ⟨w.heap.size, 0, none⟩))) (w.alloc (.cells z.cells t)) := by
  simp [execOp, Instr.alloc, hz, newVar, newRow, Sem.run_bind, Result.andThen]
 unfold doE; rw [hrun]; exact h _ _ _ (ext_alloc i g w (.cells z.cells t)) (ob_new (hv g.m w).cells)
theorem up_ob {α : Type} [GoT α] {i : Nat} {t : TypeId} {a : α} {v : Value} : Up extRel (fun g w => OB i g w t a v) := fun _ _ _ _ hx h => h.ext hx
/-! ### A builder of strings: its own address (or nil), and its bytes -/
def SB (i j : Nat) (g : Gh) (w : World) (et t : TypeId) (xs : List UInt8) (p : Value) : Prop := ∃ a : Fv, OB i g w t (a, xs) p ∧ OSF i j 1 g w et t xs p ∧ (a.v = .pointer none ∨ a.v = p)
end
section
variable {i j k B : Nat} {g g' : Gh} {w w' : World} {et t : TypeId} {xs : List UInt8} {p : Value}
theorem SB.ext (h : SB i j g w et t xs p) (hx : Ext g w g' w') : SB i j g' w' et t xs p := let ⟨a, h1, h2, h3⟩ := h; ⟨a, h1.ext hx, h2.ext hx, h3⟩
theorem SB.stp (h : SB i j g w et t xs p) (hx : Stp k g w g' w') (hi : Nat.beq i k = false) (hj : Nat.beq j k = false := by rfl) : SB i j g' w' et t xs p := let ⟨a, h1, h2, h3⟩ := h; ⟨a, h1.stp hx hi, h2.stp hx hi hj, h3⟩
end
end Go.Proofs.YticdblhibbaojaaDoor
