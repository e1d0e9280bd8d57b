/- Builders of strings, iterators over strings, functions without a body. No program is named here. -/
import Derived.Test.YtmebkoemfjlbcaaGreatDoorBox
import Derived.Lib.Builder
import Derived.Lib.UnsafeStr
import Derived.Laws.RangeString
import Derived.Laws.Externs
import Derived.Laws.Pointers
namespace Go.Proofs.YtmebkoemfjlbcaaGreatDoor
open Go.RowKit

/-! ### Iterators over strings -/
def SI (i : Nat) (g : Gh) (w : World) (s : Str) (pos : Nat) (p : Value) : Prop := ∃ b, p = .pointer (some ⟨b, 0, none⟩) ∧ HB i g w b (.stringIter ⟨⟨s.b⟩⟩ pos)
section
variable {i j pos B : Nat} {g g' : Gh} {w w' : World} {s : Str} {p : Value}
theorem SI.ext (h : SI i g w s pos p) (k : Ext g w g' w') : SI i g' w' s pos p := let ⟨b, h1, h2⟩ := h; ⟨b, h1, h2.ext k⟩
end
def dec (s : Str) (pos : Nat) : Int × Nat := let r := Utf8.decode ⟨⟨s.b⟩⟩ pos; ((r.1 : Int), r.2)
theorem stp_si {i b pos pos' : Nat} {g : Gh} {w : World} {s : ByteArray} (h : HB i g w b (.stringIter s pos)) : Stp i g w g (w.putObj b (.stringIter s pos')) ∧ HB i g (w.putObj b (.stringIter s pos')) b (.stringIter s pos') :=
 ⟨Ln h (fun j => by simp [World.cell?, h.2]) (fun j => by simp [World.cell?, World.putObj_heap_same (Gw h.2)]), h.1, World.putObj_heap_same (Gw h.2)⟩
section
variable {P : Program} {e : Env} {w : World} {g : Gh} {K : Value → World → Prop} {x y z : Operand}
theorem R7 (i : Nat) {t : TypeId} {s : Str} (ht : P.underlying t = some .string) (hx : ev e x = s.v) (h : ∀ g' w' p, Stp i g w g' w' → SI i g' w' s 0 p → K p w') : Doe P (.range t x) e w K := fun d ty pos af gd => by
 have hrun : (execOp (ev e) ⟨d, .range t x, ty, pos, af, gd⟩).run P w = .ok (.value (.pointer (some ⟨w.heap.size, 0, none⟩))) (w.alloc (.stringIter ⟨⟨s.b⟩⟩ 0)) := by
  have := run_range_string (P := P) w t ⟨⟨s.b⟩⟩ ht
  simp only [execOp, hx, Str.v, Sem.run_bind, this, Result.andThen_ok, Sem.run_pure]
  rfl
 unfold doE; rw [hrun]
 have hx2 := Jj i g w (.stringIter ⟨⟨s.b⟩⟩ 0)
 exact h _ _ _ hx2.stp ⟨_, rfl, V5 i g w _⟩
theorem Sk {i pos : Nat} {s : Str} {p : Value} (hx : ev e x = p) (hs : SI i g w s pos p) (hc : decide (pos < s.b.length) = true)
  (h : ∀ g' w', Stp i g w g' w' → SI i g' w' s (pos + (dec s pos).2) p → K (.tuple #[.bool true, .int .i64 (pos : Int), .int .i32 (dec s pos).1]) w') : Doe P (.next x true) e w K := fun d ty po af gd => by
 obtain ⟨b, rfl, hb⟩ := hs
 have hlt : pos < (ByteArray.mk (Array.mk s.b)).size := by show pos < s.b.length; simpa using hc
 have hst := stp_si (pos' := pos + (dec s pos).2) hb
 have hrun : (execOp (ev e) ⟨d, .next x true, ty, po, af, gd⟩).run P w = .ok (.value (.tuple #[.bool true, .int .i64 (pos : Int), .int .i32 (dec s pos).1])) (w.putObj b (.stringIter ⟨⟨s.b⟩⟩ (pos + (dec s pos).2))) := by
  simp only [execOp, hx, Instr.next, getObj, setObj, Sem.run_bind, Sem.run, hb.2, Result.andThen, hlt, if_true]
  rfl
 unfold doE; rw [hrun]
 exact h g _ hst.1 ⟨b, rfl, hst.2⟩
theorem B5 {i pos : Nat} {s : Str} {p : Value} (hx : ev e x = p) (hs : SI i g w s pos p) (hc : decide (pos < s.b.length) = false) (h : K (.tuple #[.bool false]) w) : Doe P (.next x true) e w K := fun d ty po af gd => by
 obtain ⟨b, rfl, hb⟩ := hs
 have hlt : ¬ pos < (ByteArray.mk (Array.mk s.b)).size := by show ¬ pos < s.b.length; simpa using hc
 have hrun : (execOp (ev e) ⟨d, .next x true, ty, po, af, gd⟩).run P w = .ok (.value (.tuple #[.bool false])) w := by
  simp only [execOp, hx, Instr.next, getObj, Sem.run_bind, Sem.run, hb.2, Result.andThen, hlt, if_false]
  rfl
 unfold doE; rw [hrun]; exact h

/-! ### Unsigned numbers -/
theorem Je {t t2 : TypeId} {m n v : Int} {k : IntKind} (hx : ev e x = .int .u64 m) (hy : ev e y = .int k n) (hv : Kz m n = some v) : Pur P (.binOp .shr t x y t2) e (.int .u64 v) :=
 H6 hx hy (fun w => Wc w) fun w => by
  unfold Kz at hv
  split at hv
  ·cases hv
  ·rename_i hn; injection hv with hv; subst hv
   simp only [binOp, Op.shift, if_neg hn]; rfl
theorem Ci {s t : TypeId} {n : Int} (hs : P.underlying s = some (.int .u64)) (ht : P.underlying t = some (.int .i64)) (hx : ev e x = .int .u64 n) : Pur P (.convert s t x) e (.int .i64 (w64 n)) := fun _ _ _ _ _ _ => by
 simp [execOp, hx, convert, run_underlying hs, run_underlying ht, Conv.intToInt, w64]

/-! ### A function without a body -/
theorem Cd {f : FuncId} {fn : Func} {ex : Array Value → Sem Value} {xs : List Operand} {vs : List Value} {ats : Array TypeId} {v : Value} (hf : P.funcs[f]? = some fn) (hname : (fn.name == "runtime.NumGoroutine") = false)
    (hb : fn.body.isNone = true) (hn : Extern.findNext fn = none) (he : Extern.find fn = some ex) (ha : Args e xs vs) (hr : ∀ w, (ex vs.toArray).run P w = .ok v w) : Pur P (.call { callee := .value (.func f), args := xs.toArray, argTypes := ats }) e v := fun d ty pos af gd w => by
  simp only [execOp, resolve, ev, Deferred.ofValue, Sem.run_bind, Sem.run_pure, Result.andThen_ok, invoke, List.map_toArray, ha.map, Array.empty_append, Array.append_empty]
  rw [run_callFunc_extern hf hname hb hn he, hr]
  rfl
theorem Ku {op : BinOp} {t t2 : TypeId} {u1 u2 : Value} {b : Bool} (hop : op = .eql ∨ op = .neq) (hx : ev e x = u1) (hy : ev e y = u2) (hp1 : ∃ a, u1 = .pointer a) (hp2 : ∃ a, u2 = .pointer a) (hr : ∀ w, (binOp op t u1 u2).run P w = .ok (.bool b) w) : Pur P (.binOp op t x y t2) e (.bool b) :=
 H6 hx hy (fun w => by obtain ⟨a, rfl⟩ := hp1; obtain ⟨c, rfl⟩ := hp2; unfold eqGuard; rcases hop with rfl | rfl <;> simp) hr

theorem Qg {f : FuncId} {xs : List Operand} {vs : List Value} {ats : Array TypeId} {R : Value → World → Prop} (hent : Enters P f) (ha : Args e xs vs) (hc : Calls P f vs.toArray w fun r w' => ∃ v, r = .returned v ∧ R v w')
  (h : ∀ v w', R v w' → K v w') : Doe P (.call { callee := .value (.func f), args := xs.toArray, argTypes := ats }) e w K := fun d ty pos af gd => by
 have he := hent vs.toArray w
 have hrun : (execOp (ev e) ⟨d, .call { callee := .value (.func f), args := xs.toArray, argTypes := ats }, ty, pos, af, gd⟩).run P w = .ok (.enter f vs.toArray) w := by
  simp only [execOp, resolve, ev, Deferred.ofValue, Sem.run_bind, Sem.run_pure, Result.andThen_ok, invoke, List.map_toArray, ha.map, Array.empty_append, Array.append_empty, he]
 unfold doE; rw [hrun]
 refine Calls.mono hc ?_
 rintro r w'' ⟨v, rfl, hr⟩
 exact ⟨v, rfl, h v w'' hr⟩

theorem Wg {α : Type} [GoT α] (i : Nat) {t : TypeId} {z : Value} (a : α) (hz : ∀ w, (zeroValue t).run P w = .ok z w) (hv : ∀ m w, RV m w a z) (h : ∀ g' w' p, Ext g w g' w' → OB i g' w' t a p → K p w') : Doe P (.alloc t) e w K := fun d ty pos af gd => by
 have hrun : (execOp (ev e) ⟨d, .alloc t, ty, pos, af, gd⟩).run P w = .ok (.value (.pointer (some ⟨w.heap.size, 0, none⟩))) (w.alloc (.cells z.cells t)) := by
  simp [execOp, Instr.alloc, hz, newVar, newRow, Sem.run_bind, Result.andThen]
 unfold doE; rw [hrun]; exact h _ _ _ (Jj i g w (.cells z.cells t)) (S8 (hv g.m w).cells)
def F7 (xs : List UInt8) : Option Str := if xs = [] then none else some ⟨xs⟩
theorem Lp {xs : List UInt8} {s : Str} (h : F7 xs = some s) : xs ≠ [] ∧ s = ⟨xs⟩ := by
 unfold F7 at h; split at h
 ·cases h
 ·rename_i hn; injection h with h; exact ⟨hn, h.symm⟩

/-! ### A builder of strings: its own address (or nil), and its bytes -/
def SB (i j : Nat) (g : Gh) (w : World) (et t : TypeId) (xs : List UInt8) (p : Value) : Prop := ∃ a : Fv, OB i g w t (a, xs) p ∧ OSF i j 1 g w et t xs p ∧ (a.v = .pointer none ∨ a.v = p)
end
section
variable {i j k B : Nat} {g g' : Gh} {w w' : World} {et t : TypeId} {xs : List UInt8} {p : Value}
theorem SB.ext (h : SB i j g w et t xs p) (hx : Ext g w g' w') : SB i j g' w' et t xs p := let ⟨a, h1, h2, h3⟩ := h; ⟨a, h1.ext hx, h2.ext hx, h3⟩
def StpB (i j : Nat) (g : Gh) (w : World) (g' : Gh) (w' : World) : Prop := ∃ g1 w1 g2 w2, Stp i g w g1 w1 ∧ Stp j g1 w1 g2 w2 ∧ Stp i g2 w2 g' w'
theorem Df (i : Nat) (g : Gh) (w : World) : Stp i g w g w := ⟨rfl, rfl, rfl, Ch.refl _ _, fun _ _ _ => rfl, fun _ _ _ => rfl, fun _ _ _ => rfl⟩
def WB (i j : Nat) (g : Gh) (w : World) (et t : TypeId) (xs : List UInt8) (p : Value) (w' : World) : Prop := ∃ g', StpB i j g w g' w' ∧ SB i j g' w' et t xs p
def GS (j : Nat) (g : Gh) (w : World) (xs : List UInt8) (v : Value) (w' : World) : Prop := v = Str.v ⟨xs⟩ ∧ ∃ g', Stp j g w g' w'
theorem S3 {xs : List UInt8} {cs : List Value} {m : Nat → Nat} (h : Tn m w xs cs) : ∀ (j : Nat) (x : UInt8), xs[j]? = some x → cs[j]? = some (Value.int .u8 x.toNat) := fun j x hx => by
 obtain ⟨c, hr, hc⟩ := h.get hx
 have : c = [.int .u8 x.toNat] := hr
 subst this
 have := hc 0 _ rfl
 simpa [GoT.k] using this
theorem Dj {P : Program} {e : Env} {x y : Operand} {K : Value → World → Prop} {pt it : TypeId} {c : Nat} {ats : Array TypeId} (hats : ats = #[pt, it]) {a : Option Addr} (hp : P.underlying pt = some (.pointer et)) (hc1 : P.cellsOf et = 1) (h0 : xs ≠ [])
  (hx : ev e x = .pointer a) (hy : ev e y = .int .i64 (xs.length : Int)) (hos : OS j g w et xs (.slice a xs.length c)) (hr : RV g.m w xs (.slice a xs.length c)) (h : ∀ g' w', Stp j g w g' w' → K (Str.v ⟨xs⟩) w') :
  Doe P (.call { callee := .builtin .unsafeString, args := #[x, y], argTypes := ats }) e w K := fun d ty pos af gd => by
 subst hats
 have hl0 : 0 < xs.length := by cases xs with
  | nil => exact absurd rfl h0
  | cons _ _ => simp
 obtain ⟨b, c', cs, hv, ho, hm, hh, hnc, hcm, hcs⟩ := hos.resolve_left (fun h => h0 h.2)
 injection hv with hv1 hv2 hv3
 subst hv1; subst hv3
 obtain ⟨ad, c2, he, _, hrow⟩ := Qc hr
 injection he with he1 he2 he3
 subst he1
 obtain ⟨b2, off2, he, _, _, hrr⟩ := hrow hl0
 injection he with he; injection he with h1 h2
 subst h1; subst h2
 obtain ⟨fl, hf, hcell⟩ := hrr.flat
 have hu := S3 hf
 have hrun := Lib.run_unsafeString_row (P := P) w pt it ty et hp hc1 b cs.size (by simp [World.shape?, hh]) xs h0 (by simp [GoT.k] at hcs; omega) (by unfold maxLen at hcm; omega) (fun k u hk => by rw [Wb]; exact hcell k _ (hu k u hk))
 have hrun2 : (execOp (ev e) ⟨d, .call { callee := .builtin .unsafeString, args := #[x, y], argTypes := #[pt, it] }, ty, pos, af, gd⟩).run P w = .ok (.value (Str.v ⟨xs⟩)) (w.freeze ⟨b, 0, none⟩ xs.length) := by
  simp only [execOp, resolve, invoke, builtin, hx, hy, Sem.run_bind, Sem.run_pure, Result.andThen_ok, List.map_toArray, List.map_cons, List.map_nil, hrun]
  rfl
 unfold doE; rw [hrun2]
 refine h g _ ?_
 have hne : ∀ k, k ≠ b → (w.freeze ⟨b, 0, none⟩ xs.length).heap[k]? = w.heap[k]? := fun k hk => by
  unfold World.freeze
  rw [if_neg (by omega)]
  simp only [Array.getElem?_modify]
  rw [if_neg (fun h => hk h.symm)]
 have hself : ∀ q, (w.freeze ⟨b, 0, none⟩ xs.length).cell? ⟨b, q, none⟩ = w.cell? ⟨b, q, none⟩ := fun q => by
  unfold World.freeze
  rw [if_neg (by omega)]
  simp only [World.cell?, Array.getElem?_modify, if_true, hh, Option.map_some]
 have hparts : (w.freeze ⟨b, 0, none⟩ xs.length).os = w.os ∧ (w.freeze ⟨b, 0, none⟩ xs.length).tape = w.tape ∧ (w.freeze ⟨b, 0, none⟩ xs.length).output = w.output ∧ (w.freeze ⟨b, 0, none⟩ xs.length).heap.size = w.heap.size := by
  unfold World.freeze
  rw [if_neg (by omega)]
  exact ⟨rfl, rfl, rfl, by simp⟩
 refine ⟨hparts.1, hparts.2.1, hparts.2.2.1, ⟨by rw [hparts.2.2.2]; exact Nat.le_refl _, fun _ _ => Nat.le_refl _, fun k hk q _ => ?_⟩, fun k hk hn => hne k (fun h => hn (h ▸ ho)), fun _ _ _ => rfl, fun _ _ _ => rfl⟩
 by_cases hkb : k = b
 ·subst hkb; exact hself q
 ·simp only [World.cell?, hne k hkb]
theorem Xn {P : Program} {e : Env} {x : Operand} {ats : Array TypeId} {a : Option Addr} {n c : Nat} (hx : ev e x = .slice a n c) (hc : c ≠ 0 ∨ a = none) : Pur P (.call { callee := .builtin .unsafeSliceData, args := #[x], argTypes := ats }) e (.pointer a) := fun d ty pos af gd w => by
 have hrun : (Builtin.unsafeSliceData_ ats ty #[.slice a n c]).run P w = .ok (.pointer a) w := by
  cases a with
  | none => rfl
  | some ad => exact Lib.run_unsafeSliceData_row (P := P) w ats ty ad n c (hc.resolve_right (by simp))
 simp only [execOp, resolve, invoke, builtin, hx, Sem.run_bind, Sem.run_pure, Result.andThen_ok, List.map_toArray, List.map_cons, List.map_nil, hrun]
end
end Go.Proofs.YtmebkoemfjlbcaaGreatDoor
