/- What is lent for a call; maps that are only read; cells of arrays by a number that varies; more of makeSlice. No program is named here. -/
import Derived.Test.YtkmbkaoolacofaaGreatOa
import Derived.Lib.AppendZerosOnto
namespace Go.Proofs.YtkmbkaoolacofaaGreat
open Go.RowKit

/-! ### Lending: all that there is may be read for the time of a call -/
def allM (w : World) (m : Nat → Nat) : Nat → Nat := fun b => match w.heap[b]? with
 | some (.cells cs _ _) => if m b < cs.size then cs.size else m b
 | _ => m b
theorem allM_le (w : World) (m : Nat → Nat) (b : Nat) : m b ≤ allM w m b := by
 unfold allM
 split
 ·split <;> omega
 ·exact Nat.le_refl _
theorem allM_cells {w : World} {m : Nat → Nat} {b : Nat} {cs : Array Value} {t : TypeId} {fr : Nat × Nat} (h : w.heap[b]? = some (.cells cs t fr)) : cs.size ≤ allM w m b := by
 unfold allM
 rw [h]
 simp only
 split <;> omega
def lent (g : Gh) (w : World) : Gh := { m := allM w g.m, o := g.o }
section
variable {α : Type} [GoT α] {i : Nat} {g g' : Gh} {w w' : World} {t : TypeId} {x : α} {xs : List α} {p v : Value}
end
section
variable {P : Program} {e : Env} {w : World} {g : Gh} {K : Value → World → Prop} {x y z : Operand}
theorem unlend {g : Gh} {w : World} {g1 : Gh} {w' : World} (hx : Ext (lent g w) w g1 w') : Ext g w { m := fun b => if b < w.heap.size then g.m b else g1.m b, o := g1.o } w' :=
 ⟨hx.below, fun b hb => by simp [hb], hx.o⟩
theorem D_callGF {f : FuncId} {xs : List Operand} {vs : List Value} {ats : Array TypeId} {R : Gh → World → Value → Prop} (hent : Enters P f) (ha : Args e xs vs)
  (hc : FnG P f vs.toArray (lent g w) w R) (h : ∀ g1 w' v, Ext (lent g w) w g1 w' → R g1 w' v → K v w') : Doe P (.call { callee := .value (.func f), args := xs.toArray, argTypes := ats }) e w K :=
 D_callG (g := lent g w) hent ha hc h
end

/-! ### Maps that are only read -/
section
variable {κ ν : Type} [GoT ν] {enc : κ → Value}
def MR (enc : κ → Value) (g : Gh) (w : World) (m : List (κ × ν)) (v : Value) : Prop := (v = .map none ∧ m = []) ∨ ∃ i, MP enc i g w m v
def MQ (enc : κ → Value) (n : Nat) (g : Gh) (w : World) (m : List (κ × ν)) (v : Value) : Prop := (v = .map none ∧ m = []) ∨ (MP enc 0 g w m v ∧ ∀ b, v = .map (some b) → b < n)
variable {g g' : Gh} {w w' : World} {m : List (κ × ν)} {v : Value} {i n : Nat}
theorem MR.nil : MR enc g w ([] : List (κ × ν)) (.map none) := .inl ⟨rfl, rfl⟩
theorem MP.r (h : MP enc i g w m v) : MR enc g w m v := .inr ⟨_, h⟩
theorem MQ.r (h : MQ enc n g w m v) : MR enc g w m v := h.imp id fun h => ⟨_, h.1⟩
theorem MP.lt {b : Nat} (h : MP enc i g w m (.map (some b))) : b < w.heap.size := by
 obtain ⟨b', es, cl, hv, _, hh, _⟩ := h
 injection hv with hv; injection hv with hv; subst hv
 exact lt_of_heap hh
theorem MQ.enter {g0 gI : Gh} {wI : World} (h : MR enc gI wI m v) (hm : g0.m = gI.m) (hfr : Fr gI wI g0 wI) : MQ enc wI.heap.size g0 wI m v := by
 rcases h with h | ⟨i, h⟩
 ·exact .inl h
 refine .inr ⟨?_, fun b hb => by subst hb; exact h.lt⟩
 obtain ⟨b, es, cl, hv, ho, hh, h1, h2, h3⟩ := h
 exact ⟨b, es, cl, hv, hfr.o b (lt_of_heap hh), hh, h1, h2, hm ▸ h3⟩
theorem MQ.ext (h : MQ enc n g w m v) (k : Ext g w g' w') : MQ enc n g' w' m v := h.imp id fun h => ⟨h.1.ext k, h.2⟩
theorem MQ.stp {j : Nat} (h : MQ enc n g w m v) (k : Stp (j + 1) g w g' w') : MQ enc n g' w' m v := h.imp id fun h => ⟨h.1.stp k (by cases j <;> rfl), h.2⟩
variable {P : Program} {e : Env} {K : Value → World → Prop} {x y z : Operand} [DecidableEq κ]
end

/-! ### Cells of an array, by a number that varies -/
section
variable {β : Type} [GoT β] {n : Nat}
variable {P : Program} {e : Env} {w : World} {g : Gh} {K : Value → World → Prop} {a1 : Operand}
end
/-! ### A pointer to an element, or nil -/
section
variable {P : Program} {e : Env} {x y : Operand}
end

/-! ### A variable that a draw makes and stores to -/
section
variable {α : Type} [GoT α] {i : Nat} {t2 : TypeId} {a0 a1 : α} {g g' : Gh} {w w' : World}
variable {P : Program} {N : Nat}
end

/-! ### A variable that holds an own slice -/
def BX {α : Type} [GoT α] (i j : Nat) (g : Gh) (w : World) (et bt : TypeId) (xs : List α) (p : Value) : Prop := ∃ q : Fv, OB i g w bt q p ∧ OM j g w et xs q.v
section
variable {α : Type} [GoT α] {i j k : Nat} {g g' : Gh} {w w' : World} {et bt : TypeId} {xs : List α} {p : Value}
theorem BX.ext (h : BX i j g w et bt xs p) (hx : Ext g w g' w') : BX i j g' w' et bt xs p := let ⟨q, h1, h2⟩ := h; ⟨q, h1.ext hx, h2.ext hx⟩
theorem BX.stp (h : BX i j g w et bt xs p) (hx : Stp k g w g' w') (h1 : Nat.beq i k = false) (h2 : Nat.beq j k = false := by rfl) : BX i j g' w' et bt xs p := let ⟨q, k1, k2⟩ := h; ⟨q, k1.stp hx h1, k2.stp hx h2⟩
variable {P : Program} {e : Env} {K : Value → World → Prop} {x y : Operand}
end
section
variable {P : Program} {e : Env} {w : World} {g : Gh} {K : Value → World → Prop} {x y z : Operand}
end

theorem flat_replicate {α : Type} [GoT α] {m : Nat → Nat} {w : World} {x : α} {cs : List Value} (h : GoT.rep m w x cs) : ∀ n : Nat, FlatR m w (List.replicate n x) (List.replicate n cs).flatten
 | 0 => rfl
 | n + 1 => ⟨cs, (List.replicate n cs).flatten, rfl, h, flat_replicate h n⟩
/-! ### makeSlice, of structs too -/
def mka {α : Type} (bytes : Nat) (x0 : α) (n : Int) : Option (List α) :=
 if 0 ≤ n ∧ n ≤ 1000000 ∧ (bytes : Int) * n ≤ 281474976710656 then some (List.replicate n.toNat x0) else none
theorem get_flat_rep {γ : Type} {l : List γ} {k : Nat} (hk : l.length = k) : ∀ (n j : Nat), j < n * k → (List.replicate n l).flatten[j]? = l[j % k]?
 | 0, j, h => by omega
 | n + 1, j, h => by
  rw [List.replicate_succ, List.flatten_cons, List.getElem?_append, hk]
  split
  ·rename_i hj
   rw [Nat.mod_eq_of_lt hj]
  ·rename_i hj
   have hm : j % k = (j - k) % k := Nat.mod_eq_sub_mod (by omega)
   rw [get_flat_rep hk n (j - k) (by rw [Nat.add_mul, Nat.one_mul] at h; omega), hm]
theorem made_eq {zc : Array Value} {k n : Nat} (hk : zc.size = k) : (madeCells zc (n * k)).toList = (List.replicate n zc.toList).flatten := by
 have hl : (List.replicate n zc.toList).flatten.length = n * k := by simp [hk]
 apply List.ext_getElem?
 intro j
 by_cases hj : j < n * k
 ·rw [get_flat_rep (by simpa using hk) n j hj]
  have hk0 : 0 < k := by
   rcases Nat.eq_zero_or_pos k with h0 | h0
   ·rw [h0] at hj; omega
   ·exact h0
  have hm : j % k < zc.size := by rw [hk]; exact Nat.mod_lt _ hk0
  simp only [Array.getElem?_toList]
  have hm2 : j % zc.size < zc.size := by rw [hk]; rw [hk] at hm; exact hm
  have h1 : (madeCells zc (n * k))[j]? = some (zc[j % zc.size]!) := by simp [madeCells, hj]
  rw [h1, getElem!_pos zc _ hm2, ← hk, Array.getElem?_eq_getElem hm2]
 ·rw [List.getElem?_eq_none (by simp [madeCells]; omega), List.getElem?_eq_none (by omega)]
section
variable {P : Program} {e : Env} {w : World} {g : Gh} {K : Value → World → Prop} {x y z : Operand}
theorem D_makeSliceA {α : Type} [GoT α] (i : Nat) {t et : TypeId} {zv : Value} {bytes : Nat} (x0 : α) {n : Int} {r : List α}
    (ht : P.underlying t = some (.slice et)) (hinfo : (P.info? et).map (fun i => (i.zero, i.size, i.bytes)) = some (some zv, GoT.k α, bytes)) (hk : Nat.ble (GoT.k α) 16 = true) (hz : ∀ m w, RV m w x0 zv)
    (hx : ev e x = .int .i64 n) (hy : ev e y = .int .i64 n) (hr : mka bytes x0 n = some r)
    (h : ∀ g' w' v', Stp i g w g' w' → OA i g' w' et r v' → K v' w') : Doe P (.makeSlice t x y) e w K := fun d ty pos af gd => by
  obtain ⟨ti, hi, hzz, hsz, hby⟩ := info_parts hinfo
  subst hby
  unfold mka at hr
  split at hr
  case isFalse => cases hr
  rename_i hc
  obtain rfl := Option.some.inj hr
  obtain ⟨h0, h1, h2⟩ := hc
  have hk' : GoT.k α ≤ 16 := Nat.le_of_ble_eq_true hk
  have hsz2 : n.toNat * ti.size ≤ 16777216 := by
    rw [hsz]
    calc n.toNat * GoT.k α ≤ n.toNat * 16 := Nat.mul_le_mul_left _ hk'
      _ ≤ 16777216 := by omega
  have hrun := run_makeSlice (P := P) w t et ti zv ht hi hzz .i64 .i64 n n h0 (Int.le_refl _) hsz2 h2 (by omega)
  have hrun2 : (execOp (ev e) ⟨d, .makeSlice t x y, ty, pos, af, gd⟩).run P w = .ok (.value (.slice (some ⟨w.heap.size, 0, none⟩) n.toNat n.toNat)) (w.alloc (.cells (madeCells zv.cells (n.toNat * ti.size)) et)) := by
    simp only [execOp, hx, hy, Sem.run_bind, hrun, Result.andThen_ok, Sem.run_pure]
  unfold doE; rw [hrun2]
  have hzr := RV.cells (hz g.m w)
  have hzs : zv.cells.size = GoT.k α := by simpa using GoT.len hzr
  have hcs := made_eq (n := n.toNat) hzs
  have hst := stp_new i g w (madeCells zv.cells (n.toNat * ti.size)) et 0
  refine h { m := updN g.m w.heap.size 0, o := updN g.o w.heap.size i } _ _ hst (.inr ⟨w.heap.size, n.toNat, _, by simp, updN_same _ _ _, updN_same _ _ _, heap_new_at _ _, by simp, ?_, ?_, ?_⟩)
  · simp only [maxLen]; omega
  · simp [madeCells, hsz]
  · rw [hsz] at hst ⊢
    rw [hcs, List.length_replicate, List.take_of_length_le (by simp [hzs])]
    exact (flat_replicate hzr _).ch hst.ch
end
/-! ### bits.Len of small numbers -/
section
variable {P : Program} {e : Env} {x y : Operand}
end
end Go.Proofs.YtkmbkaoolacofaaGreat
/- Steps of a walk under short names. No program is named here. -/
namespace Go.Proofs.YtkmbkaoolacofaaGreat
open Go.RowKit
section
variable {P : Program} {N : Nat} {ro : Option Nat} {Q : Post} {e : Env} {ds : List Deferred} {w : World} {ops : Array Oper} {rest : List Oper} {d : Option Tmp} {ty : TypeId} {pos : String} {af : Array Edge} {x y : Operand}
theorem EL_mv {v : Value} (hx : ev e x = v) (hd : okO N d = true) (h : EL P N ro ops rest Q (updO e d v) ds w) : EL P N ro ops (⟨d, .move x, ty, pos, af, none⟩ :: rest) Q e ds w :=
 EL_pur (P_move hx) .plain (by simpa [nodef] using hd) h
theorem EL_as {v : Value} (hx : ev e x = v) (hd : okO N d = true) (h : EL P N ro ops rest Q (updO e d v) ds w) : EL P N ro ops (⟨d, .assign x, ty, pos, af, none⟩ :: rest) Q e ds w :=
 EL_pur (P_assign hx) .plain (by simpa [nodef] using hd) h
theorem EL_mw (v : Value) (hx : ev e x = v) (hd : okO N d = true) (h : EL P N ro ops rest Q (updO e d v) ds w) : EL P N ro ops (⟨d, .move x, ty, pos, af, none⟩ :: rest) Q e ds w := EL_mv hx hd h
theorem EL_at (v : Value) (hx : ev e x = v) (hd : okO N d = true) (h : EL P N ro ops rest Q (updO e d v) ds w) : EL P N ro ops (⟨d, .assign x, ty, pos, af, none⟩ :: rest) Q e ds w := EL_as hx hd h
theorem EL_in {op : BinOp} {t t2 : TypeId} {m n : Int} (v : Value) (hx : ev e x = .int .i64 m) (hy : ev e y = .int .i64 n) (hv : iop op m n = some v) (hd : okO N d = true) (h : EL P N ro ops rest Q (updO e d v) ds w) : EL P N ro ops (⟨d, .binOp op t x y t2, ty, pos, af, none⟩ :: rest) Q e ds w :=
 EL_pur (P_int hx hy hv) .plain (by simpa [nodef] using hd) h
theorem E_ct {c : Operand} {a b : Code} {t : Bool} (ht : t = true) (hc : ev e c = .bool t) (h : E P N ro a Q e ds w) : E P N ro (.cond c a b) Q e ds w := E_cond_true (hc.trans (congrArg Value.bool ht)) h
theorem E_cf {c : Operand} {a b : Code} {t : Bool} (ht : t = false) (hc : ev e c = .bool t) (h : E P N ro b Q e ds w) : E P N ro (.cond c a b) Q e ds w := E_cond_false (hc.trans (congrArg Value.bool ht)) h
end
section
variable {SR : StepRel} {P : Program} {N : Nat} {ops : Array Oper} {C : Fact} {Φ : Words} {F : Nat → Fact} {Q : Env → Fact} {e : Env} {i : Nat} {l : List Nat} {ro : Option Nat} {R : Post} {ds : List Deferred} {w : World} {rest : List Oper}
variable {op : Op} {ty : TypeId} {pos : String} {af : Array Edge} {gd : Option (Nat × Bool)} {d : Option Tmp} {j t : Nat} {b b' c' : Bool}
theorem L_p (c : Value) (ho : ops[i]? = some ⟨d, op, ty, pos, af, none⟩) (hφ : Φ i = none) (hc : Pur P op e c)
  (k : Lex SR P ops C Φ Q l (setF F i (fun g w => ∀ j ∈ directOf ⟨d, op, ty, pos, af, none⟩, F j g w)) (updO e d c)) (hnl : SR.late i = false := by rfl) : Lex SR P ops C Φ Q (i :: l) F e :=
 L_pur (c := c) ho hφ .plain (fun _ _ _ => hc) k hnl
theorem L_y (c : Value) (ho : ops[i]? = some ⟨d, op, ty, pos, af, some (j, b)⟩) (hφ : Φ i = none) (hd : (ops[j]?).bind (·.dst) = some t) (he : e t = .bool b') (hb : b' = b) (hc : Pur P op e c)
  (k : Lex SR P ops C Φ Q l (setF F i (fun g w => ∀ j' ∈ directOf ⟨d, op, ty, pos, af, some (j, b)⟩, F j' g w)) (updO e d c)) (hnl : SR.late i = false := by rfl) : Lex SR P ops C Φ Q (i :: l) F e :=
 L_pur (c := c) ho hφ (.yes2 hd he hb) (fun _ _ _ => hc) k hnl
theorem L_s (ho : ops[i]? = some ⟨d, op, ty, pos, af, some (j, b)⟩) (hd : (ops[j]?).bind (·.dst) = some t) (he : e t = .bool b') (hb : b' = c') (hc : (c' == b) = false) (k : Lex SR P ops C Φ Q l (setF F i (fun _ _ => True)) (updO e d undef)) : Lex SR P ops C Φ Q (i :: l) F e :=
 L_skip ho (.no2 hd he hb hc) k
theorem L_nl (h : ∀ g w, C g w → Q e g w) : Lex SR P ops C Φ Q [] F e := L_nil fun g w ha => h g w ha.1
theorem EL_p (v : Value) (h1 : Pur P op e v) (hd : (nodef op && okO N d) = true) (h : EL P N ro ops rest R (updO e d v) ds w) : EL P N ro ops (⟨d, op, ty, pos, af, none⟩ :: rest) R e ds w := EL_pur h1 .plain hd h
theorem EL_y (v : Value) (h1 : Pur P op e v) (hd : (ops[j]?).bind (·.dst) = some t) (he : e t = .bool b') (hb : b' = b) (hd' : (nodef op && okO N d) = true) (h : EL P N ro ops rest R (updO e d v) ds w) : EL P N ro ops (⟨d, op, ty, pos, af, some (j, b)⟩ :: rest) R e ds w := EL_pur h1 (.yes2 hd he hb) hd' h
theorem EL_s (hd : (ops[j]?).bind (·.dst) = some t) (he : e t = .bool b') (hb : b' = c') (hc : (c' == b) = false) (hd' : okO N d = true) (h : EL P N ro ops rest R (updO e d undef) ds w) : EL P N ro ops (⟨d, op, ty, pos, af, some (j, b)⟩ :: rest) R e ds w := EL_skip (.no2 hd he hb hc) hd' h
end
section
variable {P : Program} {e : Env} {w : World} {g : Gh} {K : Value → World → Prop} {x y : Operand}
end
theorem sinj.{u} {α : Type u} {a b : α} (h : some a = some b) : a = b := Option.some.inj h
end Go.Proofs.YtkmbkaoolacofaaGreat
/- slices.Grow of nil: an own slice of nothing, with room. No program is named here. -/
namespace Go.Proofs.YtkmbkaoolacofaaGreat
open Go.RowKit Go.Lib

def grwz (bytes : Nat) (n : Int) : Option Unit :=
 if 0 < n ∧ n ≤ 4611686018427387904 ∧ (bytes : Int) * n ≤ 140737488355328 then some () else none
theorem OS.handn {α : Type} [GoT α] {j i : Nat} {g0 g : Gh} {w0 w : World} {t : TypeId} {xs : List α} {v : Value} (hfr : Fr g0 w0 g w) (h : OS (j + 1) g w t xs v) (hr : RV g.m w xs v) : ∃ g', Ext g0 w0 g' w ∧ OS i g' w t xs v ∧ RV g'.m w xs v := by
 rcases h with ⟨h1, h2⟩ | ⟨b, c, cs, hv, ho, hm, hh, hc, hcm, hcs⟩
 ·exact ⟨_, hfr.fin, .inl ⟨h1, h2⟩, by subst h2; exact h1 ▸ RV_nil⟩
 ·have hb : ¬ b < w0.heap.size := fun hb => by have := hfr.o b hb; omega
  refine ⟨{ m := g.m, o := updN (fun b => if b < w0.heap.size then g0.o b else 0) b i }, ⟨hfr.below, hfr.m, fun b' hb' => ?_⟩, .inr ⟨b, c, cs, hv, by simp [updN], hm, hh, hc, hcm, hcs⟩, hr⟩
  rw [show ({ m := g.m, o := updN (fun b => if b < w0.heap.size then g0.o b else 0) b i } : Gh).o b' = updN (fun b => if b < w0.heap.size then g0.o b else 0) b i b' from rfl, updN_ne _ _ (show b' ≠ b from fun h => hb (h ▸ hb'))]
  simp [hb']
section
variable {P : Program} {e : Env} {w : World} {g : Gh} {K : Value → World → Prop} {x y z : Operand}
theorem P_cap {t et : TypeId} {a : Option Addr} {n c : Nat} (ht : P.underlying t = some (.slice et)) (hx : ev e x = .slice a n c) :
  Pur P (.call { callee := .builtin .cap, args := #[x], argTypes := #[t] }) e (.int .i64 (c : Int)) := fun _ _ _ _ _ _ => by
 simp [execOp, resolve, invoke, builtin, Builtin.cap_, hx, run_underlying ht, goInt]
theorem P_cutN {t et : TypeId} {a : Option Addr} {n c k : Nat} {y : Operand} (ht : P.underlying t = some (.slice et)) (hs : ∀ w, (sizeOf et).run P w = .ok k w) (hx : ev e x = .slice a n c) (hy : ev e y = .int .i64 0) (ha : ∀ p, a = some p → p.add 0 = p) :
  Pur P (.slice t x none (some y) none) e (.slice a 0 c) := fun _ _ _ _ _ _ => by
 cases a with
 | none => simp [execOp, hx, hy, Instr.sliceAt, Instr.slice, run_underlying ht, Instr.sliceBounds, Instr.sliceBound, asIntOf, hs]
 | some p => simp [execOp, hx, hy, Instr.sliceAt, Instr.slice, run_underlying ht, Instr.sliceBounds, Instr.sliceBound, asIntOf, hs, ha p rfl]
theorem D_growZ {α : Type} [GoT α] (i : Nat) {t tn et : TypeId} {zv : Value} {bytes : Nat} {n : Int}
  (ht : P.underlying t = some (.slice et)) (htn : P.underlying tn = some (.int .i64)) (hinfo : (P.info? et).map (fun i => (i.zero, i.size, i.bytes)) = some (some zv, GoT.k α, bytes)) (hzs : zv.cells.size = GoT.k α) (hk : 0 < GoT.k α)
  (hx : ev e x = .slice none 0 0) (hy : ev e y = .int .i64 n) {u : Unit} (hg : grwz bytes n = some u)
  (h : ∀ g' w' b c m, Stp i g w g' w' → OS i g' w' et ([] : List α) (.slice (some ⟨b, 0, none⟩) 0 c) → RV g'.m w' ([] : List α) (.slice (some ⟨b, 0, none⟩) 0 c) → K (.slice (some ⟨b, 0, none⟩) m c) w') :
  Doe P (.call { callee := .builtin .append, args := #[x, y], argTypes := #[t, tn] }) e w K := fun d ty pos af gd => by
 obtain ⟨ti, hi, hz, hsz, hby⟩ := info_parts hinfo
 subst hby
 unfold grwz at hg
 split at hg
 case isFalse => cases hg
 rename_i hc
 obtain ⟨h0, hn, hb⟩ := hc
 obtain ⟨k, rfl⟩ := Int.eq_ofNat_of_zero_le (Int.le_of_lt h0)
 have hb' : k * ti.bytes ≤ 140737488355328 := by
  have h2 : ((ti.bytes * k : Nat) : Int) ≤ 140737488355328 := by rw [Int.natCast_mul]; exact hb
  rw [Nat.mul_comm]; omega
 have hrun := run_append_grow_zeros (P := P) w t tn ty et ti zv .i64 .i64 ht htn hi hz none 0 0 [] (run_firstCells_none w.drew ti.size 0 0 0) k (by omega) (by rw [hsz]; exact hk) (by omega) (by omega) (by omega) (by rw [Nat.zero_add]; exact growslice_fits (by omega) hb')
 simp only [Nat.zero_add] at hrun
 obtain ⟨gc, hgc⟩ : ∃ gc, gc = grownCap w k 0 et := ⟨_, rfl⟩
 have hge : k ≤ gc := hgc ▸ grownCap_ge w _ _ _
 have hle : gc ≤ maxLen := hgc ▸ grownCap_le_maxLen w k 0 et (by unfold maxLen; omega)
 rw [← hgc] at hrun
 generalize hcs : ([].toArray ++ Builtin.zeroCells zv.cells k ++ Builtin.zeroCells zv.cells (gc - k) : Array Value) = cs at hrun
 have hcsz : cs.size = gc * GoT.k α := by
  rw [← hcs]
  simp only [Array.size_append, List.size_toArray, size_zeroCells, hzs, List.length_nil, Nat.zero_add, ← Nat.add_mul]
  congr 1; omega
 have hrun2 : (execOp (ev e) ⟨d, .call { callee := .builtin .append, args := #[x, y], argTypes := #[t, tn] }, ty, pos, af, gd⟩).run P w = .ok (.value (.slice (some ⟨w.heap.size, 0, none⟩) k gc)) (w.drew.alloc (.cells cs et)) := by
  simp only [execOp, resolve, invoke, builtin, Sem.run_bind, Sem.run_pure, Result.andThen_ok, List.map_toArray, List.map_cons, List.map_nil, hx, hy, hrun]
 unfold doE; rw [hrun2]
 have hst0 := stp_new i g w.drew cs et 0
 have hst : Stp i g w { m := updN g.m w.heap.size 0, o := updN g.o w.heap.size i } (w.drew.alloc (.cells cs et)) :=
  ⟨hst0.os, hst0.tape, hst0.output, ⟨hst0.ch.size, hst0.ch.marks, hst0.ch.cells⟩, hst0.block, hst0.m, hst0.o⟩
 exact h _ _ w.heap.size gc k hst (.inr ⟨w.heap.size, gc, cs, rfl, updN_same _ _ _, by simp [updN], heap_new_at w.drew _, Nat.zero_le _, hle, hcsz⟩) (RV_list_mk rfl (Nat.zero_le _) fun h => absurd h (by simp))
end
section
variable {P : Program} {N : Nat} {w : World} {g : Gh}
end
end Go.Proofs.YtkmbkaoolacofaaGreat
/- Appends to own slices in regions that draw their order. No program is named here. -/
namespace Go.Proofs.YtkmbkaoolacofaaGreat
open Go.RowKit

section
variable {α : Type} [GoT α] {i : Nat} {et : TypeId} {xs r : List α} {u : Value} {g g' : Gh} {w w' : World}
variable {P : Program} {N : Nat}
end
end Go.Proofs.YtkmbkaoolacofaaGreat
