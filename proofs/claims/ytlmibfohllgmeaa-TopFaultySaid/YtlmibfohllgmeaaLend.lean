/- What is lent for a call; maps that are only read; cells of arrays by a number that varies; more of makeSlice. No program is named here. -/
import Derived.Test.YtlmibfohllgmeaaOa
import Derived.Test.YtlmibfohllgmeaaKey
namespace Go.Proofs.Ytlmibfohllgmeaa
open Go.RowKit

/-! ### Lending: all that there is may be read for the time of a call -/
section
variable {α : Type} [GoT α] {i : Nat} {g g' : Gh} {w w' : World} {t : TypeId} {x : α} {xs : List α} {p v : Value}
end
section
variable {P : Program} {e : Env} {w : World} {g : Gh} {K : Value → World → Prop} {x y z : Operand}
end

/-! ### Maps that are only read -/
section
variable {κ ν : Type} [GoT ν] {enc : κ → Value}
def MR (enc : κ → Value) (g : Gh) (w : World) (m : List (κ × ν)) (v : Value) : Prop := (v = .map none ∧ m = []) ∨ ∃ i, MP enc i g w m v
def MQ (enc : κ → Value) (n : Nat) (g : Gh) (w : World) (m : List (κ × ν)) (v : Value) : Prop := (v = .map none ∧ m = []) ∨ (MP enc 0 g w m v ∧ ∀ b, v = .map (some b) → b < n)
variable {g g' : Gh} {w w' : World} {m : List (κ × ν)} {v : Value} {i n : Nat}
theorem MR.nil : MR enc g w ([] : List (κ × ν)) (.map none) := .inl ⟨rfl, rfl⟩
theorem MP.r (h : MP enc i g w m v) : MR enc g w m v := .inr ⟨_, h⟩
theorem MQ.r (h : MQ enc n g w m v) : MR enc g w m v := h.imp id fun h => ⟨_, h.1⟩
theorem MP.lt {b : Nat} (h : MP enc i g w m (.map (some b))) : b < w.heap.size := by
 obtain ⟨b', es, cl, hv, _, hh, _⟩ := h
 injection hv with hv; injection hv with hv; subst hv
 exact Gn hh
theorem MQ.enter {g0 gI : Gh} {wI : World} (h : MR enc gI wI m v) (hm : g0.m = gI.m) (hfr : Fr gI wI g0 wI) : MQ enc wI.heap.size g0 wI m v := by
 rcases h with h | ⟨i, h⟩
 ·exact .inl h
 refine .inr ⟨?_, fun b hb => by subst hb; exact h.lt⟩
 obtain ⟨b, es, cl, hv, ho, hh, h1, h2, h3⟩ := h
 exact ⟨b, es, cl, hv, hfr.o b (Gn hh), hh, h1, h2, hm ▸ h3⟩
theorem MQ.ext (h : MQ enc n g w m v) (k : Ext g w g' w') : MQ enc n g' w' m v := h.imp id fun h => ⟨h.1.ext k, h.2⟩
theorem MQ.stp {j : Nat} (h : MQ enc n g w m v) (k : Stp (j + 1) g w g' w') : MQ enc n g' w' m v := h.imp id fun h => ⟨h.1.stp k (by cases j <;> rfl), h.2⟩
theorem MQ.ist {B : Nat} (h : MQ enc n g w m v) (k : Sr B g w g' w') (hB : n ≤ B) : MQ enc n g' w' m v := h.imp id fun ⟨h, hn⟩ => by
 refine ⟨?_, hn⟩
 obtain ⟨b, es, cl, hv, ho, hh, h1, h2, h3⟩ := h
 have hb := hn b hv
 exact ⟨b, es, cl, hv, (k.o b (by omega)).trans ho, (k.below.block b (by omega)).trans hh, h1, h2, h3.ch k.st.ch⟩
variable {P : Program} {e : Env} {K : Value → World → Prop} {x y z : Operand} [DecidableEq κ]
theorem Bx {t kt et : TypeId} {m : List (κ × ν)} {mv zv : Value} {k : κ} {z0 : ν} (ht : P.underlying t = some (.map kt et)) (hk : Uk P kt enc) (hz : ∀ w, (zeroValue et).run P w = .ok zv w) (hzr : ∀ m w, RV m w z0 zv) (hx : ev e x = mv) (hm : MR enc g w m mv) (hy : ev e y = enc k)
  (h : ∀ v, RV g.m w ((Jv m k).getD z0) v → K v w) : Doe P (.lookup t x y false) e w K := by
 rcases hm with ⟨rfl, rfl⟩ | ⟨i, hm⟩
 ·intro d ty pos af gd
  have hf := hk.2.2 k w [] [] rfl
  have hrun : (execOp (ev e) ⟨d, .lookup t x y false, ty, pos, af, gd⟩).run P w = .ok (.value zv) w := by
   simp [execOp, hx, hy, Instr.lookup, Sem.run_bind, run_underlying ht, hk.1, hf, hz]
  unfold doE; rw [hrun]
  exact h _ (hzr _ _)
 ·exact Rp ht hk hz hzr hx hm hy h
end

/-! ### Cells of an array, by a number that varies -/
section
variable {β : Type} [GoT β] {n : Nat}
variable {P : Program} {e : Env} {w : World} {g : Gh} {K : Value → World → Prop} {a1 : Operand}
end
/-! ### A pointer to an element, or nil -/
section
variable {P : Program} {e : Env} {x y : Operand}
end

/-! ### A variable that a draw makes and stores to -/
section
variable {α : Type} [GoT α] {i : Nat} {t2 : TypeId} {a0 a1 : α} {g g' : Gh} {w w' : World}
variable {P : Program} {N : Nat}
end

/-! ### A variable that holds an own slice -/
def BX {α : Type} [GoT α] (i j : Nat) (g : Gh) (w : World) (et bt : TypeId) (xs : List α) (p : Value) : Prop := ∃ q : Fv, OB i g w bt q p ∧ OM j g w et xs q.v
section
variable {α : Type} [GoT α] {i j k : Nat} {g g' : Gh} {w w' : World} {et bt : TypeId} {xs : List α} {p : Value}
theorem BX.ext (h : BX i j g w et bt xs p) (hx : Ext g w g' w') : BX i j g' w' et bt xs p := let ⟨q, h1, h2⟩ := h; ⟨q, h1.ext hx, h2.ext hx⟩
theorem BX.stp (h : BX i j g w et bt xs p) (hx : Stp k g w g' w') (h1 : Nat.beq i k = false) (h2 : Nat.beq j k = false := by rfl) : BX i j g' w' et bt xs p := let ⟨q, k1, k2⟩ := h; ⟨q, k1.stp hx h1, k2.stp hx h2⟩
theorem Ah {t : TypeId} {v : Value} (h : OM i g w t xs v) : v.oneCell' = true := by
 rcases h with ⟨rfl, _⟩ | ⟨b, c, cs, rfl, _⟩ <;> simp [Value.oneCell']
theorem OB.ofRV {q : Fv} (h : OB i g w bt q p) (hr : RV g.m w xs q.v) : OB i g w bt xs p := by
 obtain ⟨b, cs, hp, ho, hm, hh, hq⟩ := h
 refine ⟨b, cs, hp, ho, hm, hh, ?_⟩
 have hq : cs.toList = [q.v] := hq
 rw [hq]
 obtain ⟨c2, h1, h2⟩ := hr
 have h3 := GoT.len h1
 match c2, h3 with
 | [c], _ => have h2 : q.v = c := h2; rw [h2]; exact h1
variable {P : Program} {e : Env} {K : Value → World → Prop} {x y : Operand}
end
theorem Mk {m : Nat → Nat} {w : World} : RV m w (⟨.slice none 0 0, rfl⟩ : Fv) (.slice none 0 0) := Uf.2 rfl
section
variable {P : Program} {e : Env} {w : World} {g : Gh} {K : Value → World → Prop} {x y z : Operand}
theorem Lh {α : Type} [GoT α] (i : Nat) {t et : TypeId} {zv : Value} {bytes : Nat} (x0 : α) {n : Int} {r : List α} (hk : GoT.k α = 1)
  (ht : P.underlying t = some (.slice et)) (hinfo : (P.info? et).map (fun i => (i.zero, i.size, i.bytes)) = some (some zv, 1, bytes)) (hz1 : zv.cells = #[zv]) (hz : ∀ m w, GoT.rep m w x0 [zv])
  (hx : ev e x = .int .i64 n) (hy : ev e y = .int .i64 n) (hr : mks bytes x0 n = some r)
  (h : ∀ g' w' v', Ext g w g' w' → OM i g' w' et r v' → K v' w') : Doe P (.makeSlice t x y) e w K := by
 intro d ty pos af gd
 obtain ⟨ti, hi, hzz, hsz, hby⟩ := info_parts hinfo
 subst hby
 unfold mks at hr
 split at hr
 case isFalse => cases hr
 rename_i hc
 obtain rfl := Option.some.inj hr
 obtain ⟨h0, h1, h2⟩ := hc
 have hrun := run_makeSlice (P := P) w t et ti zv ht hi hzz .i64 .i64 n n h0 (Int.le_refl _) (by rw [hsz]; omega) h2 (by omega)
 have hrun2 : (execOp (ev e) ⟨d, .makeSlice t x y, ty, pos, af, gd⟩).run P w = .ok (.value (.slice (some ⟨w.heap.size, 0, none⟩) n.toNat n.toNat)) (w.alloc (.cells (madeCells zv.cells (n.toNat * ti.size)) et)) := by
  simp only [execOp, hx, hy, Sem.run_bind, hrun, Result.andThen_ok, Sem.run_pure]
 unfold doE; rw [hrun2]
 have hcs : (madeCells zv.cells (n.toNat * ti.size)).toList = List.replicate n.toNat zv := by
  rw [hz1, hsz, Nat.mul_one]
  apply List.ext_getElem
  ·simp [madeCells]
  ·intro j h1 h2; simp [madeCells, Nat.mod_one]
 refine h { m := Wx g.m w.heap.size 0, o := Wx g.o w.heap.size i } _ _ ⟨(Below.refl _ w).alloc (Nat.le_refl _) _, fun b hb => Qx _ _ (by omega), fun b hb => Qx _ _ (by omega)⟩ (.inr ⟨w.heap.size, n.toNat, _, by simp, by simp, Tw _ _ _, Tw _ _ _, CF.of (Wk _ _), ?_, ?_⟩)
 ·have := congrArg List.length hcs
  simp at this
  rw [List.length_replicate, hk, Nat.mul_one]; omega
 ·rw [hcs, List.length_replicate, hk, Nat.mul_one, List.take_of_length_le (by simp)]
  exact Rn (hz _ _) _
end

/-! ### makeSlice, of structs too -/
section
variable {P : Program} {e : Env} {w : World} {g : Gh} {K : Value → World → Prop} {x y z : Operand}
end
/-! ### bits.Len of small numbers -/
section
variable {P : Program} {e : Env} {x y : Operand}
end
end Go.Proofs.Ytlmibfohllgmeaa
