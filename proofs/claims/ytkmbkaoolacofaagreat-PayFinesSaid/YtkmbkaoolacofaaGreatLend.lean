/- Own slices that are both written in place and appended to. No program is named here. -/
import Derived.Test.YtkmbkaoolacofaaGreatNest
import Derived.Test.YtkmbkaoolacofaaGreatDead
import Derived.Test.YtkmbkaoolacofaaGreatKey
namespace Go.Proofs.YtkmbkaoolacofaaGreat
open Go.RowKit

def OA {α : Type} [GoT α] (i : Nat) (g : Gh) (w : World) (t : TypeId) (xs : List α) (v : Value) : Prop :=
 (v = .slice none 0 0 ∧ xs = []) ∨
 ∃ b c cs, v = .slice (some ⟨b, 0, none⟩) xs.length c ∧ g.o b = i ∧ g.m b = 0 ∧ w.heap[b]? = some (.cells cs t (0, 0)) ∧ xs.length ≤ c ∧ c ≤ maxLen ∧ cs.size = c * GoT.k α ∧ FlatR g.m w xs (cs.toList.take (xs.length * GoT.k α))
section
variable {α : Type} [GoT α] {i j : Nat} {g g' : Gh} {w w' : World} {t : TypeId} {xs : List α} {v : Value}
theorem OA.nil : OA i g w t ([] : List α) (.slice none 0 0) := .inl ⟨rfl, rfl⟩
theorem OA.ext (h : OA i g w t xs v) (k : Ext g w g' w') : OA i g' w' t xs v := by
 rcases h with h | ⟨b, c, cs, hp, ho, hm, hh, h1, h2, h3, hf⟩
 ·exact .inl h
 have hb := lt_of_heap hh
 exact .inr ⟨b, c, cs, hp, (k.o b hb).trans ho, (k.m b hb).trans hm, (k.below.block b hb).trans hh, h1, h2, h3, hf.ch k.ch⟩
theorem OA.stp (h : OA i g w t xs v) (k : Stp j g w g' w') (hne : Nat.beq i j = false) : OA i g' w' t xs v := by
 rcases h with h | ⟨b, c, cs, hp, ho, hm, hh, h1, h2, h3, hf⟩
 ·exact .inl h
 have hb := lt_of_heap hh
 have hij : g.o b ≠ j := by rw [ho]; intro he; rw [he] at hne; simp at hne
 exact .inr ⟨b, c, cs, hp, (k.o b hb hij).trans ho, (k.m b hb hij).trans hm, (k.block b hb hij).trans hh, h1, h2, h3, hf.ch k.ch⟩
end
section
variable {P : Program} {e : Env} {w : World} {g : Gh} {K : Value → World → Prop} {x y z : Operand}
end
/-! ### A field of an element -/
theorem FlatR.at {α : Type} [GoT α] {m : Nat → Nat} {w : World} : ∀ {xs : List α} {cs : List Value}, FlatR m w xs cs → ∀ {i : Nat} {x : α}, xs[i]? = some x → GoT.rep m w x ((cs.drop (i * GoT.k α)).take (GoT.k α))
 | [], _, _, i, x, h => by simp at h
 | y :: ys, cs, ⟨c1, c2, he, h1, h2⟩, 0, x, h => by
  simp at h; subst h; subst he
  rw [Nat.zero_mul, List.drop_zero, List.take_left' (GoT.len h1)]
  exact h1
 | y :: ys, cs, ⟨c1, c2, he, h1, h2⟩, i + 1, x, h => by
  subst he
  have := FlatR.at h2 (i := i) (x := x) (by simpa using h)
  rw [Nat.add_mul, Nat.one_mul, Nat.add_comm, ← List.drop_drop, List.drop_left' (GoT.len h1)]
  exact this
section
variable {P : Program} {e : Env} {w : World} {g : Gh} {K : Value → World → Prop} {x y z : Operand}
end
end Go.Proofs.YtkmbkaoolacofaaGreat
/- What is lent for a call; maps that are only read; cells of arrays by a number that varies; more of makeSlice. No program is named here. -/
namespace Go.Proofs.YtkmbkaoolacofaaGreat
open Go.RowKit

/-! ### Lending: all that there is may be read for the time of a call -/
section
variable {α : Type} [GoT α] {i : Nat} {g g' : Gh} {w w' : World} {t : TypeId} {x : α} {xs : List α} {p v : Value}
end
section
variable {P : Program} {e : Env} {w : World} {g : Gh} {K : Value → World → Prop} {x y z : Operand}
end

/-! ### Maps that are only read -/
section
variable {κ ν : Type} [GoT ν] {enc : κ → Value}
def MR (enc : κ → Value) (g : Gh) (w : World) (m : List (κ × ν)) (v : Value) : Prop := (v = .map none ∧ m = []) ∨ ∃ i, MP enc i g w m v
def MQ (enc : κ → Value) (n : Nat) (g : Gh) (w : World) (m : List (κ × ν)) (v : Value) : Prop := (v = .map none ∧ m = []) ∨ (MP enc 0 g w m v ∧ ∀ b, v = .map (some b) → b < n)
variable {g g' : Gh} {w w' : World} {m : List (κ × ν)} {v : Value} {i n : Nat}
theorem MR.nil : MR enc g w ([] : List (κ × ν)) (.map none) := .inl ⟨rfl, rfl⟩
theorem MP.r (h : MP enc i g w m v) : MR enc g w m v := .inr ⟨_, h⟩
theorem MQ.r (h : MQ enc n g w m v) : MR enc g w m v := h.imp id fun h => ⟨_, h.1⟩
theorem MP.lt {b : Nat} (h : MP enc i g w m (.map (some b))) : b < w.heap.size := by
 obtain ⟨b', es, cl, hv, _, hh, _⟩ := h
 injection hv with hv; injection hv with hv; subst hv
 exact lt_of_heap hh
theorem MQ.enter {g0 gI : Gh} {wI : World} (h : MR enc gI wI m v) (hm : g0.m = gI.m) (hfr : Fr gI wI g0 wI) : MQ enc wI.heap.size g0 wI m v := by
 rcases h with h | ⟨i, h⟩
 ·exact .inl h
 refine .inr ⟨?_, fun b hb => by subst hb; exact h.lt⟩
 obtain ⟨b, es, cl, hv, ho, hh, h1, h2, h3⟩ := h
 exact ⟨b, es, cl, hv, hfr.o b (lt_of_heap hh), hh, h1, h2, hm ▸ h3⟩
theorem MQ.ext (h : MQ enc n g w m v) (k : Ext g w g' w') : MQ enc n g' w' m v := h.imp id fun h => ⟨h.1.ext k, h.2⟩
theorem MQ.stp {j : Nat} (h : MQ enc n g w m v) (k : Stp (j + 1) g w g' w') : MQ enc n g' w' m v := h.imp id fun h => ⟨h.1.stp k (by cases j <;> rfl), h.2⟩
variable {P : Program} {e : Env} {K : Value → World → Prop} {x y z : Operand} [DecidableEq κ]
end

/-! ### Cells of an array, by a number that varies -/
section
variable {β : Type} [GoT β] {n : Nat}
variable {P : Program} {e : Env} {w : World} {g : Gh} {K : Value → World → Prop} {a1 : Operand}
end
/-! ### A pointer to an element, or nil -/
section
variable {P : Program} {e : Env} {x y : Operand}
end

/-! ### A variable that a draw makes and stores to -/
section
variable {α : Type} [GoT α] {i : Nat} {t2 : TypeId} {a0 a1 : α} {g g' : Gh} {w w' : World}
variable {P : Program} {N : Nat}
end

/-! ### A variable that holds an own slice -/
def BX {α : Type} [GoT α] (i j : Nat) (g : Gh) (w : World) (et bt : TypeId) (xs : List α) (p : Value) : Prop := ∃ q : Fv, OB i g w bt q p ∧ OM j g w et xs q.v
section
variable {α : Type} [GoT α] {i j k : Nat} {g g' : Gh} {w w' : World} {et bt : TypeId} {xs : List α} {p : Value}
theorem BX.ext (h : BX i j g w et bt xs p) (hx : Ext g w g' w') : BX i j g' w' et bt xs p := let ⟨q, h1, h2⟩ := h; ⟨q, h1.ext hx, h2.ext hx⟩
theorem BX.stp (h : BX i j g w et bt xs p) (hx : Stp k g w g' w') (h1 : Nat.beq i k = false) (h2 : Nat.beq j k = false := by rfl) : BX i j g' w' et bt xs p := let ⟨q, k1, k2⟩ := h; ⟨q, k1.stp hx h1, k2.stp hx h2⟩
variable {P : Program} {e : Env} {K : Value → World → Prop} {x y : Operand}
end
section
variable {P : Program} {e : Env} {w : World} {g : Gh} {K : Value → World → Prop} {x y z : Operand}
end

/-! ### makeSlice, of structs too -/
section
variable {P : Program} {e : Env} {w : World} {g : Gh} {K : Value → World → Prop} {x y z : Operand}
end
/-! ### bits.Len of small numbers -/
section
variable {P : Program} {e : Env} {x y : Operand}
def u8shr (c : UInt8) (n : Int) : Option UInt8 := if n < 0 then none else some (UInt8.ofNat (c.toNat / 2 ^ (min n.toNat 8)))
theorem P_shr8 {t t2 : TypeId} {c v : UInt8} {n : Int} {k : IntKind} (hx : ev e x = .int .u8 c.toNat) (hy : ev e y = .int k n) (hv : u8shr c n = some v) : Pur P (.binOp .shr t x y t2) e (.int .u8 v.toNat) :=
 P_bin hx hy (fun w => eqGuard_int w) fun w => by
  unfold u8shr at hv
  split at hv
  ·cases hv
  ·rename_i hn
   injection hv with hv; subst hv
   have h1 : c.toNat / 2 ^ (min n.toNat 8) < 256 := Nat.lt_of_le_of_lt (Nat.div_le_self _ _) c.toNat_lt
   have h2 : ((c.toNat : Int)).fdiv (2 ^ (min n.toNat 8)) = ((c.toNat / 2 ^ (min n.toNat 8) : Nat) : Int) := by
    rw [Int.fdiv_eq_ediv_of_nonneg _ (Int.pow_nonneg (by decide))]
    simp
   have h3 : (UInt8.ofNat (c.toNat / 2 ^ (min n.toNat 8))).toNat = c.toNat / 2 ^ (min n.toNat 8) := by
    rw [UInt8.toNat_ofNat']; exact Nat.mod_eq_of_lt h1
   rw [h3, ← h2]
   simp only [binOp, Op.shift, if_neg hn]; rfl
theorem P_and8 {t t2 : TypeId} {c d : UInt8} (hx : ev e x = .int .u8 c.toNat) (hy : ev e y = .int .u8 d.toNat) : Pur P (.binOp .and t x y t2) e (.int .u8 (c &&& d).toNat) :=
 P_bin hx hy (fun w => eqGuard_int w) fun w => by
  have h1 : (BitVec.ofInt 8 (c.toNat : Int) &&& BitVec.ofInt 8 (d.toNat : Int)).toNat = (c &&& d).toNat := by
   rw [UInt8.toNat_and]
   simp [BitVec.toNat_and]
  have h2 : IntKind.u8.wrap ((c &&& d).toNat : Int) = ((c &&& d).toNat : Int) := by
   rw [wrap_u8]; have := (c &&& d).toNat_lt; omega
  have h3 : (binOp .and t (.int .u8 c.toNat) (.int .u8 d.toNat)).run P w = .ok (.int .u8 (IntKind.u8.wrap ((BitVec.ofInt 8 (c.toNat : Int) &&& BitVec.ofInt 8 (d.toNat : Int)).toNat : Int))) w := by
   simp only [binOp, ne_eq, not_true_eq_false, if_false, Op.intBits]; rfl
  rw [h3, h1, h2]
end
end Go.Proofs.YtkmbkaoolacofaaGreat
