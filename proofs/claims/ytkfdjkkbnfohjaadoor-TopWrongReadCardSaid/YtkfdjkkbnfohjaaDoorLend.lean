/- What is lent for a call; maps that are only read; cells of arrays by a number that varies; more of makeSlice. No program is named here. -/
import Derived.Test.YtkfdjkkbnfohjaaDoorOa
import Derived.Test.YtkfdjkkbnfohjaaDoorKey
namespace Go.Proofs.YtkfdjkkbnfohjaaDoor
open Go.RowKit

/-! ### Lending: all that there is may be read for the time of a call -/
def allM (w : World) (m : Nat → Nat) : Nat → Nat := fun b => match w.heap[b]? with
 | some (.cells cs _ _) => if m b < cs.size then cs.size else m b
 | _ => m b
theorem allM_le (w : World) (m : Nat → Nat) (b : Nat) : m b ≤ allM w m b := by
 unfold allM
 split
 ·split <;> omega
 ·exact Nat.le_refl _
theorem allM_cells {w : World} {m : Nat → Nat} {b : Nat} {cs : Array Value} {t : TypeId} {fr : Nat × Nat} (h : w.heap[b]? = some (.cells cs t fr)) : cs.size ≤ allM w m b := by
 unfold allM
 rw [h]
 simp only
 split <;> omega
theorem ch_all (m : Nat → Nat) (w : World) : Ch m w (allM w m) w := ⟨Nat.le_refl _, fun b _ => allM_le w m b, fun _ _ _ _ => rfl⟩
def lent (g : Gh) (w : World) : Gh := { m := allM w g.m, o := g.o }
section
variable {α : Type} [GoT α] {i : Nat} {g g' : Gh} {w w' : World} {t : TypeId} {x : α} {xs : List α} {p v : Value}
theorem OB.lent (h : OB i g w t x p) : PT (allM w g.m) w x p := by
 obtain ⟨b, cs, rfl, ho, hm, hh, hr⟩ := h
 have hl := GoT.len hr
 refine ⟨b, 0, cs.toList, rfl, lt_of_heap hh, ?_, GoT.mono (ch_all _ _) hr, fun j c hj => ?_⟩
 ·have := allM_cells (m := g.m) hh
  have h2 : cs.size = GoT.k α := by simpa using hl
  omega
 ·rw [Nat.zero_add]; simp only [World.cell?, hh]; simpa using hj
end
section
variable {P : Program} {e : Env} {w : World} {g : Gh} {K : Value → World → Prop} {x y z : Operand}
theorem unlend {g : Gh} {w : World} {g1 : Gh} {w' : World} (hx : Ext (lent g w) w g1 w') : Ext g w { m := fun b => if b < w.heap.size then g.m b else g1.m b, o := g1.o } w' :=
 ⟨hx.below, fun b hb => by simp [hb], hx.o⟩
theorem D_callF {f : FuncId} {xs : List Operand} {vs : List Value} {ats : Array TypeId} {R : Value → Prop} (hent : Enters P f) (ha : Args e xs vs)
  (hc : Fn P f vs.toArray (lent g w) w (fun _ _ v => R v)) (h : ∀ g' w' v, Ext g w g' w' → R v → K v w') : Doe P (.call { callee := .value (.func f), args := xs.toArray, argTypes := ats }) e w K :=
 D_call (g := lent g w) hent ha hc fun _ _ _ hx hr => h _ _ _ (unlend hx) hr
end

/-! ### Maps that are only read -/
section
variable {κ ν : Type} [GoT ν] {enc : κ → Value}
def MR (enc : κ → Value) (g : Gh) (w : World) (m : List (κ × ν)) (v : Value) : Prop := (v = .map none ∧ m = []) ∨ ∃ i, MP enc i g w m v
def MQ (enc : κ → Value) (n : Nat) (g : Gh) (w : World) (m : List (κ × ν)) (v : Value) : Prop := (v = .map none ∧ m = []) ∨ (MP enc 0 g w m v ∧ ∀ b, v = .map (some b) → b < n)
variable {g g' : Gh} {w w' : World} {m : List (κ × ν)} {v : Value} {i n : Nat}
theorem MR.nil : MR enc g w ([] : List (κ × ν)) (.map none) := .inl ⟨rfl, rfl⟩
theorem MP.r (h : MP enc i g w m v) : MR enc g w m v := .inr ⟨_, h⟩
theorem MQ.r (h : MQ enc n g w m v) : MR enc g w m v := h.imp id fun h => ⟨_, h.1⟩
theorem MP.lt {b : Nat} (h : MP enc i g w m (.map (some b))) : b < w.heap.size := by
 obtain ⟨b', es, cl, hv, _, hh, _⟩ := h
 injection hv with hv; injection hv with hv; subst hv
 exact lt_of_heap hh
theorem MQ.ext (h : MQ enc n g w m v) (k : Ext g w g' w') : MQ enc n g' w' m v := h.imp id fun h => ⟨h.1.ext k, h.2⟩
theorem MQ.stp {j : Nat} (h : MQ enc n g w m v) (k : Stp (j + 1) g w g' w') : MQ enc n g' w' m v := h.imp id fun h => ⟨h.1.stp k (by cases j <;> rfl), h.2⟩
variable {P : Program} {e : Env} {K : Value → World → Prop} {x y z : Operand} [DecidableEq κ]
end

/-! ### Cells of an array, by a number that varies -/
section
variable {β : Type} [GoT β] {n : Nat}
def vset {β : Type} {n : Nat} (v : Vector β n) (i : Int) (y : β) : Vector β n := v.setIfInBounds i.toNat y
def vat {β : Type} {n : Nat} (i : Nat) (h : i < n) (v : Vector β n) : β := v[i]
omit [GoT β] in
theorem vat_idx {v : Vector β n} {i : Int} {a : β} (h : idx v.toList i = some a) : ∃ hi : i.toNat < n, vat i.toNat hi v = a := let ⟨_, hi, h⟩ := vec_idx h; ⟨hi, h⟩
theorem SubS.dyn {i : Int} (hi : i.toNat < n) : SubS (α := Vector β n) (i.toNat * GoT.k β) (vat i.toNat hi) (fun v y => vset v i y) := by
 have h := SubS.vec (β := β) hi
 refine ⟨h.1, fun m w x y cs cy hx hy => ?_⟩
 have := h.2 m w x y cs cy hx hy
 have he : vset x i y = x.set i.toNat y hi := by
  unfold vset
  apply Vector.ext
  intro j hj
  simp [Vector.getElem_setIfInBounds, Vector.getElem_set]
 show GoT.rep m w (vset x i y) _
 rw [he]; exact this
variable {P : Program} {e : Env} {w : World} {g : Gh} {K : Value → World → Prop} {a1 : Operand}
end
theorem P_nilCk {P : Program} {e : Env} {x : Operand} {a : Addr} {p : Value} (hx : ev e x = p) (hp : p = .pointer (some a)) : Pur P (.nilCheck x) e p := by subst hp; exact P_nilCheck hx
/-! ### A pointer to an element, or nil -/
section
variable {P : Program} {e : Env} {x y : Operand}
end

/-! ### A variable that a draw makes and stores to -/
section
variable {α : Type} [GoT α] {i : Nat} {t2 : TypeId} {a0 a1 : α} {g g' : Gh} {w w' : World}
variable {P : Program} {N : Nat}
end

/-! ### A variable that holds an own slice -/
def BX {α : Type} [GoT α] (i j : Nat) (g : Gh) (w : World) (et bt : TypeId) (xs : List α) (p : Value) : Prop := ∃ q : Fv, OB i g w bt q p ∧ OM j g w et xs q.v
section
variable {α : Type} [GoT α] {i j k : Nat} {g g' : Gh} {w w' : World} {et bt : TypeId} {xs : List α} {p : Value}
theorem BX.ext (h : BX i j g w et bt xs p) (hx : Ext g w g' w') : BX i j g' w' et bt xs p := let ⟨q, h1, h2⟩ := h; ⟨q, h1.ext hx, h2.ext hx⟩
theorem BX.stp (h : BX i j g w et bt xs p) (hx : Stp k g w g' w') (h1 : Nat.beq i k = false) (h2 : Nat.beq j k = false := by rfl) : BX i j g' w' et bt xs p := let ⟨q, k1, k2⟩ := h; ⟨q, k1.stp hx h1, k2.stp hx h2⟩
theorem BX.ist {B : Nat} (h : BX i j g w et bt xs p) (hx : IStp B g w g' w') (h1 : Nat.beq i 0 = false := by rfl) (h2 : Nat.beq j 0 = false := by rfl) : BX i j g' w' et bt xs p := let ⟨q, k1, k2⟩ := h; ⟨q, k1.stp hx.st h1, k2.stp hx.st h2⟩
theorem om_one {t : TypeId} {v : Value} (h : OM i g w t xs v) : v.oneCell' = true := by
 rcases h with ⟨rfl, _⟩ | ⟨b, c, cs, rfl, _⟩ <;> simp [Value.oneCell']
theorem OB.ofRV {q : Fv} (h : OB i g w bt q p) (hr : RV g.m w xs q.v) : OB i g w bt xs p := by
 obtain ⟨b, cs, hp, ho, hm, hh, hq⟩ := h
 refine ⟨b, cs, hp, ho, hm, hh, ?_⟩
 have hq : cs.toList = [q.v] := hq
 rw [hq]
 obtain ⟨c2, h1, h2⟩ := hr
 have h3 := GoT.len h1
 match c2, h3 with
 | [c], _ => have h2 : q.v = c := h2; rw [h2]; exact h1
variable {P : Program} {e : Env} {K : Value → World → Prop} {x y : Operand}
theorem D_storeO2 {α β : Type} [GoT α] [GoT β] {i : Nat} {t t2 : TypeId} {p v : Value} {a : α} {b : β} (hk : GoT.k α = GoT.k β) (hs : ∀ w, (sizeOf t).run P w = .ok (GoT.k β) w) (hx : ev e x = p) (hp : OB i g w t2 a p) (hy : ev e y = v) (hv : RV g.m w b v)
  (h : ∀ g' w', Stp i g w g' w' → OB i g' w' t2 b p → K undef w') : Doe P (.store t x y) e w K := fun d ty pos af gd => by
 obtain ⟨bl, cs, rfl, ho, hm, hh, hr⟩ := hp
 have hsz := cells_size hv
 have hl := GoT.len hr
 have hrow : cs.toList.take 0 ++ v.cells.toList ++ cs.toList.drop (0 + v.cells.size) = v.cells.toList := by
  rw [List.take_zero, List.nil_append, List.drop_of_length_le (by simp at hl; simp; omega), List.append_nil]
 have hrun := storeVar_run (P := P) (t := t) (v := v) (b := bl) (o := 0) (by rw [hsz]; exact hs) hh (by simp at hl; omega) (GoT.one hv.cells)
 rw [hrow] at hrun
 have hstp : Stp i g w g (w.setRow bl v.cells.toList.toArray) := stp_row hh ho (fun j hj => by rw [hm] at hj; omega)
 have hrun2 : (execOp (ev e) ⟨d, .store t x y, ty, pos, af, gd⟩).run P w = .ok .skip (w.setRow bl v.cells.toList.toArray) := by
  simp [execOp, hx, hy, Instr.storeAt, Instr.sureAddr, Result.andThen, hrun]
 unfold doE; rw [hrun2]
 exact h g _ hstp ⟨bl, _, rfl, ho, hm, setRow_cells _ _ hh, by simpa using GoT.mono hstp.ch hv.cells⟩
end
theorem fv0_rep {m : Nat → Nat} {w : World} : RV m w (⟨.slice none 0 0, rfl⟩ : Fv) (.slice none 0 0) := RV_fv.2 rfl
section
variable {P : Program} {e : Env} {w : World} {g : Gh} {K : Value → World → Prop} {x y z : Operand}
end

theorem flat_replicate {α : Type} [GoT α] {m : Nat → Nat} {w : World} {x : α} {cs : List Value} (h : GoT.rep m w x cs) : ∀ n : Nat, FlatR m w (List.replicate n x) (List.replicate n cs).flatten
 | 0 => rfl
 | n + 1 => ⟨cs, (List.replicate n cs).flatten, rfl, h, flat_replicate h n⟩
theorem rep_replicate {α : Type} [GoT α] {n : Nat} {m : Nat → Nat} {w : World} {x : α} {cs : List Value} (h : GoT.rep m w x cs) : GoT.rep m w (Vector.replicate n x) (List.replicate n cs).flatten := by
 have := rep_vec (n := n) (flat_replicate h n) (by simp)
 have he : (⟨(List.replicate n x).toArray, by simp⟩ : Vector α n) = Vector.replicate n x := by
  apply Vector.toList_inj.1; simp [Vector.toList]
 rw [he] at this; exact this

/-! ### makeSlice, of structs too -/
section
variable {P : Program} {e : Env} {w : World} {g : Gh} {K : Value → World → Prop} {x y z : Operand}
end
/-! ### bits.Len of small numbers -/
section
variable {P : Program} {e : Env} {x y : Operand}
end
end Go.Proofs.YtkfdjkkbnfohjaaDoor
