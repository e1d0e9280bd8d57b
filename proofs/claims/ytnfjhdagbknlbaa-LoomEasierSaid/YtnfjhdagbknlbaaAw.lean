/- Appends to a slice that lies in an own variable, in regions that draw their order. No program is named here. -/
import Derived.Test.YtnfjhdagbknlbaaOz
namespace Go.Proofs.Ytnfjhdagbknlbaa
open Go.RowKit

section
variable {P : Program} {e : Env} {w : World} {g : Gh} {K : Value → World → Prop} {x y : Operand}
end
theorem FlatR.split {α : Type} [GoT α] {m : Nat → Nat} {w : World} : ∀ {xs ys : List α} {cs : List Value}, FlatR m w (xs ++ ys) cs → ∃ o1 o2, cs = o1 ++ o2 ∧ FlatR m w xs o1 ∧ FlatR m w ys o2
 | [], _, cs, h => ⟨[], cs, rfl, rfl, h⟩
 | _ :: _, _, _, ⟨c1, _, rfl, h1, h2⟩ => by
  obtain ⟨o1, o2, rfl, k1, k2⟩ := FlatR.split h2
  exact ⟨c1 ++ o1, o2, by rw [List.append_assoc], ⟨c1, o1, rfl, h1, k1⟩, k2⟩

def AS {α : Type} [GoT α] (i : Nat) (et : TypeId) (xs r : List α) (u : Value) (g : Gh) (w : World) : Prop :=
 (RV g.m w xs u ∧ OS i g w et xs u) ∨ ∃ b c, u = .slice (some ⟨b, 0, none⟩) xs.length c ∧ RV g.m w r (.slice (some ⟨b, 0, none⟩) r.length c) ∧ OS i g w et r (.slice (some ⟨b, 0, none⟩) r.length c)
section
variable {α : Type} [GoT α] {i : Nat} {et : TypeId} {xs r : List α} {u : Value} {g g' : Gh} {w w' : World}
theorem AS.ext (h : AS i et xs r u g w) (k : Ext g w g' w') : AS i et xs r u g' w' := by
 rcases h with ⟨h1, h2⟩ | ⟨b, c, h0, h1, h2⟩
 ·exact .inl ⟨h1.ext k, h2.ext k⟩
 ·exact .inr ⟨b, c, h0, h1.ext k, h2.ext k⟩
variable {P : Program} {N : Nat}
end
theorem P_fieldAddrH {P : Program} {e : Env} {x : Operand} {b d off : Nat} {s : TypeId} {i : Nat} (hf : ∀ (a : Addr) w, (Instr.fieldAt s (.pointer (some a)) i).run P w = .ok (.pointer (some (a.add d))) w) (hx : ev e x = .pointer (some ⟨b, off, none⟩)) : Pur P (.fieldAddr s x i) e (.pointer (some ⟨b, off + d, none⟩)) :=
 P_fieldAddr hf hx ⟨_, _, rfl⟩
end Go.Proofs.Ytnfjhdagbknlbaa
/- Maps that lie in variables and behind pointers; pointers as data. No program is named here. -/
namespace Go.Proofs.Ytnfjhdagbknlbaa
open Go.RowKit
/-! ### Pointers as data -/
structure Ptr (α : Type) where
 x : α
theorem PT.one {α : Type} [GoT α] {m : Nat → Nat} {w : World} {x : α} {v : Value} (h : PT m w x v) : v.oneCell' = true := by
 obtain ⟨b, o, cs, rfl, _⟩ := h; simp [Value.oneCell']
instance {α : Type} [GoT α] : GoT (Ptr α) where
 k := 1
 agg := false
 rep m w p cs := ∃ v, cs = [v] ∧ PT m w p.x v
 len h := by obtain ⟨v, rfl, _⟩ := h; rfl
 one h := by obtain ⟨v, rfl, h⟩ := h; simpa using h.one
 mono k h := by obtain ⟨v, rfl, h⟩ := h; exact ⟨v, rfl, h.ch k⟩
 k1 _ := rfl
structure MapRef where
 deriving DecidableEq, Inhabited
instance : GoT MapRef where
 k := 1
 agg := false
 rep _ _ _ cs := ∃ b, cs = [.map b]
 len h := by obtain ⟨b, rfl⟩ := h; rfl
 one h := by obtain ⟨b, rfl⟩ := h; simp [Value.oneCell']
 mono _ h := h
 k1 _ := rfl
/-! ### A cell that stays -/
def FC (m : Nat → Nat) (w : World) (off : Nat) (v p : Value) : Prop := ∃ b o, p = .pointer (some ⟨b, o, none⟩) ∧ b < w.heap.size ∧ o + off < m b ∧ w.cell? ⟨b, o + off, none⟩ = some v
section
variable {m m' : Nat → Nat} {w w' : World} {g g' : Gh} {off : Nat} {v p : Value}
theorem FC.ch (h : FC m w off v p) (k : Ch m w m' w') : FC m' w' off v p := by
 obtain ⟨b, o, rfl, hb, hm, hc⟩ := h
 exact ⟨b, o, rfl, Nat.lt_of_lt_of_le hb k.size, Nat.lt_of_lt_of_le hm (k.marks b hb), (k.cells b hb _ hm).trans hc⟩
theorem FC.ext (h : FC g.m w off v p) (k : Ext g w g' w') : FC g'.m w' off v p := h.ch k.ch
theorem FC.stp {i : Nat} (h : FC g.m w off v p) (k : Stp i g w g' w') : FC g'.m w' off v p := h.ch k.ch
end
section
variable {P : Program} {e : Env} {w : World} {g : Gh} {K : Value → World → Prop} {x y : Operand} {off : Nat} {u p : Value} {t : TypeId}
end
/-! ### Maps in variables -/
section
variable {κ ν : Type} [GoT ν] {enc : κ → Value} {i j k : Nat} {g g' : Gh} {w w' : World} {bt : TypeId} {xs : List (κ × ν)} {p v : Value}
def BM (enc : κ → Value) (i j : Nat) (g : Gh) (w : World) (bt : TypeId) (xs : List (κ × ν)) (p : Value) : Prop := ∃ q : Fv, OB i g w bt q p ∧ MP enc j g w xs q.v
theorem BM.ext (h : BM enc i j g w bt xs p) (hx : Ext g w g' w') : BM enc i j g' w' bt xs p := let ⟨q, h1, h2⟩ := h; ⟨q, h1.ext hx, h2.ext hx⟩
theorem BM.stp (h : BM enc i j g w bt xs p) (hx : Stp k g w g' w') (h1 : Nat.beq i k = false) (h2 : Nat.beq j k = false := by rfl) : BM enc i j g' w' bt xs p := let ⟨q, k1, k2⟩ := h; ⟨q, k1.stp hx h1, k2.stp hx h2⟩
end
end Go.Proofs.Ytnfjhdagbknlbaa
/- A region that draws its order, whose operations that change something come in one order: walked in the order of its text. No program is named here. -/
namespace Go.Proofs.Ytnfjhdagbknlbaa
open Go.RowKit
section
variable {P : Program} {ops : Array Oper}
variable {late : Nat → Bool} {L : World → Prop} {Q : Env → World → Prop}
structure ApartC (ops : Array Oper) (oi oj : Oper) : Prop where
 ci : clearOf ops oi oj.dst = true
 cj : clearOf ops oj oi.dst = true
 dd : ∀ d, oi.dst = some d → oj.dst ≠ some d
 si : isSel oi = false
 sj : isSel oj = false
def chOk (N : Nat) (ops : Array Oper) (n : Nat) (late : List Nat) : Bool :=
 Nat.ble n ops.size &&
 (List.range ops.size).all (fun j => okO N (opAt ops j).dst && !isSel (opAt ops j) && (directOf (opAt ops j)).all (fun k => Nat.blt k j)) &&
 (List.range n).all (fun j => (List.range j).all fun i => reach ops ops.size j i || (apartB ops (opAt ops i) (opAt ops j) && (late.contains i || late.contains j))) &&
 (List.range ops.size).all (fun s => Nat.blt s n || (List.range s).all fun k => reach ops ops.size s k)
def LTg (U : List Nat) (g0 : Gh) (w0 : World) (g : Gh) (w : World) : Prop := Ch g0.m w0 g.m w ∧ ∀ b, b < w0.heap.size → U.contains (g0.o b) = true → w.heap[b]? = w0.heap[b]? ∧ g.o b = g0.o b
section
variable {U : List Nat} {g0 g g' : Gh} {w0 w w' : World}
theorem LTg.start : LTg U g0 w0 g0 w0 := ⟨Ch.refl _ _, fun _ _ _ => ⟨rfl, rfl⟩⟩
theorem LTg.ext (h : LTg U g0 w0 g w) (k : Ext g w g' w') : LTg U g0 w0 g' w' :=
 ⟨h.1.trans k.ch, fun b hb hu => ⟨(k.below.block b (Nat.lt_of_lt_of_le hb h.1.size)).trans (h.2 b hb hu).1, (k.o b (Nat.lt_of_lt_of_le hb h.1.size)).trans (h.2 b hb hu).2⟩⟩
theorem LTg.stp {i : Nat} (h : LTg U g0 w0 g w) (k : Stp i g w g' w') (hi : U.contains i = false := by rfl) : LTg U g0 w0 g' w' :=
 ⟨h.1.trans k.ch, fun b hb hu => by
  have hne : g.o b ≠ i := fun he => by rw [(h.2 b hb hu).2] at he; rw [he, hi] at hu; cases hu
  exact ⟨(k.block b (Nat.lt_of_lt_of_le hb h.1.size) hne).trans (h.2 b hb hu).1, (k.o b (Nat.lt_of_lt_of_le hb h.1.size) hne).trans (h.2 b hb hu).2⟩⟩
def LTw (U : List Nat) (g0 : Gh) (w0 : World) (w : World) : Prop := ∃ g, LTg U g0 w0 g w
theorem LTg.toW (h : LTg U g0 w0 g w) : LTw U g0 w0 w := ⟨_, h⟩
theorem LTw.blk {w : World} {n : Nat} (h : LTw U g0 w0 w) (hn : U.contains n = true := by rfl) : ∃ g : Gh, Ch g0.m w0 g.m w ∧ ∀ b, b < w0.heap.size → g0.o b = n → w.heap[b]? = w0.heap[b]? := let ⟨g, h1, h2⟩ := h; ⟨g, h1, fun b hb ho => (h2 b hb (by rw [ho]; exact hn)).1⟩
theorem LTw.ch {w : World} (h : LTw U g0 w0 w) : ∃ g : Gh, Ch g0.m w0 g.m w := let ⟨g, h1, _⟩ := h; ⟨g, h1⟩
end
end
section
variable {P : Program} {ops : Array Oper} {late : Nat → Bool} {U : List Nat} {g0 : Gh} {w0 : World} {Q : Env → World → Prop} {i : Nat} {l : List Nat} {e : Env} {w : World} {op : Op} {ty : TypeId} {pos : String} {af : Array Edge} {gd : Option (Nat × Bool)} {d : Option Tmp}
end
theorem AL.lt {U : List Nat} {i : Nat} {g0 g : Gh} {w0 w : World} {b : Nat} {v : Value} (h : AL i g0 w0 b v) (k : LTg U g0 w0 g w) (hn : U.contains i = true) : AL i g w b v := by
 obtain ⟨cs, t, h1, h2, h3⟩ := h
 have := k.2 b (lt_of_heap h2) (by rw [h1]; exact hn)
 exact ⟨cs, t, this.2.trans h1, this.1.trans h2, h3⟩
end Go.Proofs.Ytnfjhdagbknlbaa
/- Appends of own rows to an own slice of slices. No program is named here. -/
namespace Go.Proofs.Ytnfjhdagbknlbaa
open Go.RowKit
section
variable {γ : Type} [GoT γ] {E : Ow γ} {P : Program} {m : Nat → Nat} {w : World} {g : Gh} {e : Env} {K : Value → World → Prop} {x y : Operand}
end
end Go.Proofs.Ytnfjhdagbknlbaa
