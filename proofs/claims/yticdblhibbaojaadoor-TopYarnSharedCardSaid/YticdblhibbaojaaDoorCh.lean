/- A region that draws its order, whose operations that change something come in one order: walked in the order of its text. No program is named here. -/
import Derived.Test.YticdblhibbaojaaDoorMm
namespace Go.Proofs.YticdblhibbaojaaDoor
open Go.RowKit
section
variable {P : Program} {ops : Array Oper}
variable {late : Nat → Bool} {L : World → Prop} {Q : Env → World → Prop}
structure ApartC (ops : Array Oper) (oi oj : Oper) : Prop where
 ci : clearOf ops oi oj.dst = true
 cj : clearOf ops oj oi.dst = true
 dd : ∀ d, oi.dst = some d → oj.dst ≠ some d
 si : isSel oi = false
 sj : isSel oj = false
def LTg (U : List Nat) (g0 : Gh) (w0 : World) (g : Gh) (w : World) : Prop := Ch g0.m w0 g.m w ∧ ∀ b, b < w0.heap.size → U.contains (g0.o b) = true → w.heap[b]? = w0.heap[b]? ∧ g.o b = g0.o b
section
variable {U : List Nat} {g0 g g' : Gh} {w0 w w' : World}
theorem LTg.ext (h : LTg U g0 w0 g w) (k : Ext g w g' w') : LTg U g0 w0 g' w' :=
 ⟨h.1.trans k.ch, fun b hb hu => ⟨(k.below.block b (Nat.lt_of_lt_of_le hb h.1.size)).trans (h.2 b hb hu).1, (k.o b (Nat.lt_of_lt_of_le hb h.1.size)).trans (h.2 b hb hu).2⟩⟩
theorem LTg.stp {i : Nat} (h : LTg U g0 w0 g w) (k : Stp i g w g' w') (hi : U.contains i = false := by rfl) : LTg U g0 w0 g' w' :=
 ⟨h.1.trans k.ch, fun b hb hu => by
  have hne : g.o b ≠ i := fun he => by rw [(h.2 b hb hu).2] at he; rw [he, hi] at hu; cases hu
  exact ⟨(k.block b (Nat.lt_of_lt_of_le hb h.1.size) hne).trans (h.2 b hb hu).1, (k.o b (Nat.lt_of_lt_of_le hb h.1.size) hne).trans (h.2 b hb hu).2⟩⟩
def LTw (U : List Nat) (g0 : Gh) (w0 : World) (w : World) : Prop := ∃ g, LTg U g0 w0 g w
theorem LTw.ch {w : World} (h : LTw U g0 w0 w) : ∃ g : Gh, Ch g0.m w0 g.m w := let ⟨g, h1, _⟩ := h; ⟨g, h1⟩
end
end
section
variable {P : Program} {ops : Array Oper} {late : Nat → Bool} {U : List Nat} {g0 : Gh} {w0 : World} {Q : Env → World → Prop} {i : Nat} {l : List Nat} {e : Env} {w : World} {op : Op} {ty : TypeId} {pos : String} {af : Array Edge} {gd : Option (Nat × Bool)} {d : Option Tmp}
end
theorem AL.lt {U : List Nat} {i : Nat} {g0 g : Gh} {w0 w : World} {b : Nat} {v : Value} (h : AL i g0 w0 b v) (k : LTg U g0 w0 g w) (hn : U.contains i = true) : AL i g w b v := by
 obtain ⟨cs, t, h1, h2, h3⟩ := h
 have := k.2 b (lt_of_heap h2) (by rw [h1]; exact hn)
 exact ⟨cs, t, this.2.trans h1, this.1.trans h2, h3⟩
end Go.Proofs.YticdblhibbaojaaDoor
