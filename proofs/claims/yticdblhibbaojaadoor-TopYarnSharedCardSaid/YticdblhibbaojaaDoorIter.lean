/- Ranges over functions: an iterator is a function of what its consumer does with each element. No program is named here. -/
import Derived.Test.YticdblhibbaojaaDoorOwm
import Derived.RangeFuncLeaves
namespace Go.Proofs.YticdblhibbaojaaDoor
open Go.RowKit

/-! ### Steps of another party -/
structure IStp (B : Nat) (g : Gh) (w : World) (g' : Gh) (w' : World) : Prop where
 st : Stp 0 g w g' w'
 below : Below B w w'
 m : ∀ b, b < B → g'.m b = g.m b
 o : ∀ b, b < B → g'.o b = g.o b
structure RFr (g : Gh) (w : World) (g' : Gh) (w' : World) : Prop where
 os : w'.os = w.os
 tape : w'.tape = w.tape
 output : w'.output = w.output
 ch : Ch g.m w g'.m w'
 block : ∀ b, b < w.heap.size → (g.o b = 0 ∨ g.o b = 9) → w'.heap[b]? = w.heap[b]?
 m : ∀ b, b < w.heap.size → (g.o b = 0 ∨ g.o b = 9) → g'.m b = g.m b
 o : ∀ b, b < w.heap.size → (g.o b = 0 ∨ g.o b = 9) → g'.o b = g.o b
theorem RFr.refl (g : Gh) (w : World) : RFr g w g w := ⟨rfl, rfl, rfl, Ch.refl _ _, fun _ _ _ => rfl, fun _ _ _ => rfl, fun _ _ _ => rfl⟩
theorem RFr.stp {i : Nat} {g0 g g' : Gh} {w0 w w' : World} (h : RFr g0 w0 g w) (k : Stp i g w g' w') (hi : (Nat.beq i 0 || Nat.beq i 9) = false := by rfl) : RFr g0 w0 g' w' := by
 simp only [Bool.or_eq_false_iff] at hi
 have hne : ∀ b, b < w0.heap.size → (g0.o b = 0 ∨ g0.o b = 9) → g.o b ≠ i := fun b hb h0 he => by
  rw [h.o b hb h0] at he
  rcases h0 with h0 | h0 <;> (rw [h0] at he; subst he; simp at hi)
 have hlt : ∀ b, b < w0.heap.size → b < w.heap.size := fun b hb => Nat.lt_of_lt_of_le hb h.ch.size
 exact ⟨k.os.trans h.os, k.tape.trans h.tape, k.output.trans h.output, h.ch.trans k.ch, fun b hb h0 => (k.block b (hlt b hb) (hne b hb h0)).trans (h.block b hb h0),
  fun b hb h0 => (k.m b (hlt b hb) (hne b hb h0)).trans (h.m b hb h0), fun b hb h0 => (k.o b (hlt b hb) (hne b hb h0)).trans (h.o b hb h0)⟩
theorem RFr.ext {g0 g g' : Gh} {w0 w w' : World} (h : RFr g0 w0 g w) (k : Ext g w g' w') : RFr g0 w0 g' w' := by
 have hlt : ∀ b, b < w0.heap.size → b < w.heap.size := fun b hb => Nat.lt_of_lt_of_le hb h.ch.size
 exact ⟨k.below.os.trans h.os, k.below.tape.trans h.tape, k.below.output.trans h.output, h.ch.trans k.ch, fun b hb h0 => (k.below.block b (hlt b hb)).trans (h.block b hb h0),
  fun b hb h0 => (k.m b (hlt b hb)).trans (h.m b hb h0), fun b hb h0 => (k.o b (hlt b hb)).trans (h.o b hb h0)⟩
theorem RFr.size {g0 g : Gh} {w0 w : World} (h : RFr g0 w0 g w) : w0.heap.size ≤ w.heap.size := h.ch.size

section facts
variable {α : Type} [GoT α] {B i j : Nat} {g g' : Gh} {w w' : World} {t : TypeId} {p v : Value} {x : α} {xs : List α}
end facts
theorem Fr.size {g0 g : Gh} {w0 w : World} (h : Fr g0 w0 g w) : w0.heap.size ≤ w.heap.size := h.below.size
theorem FrM.size {i : Nat} {g0 g : Gh} {w0 w : World} (h : FrM i g0 w0 g w) : w0.heap.size ≤ w.heap.size := h.ch.size

def HB (i : Nat) (g : Gh) (w : World) (b : Nat) (ob : Obj) : Prop := g.o b = i ∧ w.heap[b]? = some ob
theorem HB.ext {i b : Nat} {g g' : Gh} {w w' : World} {ob : Obj} (h : HB i g w b ob) (k : Ext g w g' w') : HB i g' w' b ob := ⟨(k.o b (lt_of_heap h.2)).trans h.1, (k.below.block b (lt_of_heap h.2)).trans h.2⟩
theorem HB.stp {i j b : Nat} {g g' : Gh} {w w' : World} {ob : Obj} (h : HB i g w b ob) (k : Stp j g w g' w') (hne : Nat.beq i j = false) : HB i g' w' b ob := by
 have hij : g.o b ≠ j := by rw [h.1]; intro he; rw [he] at hne; simp at hne
 exact ⟨(k.o b (lt_of_heap h.2) hij).trans h.1, (k.block b (lt_of_heap h.2) hij).trans h.2⟩
def Mks (g : Gh) (w : World) (ds : List Deferred) : Prop := ∀ d ∈ ds, ∃ D, d = { target := .collected D, args := #[] } ∧ HB 9 g w D (.deferred (some []))
def MksN (ds : List Deferred) : Prop := (ds.map (fun d : Deferred => d.target)).Nodup
structure MkF (g : Gh) (w : World) (ds : List Deferred) : Prop where
 mks : Mks g w ds
 nd : MksN ds
section
variable {g g' : Gh} {w w' : World} {ds : List Deferred}
theorem MkF.ext (h : MkF g w ds) (k : Ext g w g' w') : MkF g' w' ds := ⟨fun d hd => let ⟨D, h1, h2⟩ := h.mks d hd; ⟨D, h1, h2.ext k⟩, h.nd⟩
theorem MkF.stp {j : Nat} (h : MkF g w ds) (k : Stp j g w g' w') (hj : Nat.beq 9 j = false := by rfl) : MkF g' w' ds := ⟨fun d hd => let ⟨D, h1, h2⟩ := h.mks d hd; ⟨D, h1, h2.stp k hj⟩, h.nd⟩
end

/-! ### The contract of an iterator -/
abbrev Rds (α : Type) := (Nat → Nat) → World → α → Array Value → Prop
abbrev Cons (σ α : Type) := σ → α → Option (Bool × σ)
abbrev It (α : Type) := ∀ (σ : Type), Cons σ α → σ → Option σ
abbrev Inv (σ : Type) := σ → Gh → World → Prop
def Abid {σ : Type} (B : Nat) (J : Inv σ) : Prop := ∀ s g w g' w', IStp B g w g' w' → J s g w → J s g' w'
def RoundOk {σ α : Type} (P : Program) (l : Nat) (ra : Rds α) (cons : Cons σ α) (J : Inv σ) : Prop :=
 ∀ s x b s' g w vs, cons s x = some (b, s') → J s g w → ra g.m w x vs → YieldAt Fence.wide 0 P l vs w fun r w' => r = .returned (.bool b) ∧ ∃ g', RFr g w g' w' ∧ J s' g' w'
def IterC {σ α : Type} (P : Program) (ra : Rds α) (f : FuncId) (first caps : Array Value) (g : Gh) (w : World) (cons : Cons σ α) (s s' : σ) : Prop :=
 ∀ (l B : Nat) (J : Inv σ) (gC : Gh), gC.m = g.m → B ≤ w.heap.size → Abid B J → RoundOk P l ra cons J → J s gC w →
  Calls P f (first ++ #[.func (.yield l) #[] #[]] ++ caps) w fun r w' => (∃ v, r = .returned v) ∧ ∃ gC', J s' gC' w'
def ItV {α : Type} (P : Program) (ra : Rds α) (φ : It α) (v : Value) (m : Nat → Nat) (w : World) : Prop :=
 ∃ f first caps, v = .func (.func f) first caps ∧ Enters P f ∧ ∀ (g' : Gh) (w' : World), Ch m w g'.m w' → ∀ (σ : Type) (cons : Cons σ α) (s s' : σ), φ σ cons s = some s' → IterC P ra f first caps g' w' cons s s'
theorem ItV.ch {α : Type} {P : Program} {ra : Rds α} {φ : It α} {v : Value} {m m' : Nat → Nat} {w w' : World} (h : ItV P ra φ v m w) (k : Ch m w m' w') : ItV P ra φ v m' w' := by
 obtain ⟨f, a, c, h1, h2, h3⟩ := h; exact ⟨f, a, c, h1, h2, fun g'' w'' k' => h3 g'' w'' (k.trans k')⟩
section
variable {α : Type} {P : Program} {ra : Rds α} {φ : It α} {v : Value} {g g' : Gh} {w w' : World}
theorem ItV.ext (h : ItV P ra φ v g.m w) (k : Ext g w g' w') : ItV P ra φ v g'.m w' := h.ch k.ch
theorem ItV.stp {i : Nat} (h : ItV P ra φ v g.m w) (k : Stp i g w g' w') : ItV P ra φ v g'.m w' := h.ch k.ch
end

/-! ### The frame of an iterator: its consumer's state -/
structure FrY {σ : Type} (gI : Gh) (wI : World) (B : Nat) (J : Inv σ) (s : σ) (g : Gh) (w : World) : Prop where
 ch : Ch gI.m wI g.m w
 hB : B ≤ w.heap.size
 own : ∀ b, b < w.heap.size → g.o b ≠ 0 → g.o b ≠ 2 → B ≤ b
 inv : ∃ gC : Gh, gC.m = g.m ∧ (∀ b, b < w.heap.size → gC.o b ≠ 0 → g.o b = 2) ∧ J s gC w
section
variable {σ : Type} {gI : Gh} {wI : World} {B : Nat} {J : Inv σ} {s : σ} {g g' : Gh} {w w' : World}
theorem FrY.step (hJ : Abid B J) (h : FrY gI wI B J s g w) {j : Nat} (hj : j ≠ 2) (k : Stp j g w g' w') (hown : ∀ b, b < w.heap.size → g.o b = j → B ≤ b ∨ (w'.heap[b]? = w.heap[b]? ∧ g'.m b = g.m b ∧ g'.o b = g.o b)) : FrY gI wI B J s g' w' := by
 obtain ⟨gC, hm, ho, hJs⟩ := h.inv
 have hlt : ∀ b, b < B → b < w.heap.size := fun b hb => Nat.lt_of_lt_of_le hb h.hB
 have hbl : ∀ b, b < B → w'.heap[b]? = w.heap[b]? ∧ g'.m b = g.m b ∧ g'.o b = g.o b := fun b hb => by
  by_cases hbj : g.o b = j
  ·exact (hown b (hlt b hb) hbj).resolve_left (by omega)
  ·exact ⟨k.block b (hlt b hb) hbj, k.m b (hlt b hb) hbj, k.o b (hlt b hb) hbj⟩
 refine ⟨h.ch.trans k.ch, Nat.le_trans h.hB k.ch.size, fun b hb h0 h2 => ?_, { m := g'.m, o := fun b => if b < w.heap.size then gC.o b else 0 }, rfl, fun b hb h0 => ?_, ?_⟩
 ·by_cases hbB : b < B
  ·have := h.own b (hlt b hbB) (by rw [← (hbl b hbB).2.2]; exact h0) (by rw [← (hbl b hbB).2.2]; exact h2); omega
  ·omega
 ·by_cases hbw : b < w.heap.size
  ·simp only [hbw, if_true] at h0
   have h1 := ho b hbw h0
   rw [k.o b hbw (by rw [h1]; omega)]; exact h1
  ·simp [hbw] at h0
 ·refine hJ s gC w _ w' ⟨⟨k.os, k.tape, k.output, by rw [hm]; exact k.ch, fun b hb h0 => ?_, fun b hb h0 => ?_, fun b hb h0 => by simp [hb]⟩, ⟨k.os, k.tape, k.output, k.ch.size, fun b hb => (hbl b hb).1⟩, fun b hb => ?_, fun b hb => by simp [hlt b hb]⟩ hJs
  ·exact k.block b hb (by rw [ho b hb h0]; omega)
  ·show g'.m b = _; rw [hm]; exact k.m b hb (by rw [ho b hb h0]; omega)
  ·show g'.m b = _; rw [hm]; exact (hbl b hb).2.1
end
section
variable {P : Program} {e : Env} {w : World} {g : Gh} {K : Value → World → Prop} {σ α : Type} {cons : Cons σ α} {J : Inv σ} {gI : Gh} {wI : World} {B l : Nat} {s s' : σ}
end

/-! ### Ends with marks -/
end Go.Proofs.YticdblhibbaojaaDoor
