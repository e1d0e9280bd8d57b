/- Slices that a function owns and writes in place. No program is named here. -/
import Derived.Test.YtkmbkaoolacofaaGreatGen
import Derived.ChangeKeysEq
import Derived.RangeFuncLeaves
namespace Go.Proofs.YtkmbkaoolacofaaGreat
open Go.RowKit

theorem FlatR.set {α : Type} [GoT α] {m : Nat → Nat} {w : World} : ∀ {xs : List α} {cs : List Value}, FlatR m w xs cs → ∀ {i : Nat}, i < xs.length → ∀ {y : α} {cy : List Value}, GoT.rep m w y cy →
  FlatR m w (xs.set i y) (cs.take (i * GoT.k α) ++ cy ++ cs.drop (i * GoT.k α + GoT.k α))
 | [], _, _, _, hi, _, _, _ => absurd hi (by simp)
 | x :: xs, _, ⟨c1, c2, rfl, h1, h2⟩, 0, _, y, cy, hy => by
  have hl := GoT.len h1
  refine ⟨cy, c2, ?_, hy, h2⟩
  rw [Nat.zero_mul, Nat.zero_add, List.take_zero, List.nil_append, ← hl, List.drop_left']
  rfl
 | x :: xs, _, ⟨c1, c2, rfl, h1, h2⟩, i + 1, hi, y, cy, hy => by
  have hl := GoT.len h1
  refine ⟨c1, c2.take (i * GoT.k α) ++ cy ++ c2.drop (i * GoT.k α + GoT.k α), ?_, h1, FlatR.set h2 (by simpa using hi) hy⟩
  have e1 : (i + 1) * GoT.k α = c1.length + i * GoT.k α := by rw [hl, Nat.add_mul, Nat.one_mul, Nat.add_comm]
  rw [e1, List.take_length_add_append, Nat.add_assoc, List.drop_length_add_append]
  simp only [List.append_assoc]

theorem idx_nil {α : Type} {i : Int} {a : α} (h : idx ([] : List α) i = some a) : False := by unfold idx at h; split at h <;> simp at h
def okF (n : Nat) (fr : Nat × Nat) : Prop := fr.2 = 0 ∨ n ≤ fr.1
theorem okF.not {n : Nat} {fr : Nat × Nat} (h : okF n fr) {j : Nat} (hj : j < n) : (decide (fr.1 ≤ j) && decide (j < fr.2)) = false := by
 rcases h with h | h <;> simp <;> omega
def CF (w : World) (b : Nat) (cs : Array Value) (t : TypeId) : Prop := ∃ fr, w.heap[b]? = some (.cells cs t fr) ∧ okF cs.size fr
theorem CF.lt {w : World} {b : Nat} {cs : Array Value} {t : TypeId} (h : CF w b cs t) : b < w.heap.size := let ⟨_, h, _⟩ := h; lt_of_heap h
theorem CF.same {w w' : World} {b : Nat} {cs : Array Value} {t : TypeId} (h : CF w b cs t) (k : w'.heap[b]? = w.heap[b]?) : CF w' b cs t := let ⟨fr, h, ho⟩ := h; ⟨fr, k.trans h, ho⟩
theorem CF.cell {w : World} {b : Nat} {cs : Array Value} {t : TypeId} (h : CF w b cs t) (j : Nat) : w.cell? ⟨b, j, none⟩ = cs[j]? := by obtain ⟨fr, h, _⟩ := h; simp [World.cell?, h]
def OM {α : Type} [GoT α] (i : Nat) (g : Gh) (w : World) (t : TypeId) (xs : List α) (v : Value) : Prop :=
 (v = .slice none 0 0 ∧ xs = []) ∨
 ∃ b c cs, v = .slice (some ⟨b, 0, none⟩) xs.length c ∧ xs.length ≤ c ∧ g.o b = i ∧ g.m b = 0 ∧ CF w b cs t ∧ xs.length * GoT.k α ≤ cs.size ∧ FlatR g.m w xs (cs.toList.take (xs.length * GoT.k α))
theorem OM.ext {α : Type} [GoT α] {i : Nat} {g g' : Gh} {w w' : World} {t : TypeId} {xs : List α} {v : Value} (h : OM i g w t xs v) (k : Ext g w g' w') : OM i g' w' t xs v := by
 rcases h with h | ⟨b, c, cs, hp, hc, ho, hm, hh, hs, hf⟩
 ·exact .inl h
 have hb := hh.lt
 exact .inr ⟨b, c, cs, hp, hc, (k.o b hb).trans ho, (k.m b hb).trans hm, hh.same (k.below.block b hb), hs, hf.ch k.ch⟩
theorem OM.stp {α : Type} [GoT α] {i j : Nat} {g g' : Gh} {w w' : World} {t : TypeId} {xs : List α} {v : Value} (h : OM i g w t xs v) (k : Stp j g w g' w') (hne : Nat.beq i j = false) : OM i g' w' t xs v := by
 rcases h with h | ⟨b, c, cs, hp, hc, ho, hm, hh, hs, hf⟩
 ·exact .inl h
 have hb := hh.lt
 have hij : g.o b ≠ j := by rw [ho]; intro he; rw [he] at hne; simp at hne
 exact .inr ⟨b, c, cs, hp, hc, (k.o b hb hij).trans ho, (k.m b hb hij).trans hm, hh.same (k.block b hb hij), hs, hf.ch k.ch⟩

section
variable {P : Program} {e : Env} {w : World} {g : Gh} {K : Value → World → Prop} {x y z : Operand}
end

/-! ### A new slice, handed out to be written -/
def Plain (α : Type) [GoT α] : Prop := ∀ (m m' : Nat → Nat) (w w' : World) (x : α) (cs : List Value), GoT.rep m w x cs → GoT.rep m' w' x cs
theorem FlatR.plain {α : Type} [GoT α] (hp : Plain α) {m m' : Nat → Nat} {w w' : World} : ∀ {xs : List α} {cs : List Value}, FlatR m w xs cs → FlatR m' w' xs cs
 | [], _, h => h
 | _ :: _, _, ⟨c1, c2, he, h1, h2⟩ => ⟨c1, c2, he, hp _ _ _ _ _ _ h1, FlatR.plain hp h2⟩
def FnG (P : Program) (f : FuncId) (args : Array Value) (g : Gh) (w : World) (R : Gh → World → Value → Prop) : Prop :=
 Calls P f args w fun r w' => ∃ v, r = .returned v ∧ ∃ g', Ext g w g' w' ∧ R g' w' v
end Go.Proofs.YtkmbkaoolacofaaGreat
/- Arrays. No program is named here. -/
namespace Go.Proofs.YtkmbkaoolacofaaGreat
open Go.RowKit

theorem vec_idx {α : Type} {n : Nat} {x : Vector α n} {i : Int} {a : α} (hi : idx x.toList i = some a) : 0 ≤ i ∧ ∃ h : i.toNat < n, x[i.toNat] = a := by
 obtain ⟨h0, hi'⟩ := idx_some hi
 obtain ⟨hlt, ha⟩ := List.getElem?_eq_some_iff.1 hi'
 refine ⟨h0, by simpa using hlt, ?_⟩
 simpa using ha
section
variable {P : Program} {e : Env} {w : World} {x y : Operand}
theorem PT_idxA {α : Type} [GoT α] {n : Nat} {m : Nat → Nat} {p : Value} {v : Vector α n} {i : Int} {a : α} (hp : PT m w v p) (hi : idx v.toList i = some a) : PT m w a (fPtr p (i.toNat * GoT.k α)) := by
 obtain ⟨b, o, cs, rfl, hb, hm, hr, hc⟩ := hp
 obtain ⟨h0, hlt, rfl⟩ := vec_idx hi
 have hk : i.toNat * GoT.k α + GoT.k α ≤ n * GoT.k α := by
  have : (i.toNat + 1) * GoT.k α ≤ n * GoT.k α := Nat.mul_le_mul_right _ hlt
  rw [Nat.add_mul, Nat.one_mul] at this; exact this
 have hm' : o + n * GoT.k α ≤ m b := hm
 refine ⟨b, o + i.toNat * GoT.k α, _, rfl, hb, by omega, hr.2 i.toNat hlt, fun j c hj => ?_⟩
 rw [List.getElem?_take] at hj
 split at hj
 ·rw [List.getElem?_drop] at hj
  rw [Nat.add_assoc]
  exact hc _ _ hj
 ·cases hj
theorem P_indexAddrA {α : Type} [GoT α] {n : Nat} {t et : TypeId} {p : Value} {v : Vector α n} {k : IntKind} {i : Int} {a : α} (ht : P.underlying t = some (.array n et)) (hs : ∀ w, (sizeOf et).run P w = .ok (GoT.k α) w)
  (hx : ev e x = p) (hp : ∃ b o, p = .pointer (some ⟨b, o, none⟩)) (hy : ev e y = .int k i) (hi : idx v.toList i = some a) : Pur P (.indexAddr t x y) e (fPtr p (i.toNat * GoT.k α)) := fun _ _ _ _ _ w' => by
 obtain ⟨b, o, rfl⟩ := hp
 obtain ⟨h0, hlt, _⟩ := vec_idx hi
 have hl : i < (n : Int) := by omega
 simp [execOp, hx, hy, Instr.indexAt, Instr.sureAddr, asIntOf, Sem.run_bind, run_underlying ht, h0, hl, hs, addr_add, fPtr]
end
end Go.Proofs.YtkmbkaoolacofaaGreat
/- Functions that write what their caller owns. No program is named here. -/
namespace Go.Proofs.YtkmbkaoolacofaaGreat
open Go.RowKit

structure FrM (i : Nat) (g0 : Gh) (w0 : World) (g : Gh) (w : World) : Prop where
 os : w.os = w0.os
 tape : w.tape = w0.tape
 output : w.output = w0.output
 ch : Ch g0.m w0 g.m w
 block : ∀ b, b < w0.heap.size → g0.o b ≠ i → w.heap[b]? = w0.heap[b]?
 m : ∀ b, b < w0.heap.size → g0.o b ≠ i → g.m b = g0.m b
 o : ∀ b, b < w0.heap.size → g0.o b ≠ i → g.o b = 0
theorem FrM.stp {i j : Nat} {g0 g g' : Gh} {w0 w w' : World} (h : FrM i g0 w0 g w) (k : Stp (j + 1) g w g' w') : FrM i g0 w0 g' w' := by
 have hne : ∀ b, b < w0.heap.size → g0.o b ≠ i → g.o b ≠ j + 1 := fun b hb hn => by rw [h.o b hb hn]; omega
 have hlt : ∀ b, b < w0.heap.size → b < w.heap.size := fun b hb => Nat.lt_of_lt_of_le hb h.ch.size
 exact ⟨k.os.trans h.os, k.tape.trans h.tape, k.output.trans h.output, h.ch.trans k.ch,
  fun b hb hn => (k.block b (hlt b hb) (hne b hb hn)).trans (h.block b hb hn),
  fun b hb hn => (k.m b (hlt b hb) (hne b hb hn)).trans (h.m b hb hn), fun b hb hn => (k.o b (hlt b hb) (hne b hb hn)).trans (h.o b hb hn)⟩
theorem FrM.ext {i : Nat} {g0 g g' : Gh} {w0 w w' : World} (h : FrM i g0 w0 g w) (k : Ext g w g' w') : FrM i g0 w0 g' w' := by
 have hlt : ∀ b, b < w0.heap.size → b < w.heap.size := fun b hb => Nat.lt_of_lt_of_le hb h.ch.size
 exact ⟨k.below.os.trans h.os, k.below.tape.trans h.tape, k.below.output.trans h.output, h.ch.trans k.ch,
  fun b hb hn => (k.below.block b (hlt b hb)).trans (h.block b hb hn), fun b hb hn => (k.m b (hlt b hb)).trans (h.m b hb hn), fun b hb hn => (k.o b (hlt b hb)).trans (h.o b hb hn)⟩
theorem OM.enter {α : Type} [GoT α] {i : Nat} {g : Gh} {w : World} {t : TypeId} {xs : List α} {v : Value} (h : OM i g w t xs v) : OM 1 { m := g.m, o := fun b => if g.o b = i then 1 else 0 } w t xs v := by
 rcases h with h | ⟨b, c, cs, hp, hc, ho, hm, hh, hs, hf⟩
 ·exact .inl h
 ·exact .inr ⟨b, c, cs, hp, hc, by simp [ho], hm, hh, hs, hf⟩
section
variable {P : Program} {e : Env} {w : World} {g : Gh} {K : Value → World → Prop}
end
end Go.Proofs.YtkmbkaoolacofaaGreat
/- Ranges over functions: an iterator is a function of what its consumer does with each element. No program is named here. -/
namespace Go.Proofs.YtkmbkaoolacofaaGreat
open Go.RowKit

/-! ### Steps of another party -/
structure IStp (B : Nat) (g : Gh) (w : World) (g' : Gh) (w' : World) : Prop where
 st : Stp 0 g w g' w'
 below : Below B w w'
 m : ∀ b, b < B → g'.m b = g.m b
 o : ∀ b, b < B → g'.o b = g.o b
structure RFr (g : Gh) (w : World) (g' : Gh) (w' : World) : Prop where
 os : w'.os = w.os
 tape : w'.tape = w.tape
 output : w'.output = w.output
 ch : Ch g.m w g'.m w'
 block : ∀ b, b < w.heap.size → (g.o b = 0 ∨ g.o b = 9) → w'.heap[b]? = w.heap[b]?
 m : ∀ b, b < w.heap.size → (g.o b = 0 ∨ g.o b = 9) → g'.m b = g.m b
 o : ∀ b, b < w.heap.size → (g.o b = 0 ∨ g.o b = 9) → g'.o b = g.o b
theorem RFr.refl (g : Gh) (w : World) : RFr g w g w := ⟨rfl, rfl, rfl, Ch.refl _ _, fun _ _ _ => rfl, fun _ _ _ => rfl, fun _ _ _ => rfl⟩
theorem RFr.stp {i : Nat} {g0 g g' : Gh} {w0 w w' : World} (h : RFr g0 w0 g w) (k : Stp i g w g' w') (hi : (Nat.beq i 0 || Nat.beq i 9) = false := by rfl) : RFr g0 w0 g' w' := by
 simp only [Bool.or_eq_false_iff] at hi
 have hne : ∀ b, b < w0.heap.size → (g0.o b = 0 ∨ g0.o b = 9) → g.o b ≠ i := fun b hb h0 he => by
  rw [h.o b hb h0] at he
  rcases h0 with h0 | h0 <;> (rw [h0] at he; subst he; simp at hi)
 have hlt : ∀ b, b < w0.heap.size → b < w.heap.size := fun b hb => Nat.lt_of_lt_of_le hb h.ch.size
 exact ⟨k.os.trans h.os, k.tape.trans h.tape, k.output.trans h.output, h.ch.trans k.ch, fun b hb h0 => (k.block b (hlt b hb) (hne b hb h0)).trans (h.block b hb h0),
  fun b hb h0 => (k.m b (hlt b hb) (hne b hb h0)).trans (h.m b hb h0), fun b hb h0 => (k.o b (hlt b hb) (hne b hb h0)).trans (h.o b hb h0)⟩
theorem RFr.ext {g0 g g' : Gh} {w0 w w' : World} (h : RFr g0 w0 g w) (k : Ext g w g' w') : RFr g0 w0 g' w' := by
 have hlt : ∀ b, b < w0.heap.size → b < w.heap.size := fun b hb => Nat.lt_of_lt_of_le hb h.ch.size
 exact ⟨k.below.os.trans h.os, k.below.tape.trans h.tape, k.below.output.trans h.output, h.ch.trans k.ch, fun b hb h0 => (k.below.block b (hlt b hb)).trans (h.block b hb h0),
  fun b hb h0 => (k.m b (hlt b hb)).trans (h.m b hb h0), fun b hb h0 => (k.o b (hlt b hb)).trans (h.o b hb h0)⟩
theorem RFr.size {g0 g : Gh} {w0 w : World} (h : RFr g0 w0 g w) : w0.heap.size ≤ w.heap.size := h.ch.size

section facts
variable {α : Type} [GoT α] {B i j : Nat} {g g' : Gh} {w w' : World} {t : TypeId} {p v : Value} {x : α} {xs : List α}
end facts
theorem Fr.size {g0 g : Gh} {w0 w : World} (h : Fr g0 w0 g w) : w0.heap.size ≤ w.heap.size := h.below.size
theorem FrM.size {i : Nat} {g0 g : Gh} {w0 w : World} (h : FrM i g0 w0 g w) : w0.heap.size ≤ w.heap.size := h.ch.size

def HB (i : Nat) (g : Gh) (w : World) (b : Nat) (ob : Obj) : Prop := g.o b = i ∧ w.heap[b]? = some ob
theorem HB.ext {i b : Nat} {g g' : Gh} {w w' : World} {ob : Obj} (h : HB i g w b ob) (k : Ext g w g' w') : HB i g' w' b ob := ⟨(k.o b (lt_of_heap h.2)).trans h.1, (k.below.block b (lt_of_heap h.2)).trans h.2⟩
theorem HB.stp {i j b : Nat} {g g' : Gh} {w w' : World} {ob : Obj} (h : HB i g w b ob) (k : Stp j g w g' w') (hne : Nat.beq i j = false) : HB i g' w' b ob := by
 have hij : g.o b ≠ j := by rw [h.1]; intro he; rw [he] at hne; simp at hne
 exact ⟨(k.o b (lt_of_heap h.2) hij).trans h.1, (k.block b (lt_of_heap h.2) hij).trans h.2⟩
def Mks (g : Gh) (w : World) (ds : List Deferred) : Prop := ∀ d ∈ ds, ∃ D, d = { target := .collected D, args := #[] } ∧ HB 9 g w D (.deferred (some []))
def MksN (ds : List Deferred) : Prop := (ds.map (fun d : Deferred => d.target)).Nodup
structure MkF (g : Gh) (w : World) (ds : List Deferred) : Prop where
 mks : Mks g w ds
 nd : MksN ds
section
variable {g g' : Gh} {w w' : World} {ds : List Deferred}
theorem MkF.ext (h : MkF g w ds) (k : Ext g w g' w') : MkF g' w' ds := ⟨fun d hd => let ⟨D, h1, h2⟩ := h.mks d hd; ⟨D, h1, h2.ext k⟩, h.nd⟩
theorem MkF.stp {j : Nat} (h : MkF g w ds) (k : Stp j g w g' w') (hj : Nat.beq 9 j = false := by rfl) : MkF g' w' ds := ⟨fun d hd => let ⟨D, h1, h2⟩ := h.mks d hd; ⟨D, h1, h2.stp k hj⟩, h.nd⟩
end

/-! ### The contract of an iterator -/
abbrev Rds (α : Type) := (Nat → Nat) → World → α → Array Value → Prop
abbrev Cons (σ α : Type) := σ → α → Option (Bool × σ)
abbrev It (α : Type) := ∀ (σ : Type), Cons σ α → σ → Option σ
abbrev Inv (σ : Type) := σ → Gh → World → Prop
def Abid {σ : Type} (B : Nat) (J : Inv σ) : Prop := ∀ s g w g' w', IStp B g w g' w' → J s g w → J s g' w'
def RoundOk {σ α : Type} (P : Program) (l : Nat) (ra : Rds α) (cons : Cons σ α) (J : Inv σ) : Prop :=
 ∀ s x b s' g w vs, cons s x = some (b, s') → J s g w → ra g.m w x vs → YieldAt Fence.wide 0 P l vs w fun r w' => r = .returned (.bool b) ∧ ∃ g', RFr g w g' w' ∧ J s' g' w'
def IterC {σ α : Type} (P : Program) (ra : Rds α) (f : FuncId) (first caps : Array Value) (g : Gh) (w : World) (cons : Cons σ α) (s s' : σ) : Prop :=
 ∀ (l B : Nat) (J : Inv σ) (gC : Gh), gC.m = g.m → B ≤ w.heap.size → Abid B J → RoundOk P l ra cons J → J s gC w →
  Calls P f (first ++ #[.func (.yield l) #[] #[]] ++ caps) w fun r w' => (∃ v, r = .returned v) ∧ ∃ gC', J s' gC' w'
def ItV {α : Type} (P : Program) (ra : Rds α) (φ : It α) (v : Value) (m : Nat → Nat) (w : World) : Prop :=
 ∃ f first caps, v = .func (.func f) first caps ∧ Enters P f ∧ ∀ (g' : Gh) (w' : World), Ch m w g'.m w' → ∀ (σ : Type) (cons : Cons σ α) (s s' : σ), φ σ cons s = some s' → IterC P ra f first caps g' w' cons s s'
theorem ItV.ch {α : Type} {P : Program} {ra : Rds α} {φ : It α} {v : Value} {m m' : Nat → Nat} {w w' : World} (h : ItV P ra φ v m w) (k : Ch m w m' w') : ItV P ra φ v m' w' := by
 obtain ⟨f, a, c, h1, h2, h3⟩ := h; exact ⟨f, a, c, h1, h2, fun g'' w'' k' => h3 g'' w'' (k.trans k')⟩
section
variable {α : Type} {P : Program} {ra : Rds α} {φ : It α} {v : Value} {g g' : Gh} {w w' : World}
theorem ItV.ext (h : ItV P ra φ v g.m w) (k : Ext g w g' w') : ItV P ra φ v g'.m w' := h.ch k.ch
theorem ItV.stp {i : Nat} (h : ItV P ra φ v g.m w) (k : Stp i g w g' w') : ItV P ra φ v g'.m w' := h.ch k.ch
end

/-! ### The frame of an iterator: its consumer's state -/
structure FrY {σ : Type} (gI : Gh) (wI : World) (B : Nat) (J : Inv σ) (s : σ) (g : Gh) (w : World) : Prop where
 ch : Ch gI.m wI g.m w
 hB : B ≤ w.heap.size
 own : ∀ b, b < w.heap.size → g.o b ≠ 0 → g.o b ≠ 2 → B ≤ b
 inv : ∃ gC : Gh, gC.m = g.m ∧ (∀ b, b < w.heap.size → gC.o b ≠ 0 → g.o b = 2) ∧ J s gC w
section
variable {σ : Type} {gI : Gh} {wI : World} {B : Nat} {J : Inv σ} {s : σ} {g g' : Gh} {w w' : World}
theorem FrY.step (hJ : Abid B J) (h : FrY gI wI B J s g w) {j : Nat} (hj : j ≠ 2) (k : Stp j g w g' w') (hown : ∀ b, b < w.heap.size → g.o b = j → B ≤ b ∨ (w'.heap[b]? = w.heap[b]? ∧ g'.m b = g.m b ∧ g'.o b = g.o b)) : FrY gI wI B J s g' w' := by
 obtain ⟨gC, hm, ho, hJs⟩ := h.inv
 have hlt : ∀ b, b < B → b < w.heap.size := fun b hb => Nat.lt_of_lt_of_le hb h.hB
 have hbl : ∀ b, b < B → w'.heap[b]? = w.heap[b]? ∧ g'.m b = g.m b ∧ g'.o b = g.o b := fun b hb => by
  by_cases hbj : g.o b = j
  ·exact (hown b (hlt b hb) hbj).resolve_left (by omega)
  ·exact ⟨k.block b (hlt b hb) hbj, k.m b (hlt b hb) hbj, k.o b (hlt b hb) hbj⟩
 refine ⟨h.ch.trans k.ch, Nat.le_trans h.hB k.ch.size, fun b hb h0 h2 => ?_, { m := g'.m, o := fun b => if b < w.heap.size then gC.o b else 0 }, rfl, fun b hb h0 => ?_, ?_⟩
 ·by_cases hbB : b < B
  ·have := h.own b (hlt b hbB) (by rw [← (hbl b hbB).2.2]; exact h0) (by rw [← (hbl b hbB).2.2]; exact h2); omega
  ·omega
 ·by_cases hbw : b < w.heap.size
  ·simp only [hbw, if_true] at h0
   have h1 := ho b hbw h0
   rw [k.o b hbw (by rw [h1]; omega)]; exact h1
  ·simp [hbw] at h0
 ·refine hJ s gC w _ w' ⟨⟨k.os, k.tape, k.output, by rw [hm]; exact k.ch, fun b hb h0 => ?_, fun b hb h0 => ?_, fun b hb h0 => by simp [hb]⟩, ⟨k.os, k.tape, k.output, k.ch.size, fun b hb => (hbl b hb).1⟩, fun b hb => ?_, fun b hb => by simp [hlt b hb]⟩ hJs
  ·exact k.block b hb (by rw [ho b hb h0]; omega)
  ·show g'.m b = _; rw [hm]; exact k.m b hb (by rw [ho b hb h0]; omega)
  ·show g'.m b = _; rw [hm]; exact (hbl b hb).2.1
end
section
variable {P : Program} {e : Env} {w : World} {g : Gh} {K : Value → World → Prop} {σ α : Type} {cons : Cons σ α} {J : Inv σ} {gI : Gh} {wI : World} {B l : Nat} {s s' : σ}
end

/-! ### Ends with marks -/
def atEndM (P : Program) (fn : Func) (R : Value → World → Prop) : Post
 | .normal, e, ds, w | .ret, e, ds, w => ∀ tmps : Array Value, (∀ t, tmps.getD t undef = e t) → LeavesInM Fence.wide 0 P fn tmps (fun r w' => ∃ v, r = .returned v ∧ R v w') ds .returning w
 | _, _, _, _ => False
theorem callsM_of_E {P : Program} {w : World} {f : FuncId} {fn : Func} {c : Code} {args : Array Value} {R : Value → World → Prop} (hf : P.funcs[f]? = some fn) (hb : fn.body = some c) (hN : args.size ≤ fn.ntmps)
  (h : E P fn.ntmps none c (atEndM P fn R) (envAt args) [] w) : Calls P f args w fun r w' => ∃ v, r = .returned v ∧ R v w' := by
 refine callsIn_wide.1 (callsIn_of_wp_marks (n := 0) hf hb trivial ?_ rfl)
 have hsz : (args ++ Array.replicate (fn.ntmps - args.size) undef).size = fn.ntmps := by simp; omega
 have hget : ∀ t, (args ++ Array.replicate (fn.ntmps - args.size) undef).getD t undef = envAt args t := by
  intro t
  unfold envAt
  simp only [Array.getD_eq_getD_getElem?, Array.getElem?_append, Array.getElem?_replicate]
  by_cases ht : t < args.size
  ·simp [ht]
  ·simp only [ht, if_false]
   rw [Array.getElem?_eq_none (by omega)]
   split <;> rfl
 refine wpIn_mono (h _ ⟨hsz, hget⟩ rfl) ?_
 rintro x a' w' ⟨_, hq⟩
 cases x <;> simp only [atEndM] at hq <;> first | exact hq.elim | exact hq a'.tmps (fun _ => rfl)
end Go.Proofs.YtkmbkaoolacofaaGreat
