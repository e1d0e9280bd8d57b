/- Slices that a function owns and writes in place. No program is named here. -/
import Derived.Test.YtkmbkaoolacofaaGreatGen
import Derived.ChangeKeysEq
namespace Go.Proofs.YtkmbkaoolacofaaGreat
open Go.RowKit

theorem FlatR.set {α : Type} [GoT α] {m : Nat → Nat} {w : World} : ∀ {xs : List α} {cs : List Value}, FlatR m w xs cs → ∀ {i : Nat}, i < xs.length → ∀ {y : α} {cy : List Value}, GoT.rep m w y cy →
  FlatR m w (xs.set i y) (cs.take (i * GoT.k α) ++ cy ++ cs.drop (i * GoT.k α + GoT.k α))
 | [], _, _, _, hi, _, _, _ => absurd hi (by simp)
 | x :: xs, _, ⟨c1, c2, rfl, h1, h2⟩, 0, _, y, cy, hy => by
  have hl := GoT.len h1
  refine ⟨cy, c2, ?_, hy, h2⟩
  rw [Nat.zero_mul, Nat.zero_add, List.take_zero, List.nil_append, ← hl, List.drop_left']
  rfl
 | x :: xs, _, ⟨c1, c2, rfl, h1, h2⟩, i + 1, hi, y, cy, hy => by
  have hl := GoT.len h1
  refine ⟨c1, c2.take (i * GoT.k α) ++ cy ++ c2.drop (i * GoT.k α + GoT.k α), ?_, h1, FlatR.set h2 (by simpa using hi) hy⟩
  have e1 : (i + 1) * GoT.k α = c1.length + i * GoT.k α := by rw [hl, Nat.add_mul, Nat.one_mul, Nat.add_comm]
  rw [e1, List.take_length_add_append, Nat.add_assoc, List.drop_length_add_append]
  simp only [List.append_assoc]

def okF (n : Nat) (fr : Nat × Nat) : Prop := fr.2 = 0 ∨ n ≤ fr.1
theorem okF.not {n : Nat} {fr : Nat × Nat} (h : okF n fr) {j : Nat} (hj : j < n) : (decide (fr.1 ≤ j) && decide (j < fr.2)) = false := by
 rcases h with h | h <;> simp <;> omega
def CF (w : World) (b : Nat) (cs : Array Value) (t : TypeId) : Prop := ∃ fr, w.heap[b]? = some (.cells cs t fr) ∧ okF cs.size fr
theorem CF.lt {w : World} {b : Nat} {cs : Array Value} {t : TypeId} (h : CF w b cs t) : b < w.heap.size := let ⟨_, h, _⟩ := h; lt_of_heap h
theorem CF.same {w w' : World} {b : Nat} {cs : Array Value} {t : TypeId} (h : CF w b cs t) (k : w'.heap[b]? = w.heap[b]?) : CF w' b cs t := let ⟨fr, h, ho⟩ := h; ⟨fr, k.trans h, ho⟩
theorem CF.of {w : World} {b : Nat} {cs : Array Value} {t : TypeId} (h : w.heap[b]? = some (.cells cs t (0, 0))) : CF w b cs t := ⟨_, h, .inl rfl⟩
theorem CF.cell {w : World} {b : Nat} {cs : Array Value} {t : TypeId} (h : CF w b cs t) (j : Nat) : w.cell? ⟨b, j, none⟩ = cs[j]? := by obtain ⟨fr, h, _⟩ := h; simp [World.cell?, h]
def OM {α : Type} [GoT α] (i : Nat) (g : Gh) (w : World) (t : TypeId) (xs : List α) (v : Value) : Prop :=
 (v = .slice none 0 0 ∧ xs = []) ∨
 ∃ b c cs, v = .slice (some ⟨b, 0, none⟩) xs.length c ∧ xs.length ≤ c ∧ g.o b = i ∧ g.m b = 0 ∧ CF w b cs t ∧ xs.length * GoT.k α ≤ cs.size ∧ FlatR g.m w xs (cs.toList.take (xs.length * GoT.k α))
theorem OM.ext {α : Type} [GoT α] {i : Nat} {g g' : Gh} {w w' : World} {t : TypeId} {xs : List α} {v : Value} (h : OM i g w t xs v) (k : Ext g w g' w') : OM i g' w' t xs v := by
 rcases h with h | ⟨b, c, cs, hp, hc, ho, hm, hh, hs, hf⟩
 ·exact .inl h
 have hb := hh.lt
 exact .inr ⟨b, c, cs, hp, hc, (k.o b hb).trans ho, (k.m b hb).trans hm, hh.same (k.below.block b hb), hs, hf.ch k.ch⟩
theorem OM.stp {α : Type} [GoT α] {i j : Nat} {g g' : Gh} {w w' : World} {t : TypeId} {xs : List α} {v : Value} (h : OM i g w t xs v) (k : Stp j g w g' w') (hne : Nat.beq i j = false) : OM i g' w' t xs v := by
 rcases h with h | ⟨b, c, cs, hp, hc, ho, hm, hh, hs, hf⟩
 ·exact .inl h
 have hb := hh.lt
 have hij : g.o b ≠ j := by rw [ho]; intro he; rw [he] at hne; simp at hne
 exact .inr ⟨b, c, cs, hp, hc, (k.o b hb hij).trans ho, (k.m b hb hij).trans hm, hh.same (k.block b hb hij), hs, hf.ch k.ch⟩

section
variable {P : Program} {e : Env} {w : World} {g : Gh} {K : Value → World → Prop} {x y z : Operand}
end

/-! ### A new slice, handed out to be written -/
def Plain (α : Type) [GoT α] : Prop := ∀ (m m' : Nat → Nat) (w w' : World) (x : α) (cs : List Value), GoT.rep m w x cs → GoT.rep m' w' x cs
theorem FlatR.plain {α : Type} [GoT α] (hp : Plain α) {m m' : Nat → Nat} {w w' : World} : ∀ {xs : List α} {cs : List Value}, FlatR m w xs cs → FlatR m' w' xs cs
 | [], _, h => h
 | _ :: _, _, ⟨c1, c2, he, h1, h2⟩ => ⟨c1, c2, he, hp _ _ _ _ _ _ h1, FlatR.plain hp h2⟩
def FnG (P : Program) (f : FuncId) (args : Array Value) (g : Gh) (w : World) (R : Gh → World → Value → Prop) : Prop :=
 Calls P f args w fun r w' => ∃ v, r = .returned v ∧ ∃ g', Ext g w g' w' ∧ R g' w' v
theorem OM.hand {α : Type} [GoT α] (hp : Plain α) {j i : Nat} {g0 g : Gh} {w0 w : World} {t : TypeId} {xs : List α} {v : Value} (hfr : Fr g0 w0 g w) (hos : OS (j + 1) g w t xs v) (hr : RV g.m w xs v) : ∃ g', Ext g0 w0 g' w ∧ OM i g' w t xs v := by
 rcases hos with ⟨h1, h2⟩ | ⟨b, c, cs, hv, ho, hm, hh, hc, hcm, hcs⟩
 ·exact ⟨_, hfr.fin, .inl ⟨h1, h2⟩⟩
 ·have hb : ¬ b < w0.heap.size := fun hb => by have := hfr.o b hb; omega
  have hbw := lt_of_heap hh
  subst hv
  refine ⟨{ m := updN g.m b 0, o := updN (fun b => if b < w0.heap.size then g0.o b else 0) b i }, ⟨hfr.below, fun b' hb' => ?_, fun b' hb' => ?_⟩, .inr ⟨b, c, cs, rfl, hc, by simp [updN], by simp [updN], CF.of hh, ?_, ?_⟩⟩
  ·rw [show ({ m := updN g.m b 0, o := updN (fun b => if b < w0.heap.size then g0.o b else 0) b i } : Gh).m b' = updN g.m b 0 b' from rfl, updN_ne _ _ (show b' ≠ b from fun h => hb (h ▸ hb'))]
   exact hfr.m b' hb'
  ·rw [show ({ m := updN g.m b 0, o := updN (fun b => if b < w0.heap.size then g0.o b else 0) b i } : Gh).o b' = updN (fun b => if b < w0.heap.size then g0.o b else 0) b i b' from rfl, updN_ne _ _ (show b' ≠ b from fun h => hb (h ▸ hb'))]
   simp [hb']
  ·rw [hcs]; exact Nat.mul_le_mul_right _ hc
  ·rcases Nat.eq_zero_or_pos xs.length with h0 | h0
   ·have hx : xs = [] := List.eq_nil_of_length_eq_zero h0
    subst hx
    simp [FlatR]
   ·obtain ⟨a, c2, he, _, hrow⟩ := RV_list hr
    obtain ⟨b2, off2, rfl, _, _, hrow⟩ := hrow h0
    injection he with he _ _
    injection he with he
    injection he with h1 h2
    subst h1; subst h2
    obtain ⟨ds, hf, hcell⟩ := hrow.flat
    have hl := hf.len
    have hds : cs.toList.take (xs.length * GoT.k α) = ds := by
     apply List.ext_getElem?
     intro k
     rw [List.getElem?_take]
     split
     ·rename_i hk
      have hk2 : k < ds.length := by rw [hl]; exact hk
      have := hcell k _ (List.getElem?_eq_getElem hk2)
      simp only [World.cell?, hh, Nat.zero_add, Option.isSome_none, Bool.false_eq_true, if_false] at this
      rw [List.getElem?_eq_getElem hk2, ← this, Array.getElem?_toList]
     ·rename_i hk
      rw [List.getElem?_eq_none (by omega)]
    rw [hds]
    exact hf.plain hp
end Go.Proofs.YtkmbkaoolacofaaGreat
/- Arrays. No program is named here. -/
namespace Go.Proofs.YtkmbkaoolacofaaGreat
open Go.RowKit

section
variable {P : Program} {e : Env} {w : World} {x y : Operand}
end
end Go.Proofs.YtkmbkaoolacofaaGreat
/- Functions that write what their caller owns. No program is named here. -/
namespace Go.Proofs.YtkmbkaoolacofaaGreat
open Go.RowKit

structure FrM (i : Nat) (g0 : Gh) (w0 : World) (g : Gh) (w : World) : Prop where
 os : w.os = w0.os
 tape : w.tape = w0.tape
 output : w.output = w0.output
 ch : Ch g0.m w0 g.m w
 block : ∀ b, b < w0.heap.size → g0.o b ≠ i → w.heap[b]? = w0.heap[b]?
 m : ∀ b, b < w0.heap.size → g0.o b ≠ i → g.m b = g0.m b
 o : ∀ b, b < w0.heap.size → g0.o b ≠ i → g.o b = 0
theorem FrM.start (i : Nat) (g : Gh) (w : World) : FrM i g w { m := g.m, o := fun b => if g.o b = i then 1 else 0 } w :=
 ⟨rfl, rfl, rfl, Ch.refl _ _, fun _ _ _ => rfl, fun _ _ _ => rfl, fun b _ h => by simp [h]⟩
theorem FrM.stp {i j : Nat} {g0 g g' : Gh} {w0 w w' : World} (h : FrM i g0 w0 g w) (k : Stp (j + 1) g w g' w') : FrM i g0 w0 g' w' := by
 have hne : ∀ b, b < w0.heap.size → g0.o b ≠ i → g.o b ≠ j + 1 := fun b hb hn => by rw [h.o b hb hn]; omega
 have hlt : ∀ b, b < w0.heap.size → b < w.heap.size := fun b hb => Nat.lt_of_lt_of_le hb h.ch.size
 exact ⟨k.os.trans h.os, k.tape.trans h.tape, k.output.trans h.output, h.ch.trans k.ch,
  fun b hb hn => (k.block b (hlt b hb) (hne b hb hn)).trans (h.block b hb hn),
  fun b hb hn => (k.m b (hlt b hb) (hne b hb hn)).trans (h.m b hb hn), fun b hb hn => (k.o b (hlt b hb) (hne b hb hn)).trans (h.o b hb hn)⟩
theorem FrM.ext {i : Nat} {g0 g g' : Gh} {w0 w w' : World} (h : FrM i g0 w0 g w) (k : Ext g w g' w') : FrM i g0 w0 g' w' := by
 have hlt : ∀ b, b < w0.heap.size → b < w.heap.size := fun b hb => Nat.lt_of_lt_of_le hb h.ch.size
 exact ⟨k.below.os.trans h.os, k.below.tape.trans h.tape, k.below.output.trans h.output, h.ch.trans k.ch,
  fun b hb hn => (k.below.block b (hlt b hb)).trans (h.block b hb hn), fun b hb hn => (k.m b (hlt b hb)).trans (h.m b hb hn), fun b hb hn => (k.o b (hlt b hb)).trans (h.o b hb hn)⟩
theorem FrM.fin {i : Nat} {g0 g : Gh} {w0 w : World} (h : FrM i g0 w0 g w) : Stp i g0 w0 { m := g.m, o := fun b => if b < w0.heap.size then g0.o b else 0 } w :=
 ⟨h.os, h.tape, h.output, h.ch, h.block, h.m, fun b hb _ => by simp [hb]⟩
theorem OM.enter {α : Type} [GoT α] {i : Nat} {g : Gh} {w : World} {t : TypeId} {xs : List α} {v : Value} (h : OM i g w t xs v) : OM 1 { m := g.m, o := fun b => if g.o b = i then 1 else 0 } w t xs v := by
 rcases h with h | ⟨b, c, cs, hp, hc, ho, hm, hh, hs, hf⟩
 ·exact .inl h
 ·exact .inr ⟨b, c, cs, hp, hc, by simp [ho], hm, hh, hs, hf⟩
theorem OM.back {α : Type} [GoT α] {i : Nat} {g0 g : Gh} {w0 w : World} {t : TypeId} {xs0 xs : List α} {v : Value} (h0 : OM i g0 w0 t xs0 v) (h : OM 1 g w t xs v) : OM i { m := g.m, o := fun b => if b < w0.heap.size then g0.o b else 0 } w t xs v := by
 rcases h with h | ⟨b, c, cs, hp, hc, ho, hm, hh, hs, hf⟩
 ·exact .inl h
 ·rcases h0 with ⟨hv, _⟩ | ⟨b0, c0, cs0, hp0, hc0, ho0, hm0, hh0, hs0, hf0⟩
  ·rw [hp] at hv; cases hv
  ·rw [hp] at hp0
   injection hp0 with he _ _
   injection he with he
   injection he with h1 h2
   subst h1
   have hb := hh0.lt
   exact .inr ⟨b, c, cs, hp, hc, by simp [hb, ho0], hm, hh, hs, hf⟩
def FnM (P : Program) (f : FuncId) (args : Array Value) (i : Nat) (g : Gh) (w : World) (R : Gh → World → Value → Prop) : Prop :=
 Calls P f args w fun r w' => ∃ v, r = .returned v ∧ ∃ g', Stp i g w g' w' ∧ R g' w' v
section
variable {P : Program} {e : Env} {w : World} {g : Gh} {K : Value → World → Prop}
theorem D_callM {f : FuncId} {i : Nat} {xs : List Operand} {vs : List Value} {ats : Array TypeId} {R : Gh → World → Value → Prop} (hent : Enters P f) (ha : Args e xs vs) (hc : FnM P f vs.toArray i g w R)
  (h : ∀ g' w' v, Stp i g w g' w' → R g' w' v → K v w') : Doe P (.call { callee := .value (.func f), args := xs.toArray, argTypes := ats }) e w K := fun d ty pos af gd => by
 have he := hent vs.toArray w
 have hrun : (execOp (ev e) ⟨d, .call { callee := .value (.func f), args := xs.toArray, argTypes := ats }, ty, pos, af, gd⟩).run P w = .ok (.enter f vs.toArray) w := by
  simp only [execOp, resolve, ev, Deferred.ofValue, Sem.run_bind, Sem.run_pure, Result.andThen_ok, invoke, List.map_toArray, ha.map, Array.empty_append, Array.append_empty, he]
 unfold doE; rw [hrun]
 refine Calls.mono hc ?_
 rintro r w'' ⟨v, rfl, g', hx, hr⟩
 exact ⟨v, rfl, h g' w'' v hx hr⟩
end
end Go.Proofs.YtkmbkaoolacofaaGreat
