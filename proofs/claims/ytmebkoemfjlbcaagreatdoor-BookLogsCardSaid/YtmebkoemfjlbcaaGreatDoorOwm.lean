/- Functions that write what their caller owns. No program is named here. -/
import Derived.Test.YtmebkoemfjlbcaaGreatDoorArr
namespace Go.Proofs.YtmebkoemfjlbcaaGreatDoor
open Go.RowKit

structure FrM (i : Nat) (g0 : Gh) (w0 : World) (g : Gh) (w : World) : Prop where
 os : w.os = w0.os
 tape : w.tape = w0.tape
 output : w.output = w0.output
 ch : Ch g0.m w0 g.m w
 block : ∀ b, b < w0.heap.size → g0.o b ≠ i → w.heap[b]? = w0.heap[b]?
 m : ∀ b, b < w0.heap.size → g0.o b ≠ i → g.m b = g0.m b
 o : ∀ b, b < w0.heap.size → g0.o b ≠ i → g.o b = 0
theorem FrM.start (i : Nat) (g : Gh) (w : World) : FrM i g w { m := g.m, o := fun b => if g.o b = i then 1 else 0 } w :=
 ⟨rfl, rfl, rfl, Ch.refl _ _, fun _ _ _ => rfl, fun _ _ _ => rfl, fun b _ h => by simp [h]⟩
theorem FrM.stp {i j : Nat} {g0 g g' : Gh} {w0 w w' : World} (h : FrM i g0 w0 g w) (k : Stp (j + 1) g w g' w') : FrM i g0 w0 g' w' := by
 have hne : ∀ b, b < w0.heap.size → g0.o b ≠ i → g.o b ≠ j + 1 := fun b hb hn => by rw [h.o b hb hn]; omega
 have hlt : ∀ b, b < w0.heap.size → b < w.heap.size := fun b hb => Nat.lt_of_lt_of_le hb h.ch.size
 exact ⟨k.os.trans h.os, k.tape.trans h.tape, k.output.trans h.output, h.ch.trans k.ch,
  fun b hb hn => (k.block b (hlt b hb) (hne b hb hn)).trans (h.block b hb hn),
  fun b hb hn => (k.m b (hlt b hb) (hne b hb hn)).trans (h.m b hb hn), fun b hb hn => (k.o b (hlt b hb) (hne b hb hn)).trans (h.o b hb hn)⟩
theorem FrM.ext {i : Nat} {g0 g g' : Gh} {w0 w w' : World} (h : FrM i g0 w0 g w) (k : Ext g w g' w') : FrM i g0 w0 g' w' := by
 have hlt : ∀ b, b < w0.heap.size → b < w.heap.size := fun b hb => Nat.lt_of_lt_of_le hb h.ch.size
 exact ⟨k.below.os.trans h.os, k.below.tape.trans h.tape, k.below.output.trans h.output, h.ch.trans k.ch,
  fun b hb hn => (k.below.block b (hlt b hb)).trans (h.block b hb hn), fun b hb hn => (k.m b (hlt b hb)).trans (h.m b hb hn), fun b hb hn => (k.o b (hlt b hb)).trans (h.o b hb hn)⟩
theorem FrM.fin {i : Nat} {g0 g : Gh} {w0 w : World} (h : FrM i g0 w0 g w) : Stp i g0 w0 { m := g.m, o := fun b => if b < w0.heap.size then g0.o b else 0 } w :=
 ⟨h.os, h.tape, h.output, h.ch, h.block, h.m, fun b hb _ => by simp [hb]⟩
theorem OM.enter {α : Type} [GoT α] {i : Nat} {g : Gh} {w : World} {t : TypeId} {xs : List α} {v : Value} (h : OM i g w t xs v) : OM 1 { m := g.m, o := fun b => if g.o b = i then 1 else 0 } w t xs v := by
 rcases h with h | ⟨b, c, cs, hp, hc, ho, hm, hh, hs, hf⟩
 ·exact .inl h
 ·exact .inr ⟨b, c, cs, hp, hc, by simp [ho], hm, hh, hs, hf⟩
theorem OM.back {α : Type} [GoT α] {i : Nat} {g0 g : Gh} {w0 w : World} {t : TypeId} {xs0 xs : List α} {v : Value} (h0 : OM i g0 w0 t xs0 v) (h : OM 1 g w t xs v) : OM i { m := g.m, o := fun b => if b < w0.heap.size then g0.o b else 0 } w t xs v := by
 rcases h with h | ⟨b, c, cs, hp, hc, ho, hm, hh, hs, hf⟩
 ·exact .inl h
 ·rcases h0 with ⟨hv, _⟩ | ⟨b0, c0, cs0, hp0, hc0, ho0, hm0, hh0, hs0, hf0⟩
  ·rw [hp] at hv; cases hv
  ·rw [hp] at hp0
   injection hp0 with he _ _
   injection he with he
   injection he with h1 h2
   subst h1
   have hb := hh0.lt
   exact .inr ⟨b, c, cs, hp, hc, by simp [hb, ho0], hm, hh, hs, hf⟩
def FnM (P : Program) (f : FuncId) (args : Array Value) (i : Nat) (g : Gh) (w : World) (R : Gh → World → Value → Prop) : Prop :=
 Calls P f args w fun r w' => ∃ v, r = .returned v ∧ ∃ g', Stp i g w g' w' ∧ R g' w' v
def OutM (i : Nat) (g : Gh) (w : World) (R : Gh → World → Value → Prop) (v : Value) (w' : World) : Prop := ∃ g', FrM i g w g' w' ∧ R { m := g'.m, o := fun b => if b < w.heap.size then g.o b else 0 } w' v
theorem Ma {P : Program} {f : FuncId} {fn : Func} {c : Code} {args : Array Value} {i : Nat} {g : Gh} {w : World} {R : Gh → World → Value → Prop} (hf : P.funcs[f]? = some fn) (hb : fn.body = some c) (hN : args.size ≤ fn.ntmps)
  (h : ∀ g0, g0 = { m := g.m, o := fun b => if g.o b = i then 1 else 0 } → FrM i g w g0 w → E P fn.ntmps none c (K3 P fn (OutM i g w R)) (W8 args) [] w) : FnM P f args i g w R := by
 refine Calls.mono (Qp hf hb hN (h _ rfl (FrM.start i g w))) ?_
 rintro r w' ⟨v, rfl, g', hfr, hr⟩
 exact ⟨v, rfl, _, hfr.fin, hr⟩
section
variable {P : Program} {e : Env} {w : World} {g : Gh} {K : Value → World → Prop}
theorem Lm {f : FuncId} {i : Nat} {xs : List Operand} {vs : List Value} {ats : Array TypeId} {R : Gh → World → Value → Prop} (hent : Enters P f) (ha : Args e xs vs) (hc : FnM P f vs.toArray i g w R)
  (h : ∀ g' w' v, Stp i g w g' w' → R g' w' v → K v w') : Doe P (.call { callee := .value (.func f), args := xs.toArray, argTypes := ats }) e w K := fun d ty pos af gd => by
 have he := hent vs.toArray w
 have hrun : (execOp (ev e) ⟨d, .call { callee := .value (.func f), args := xs.toArray, argTypes := ats }, ty, pos, af, gd⟩).run P w = .ok (.enter f vs.toArray) w := by
  simp only [execOp, resolve, ev, Deferred.ofValue, Sem.run_bind, Sem.run_pure, Result.andThen_ok, invoke, List.map_toArray, ha.map, Array.empty_append, Array.append_empty, he]
 unfold doE; rw [hrun]
 refine Calls.mono hc ?_
 rintro r w'' ⟨v, rfl, g', hx, hr⟩
 exact ⟨v, rfl, h g' w'' v hx hr⟩
theorem Nb {α : Type} [GoT α] {n : Nat} {g0 : Gh} {w0 : World} {t et : TypeId} {x : Operand} {v : Value} {xs : List α} {i : Int} {a : α} {K : Prop} (ha : ∀ w, (isAgg t).run P w = .ok (GoT.agg α) w) (hs : ∀ w, (sizeOf t).run P w = .ok (GoT.k α) w) (hv : OM n g0 w0 et xs v) (hi : idx xs i = some a)
  (k : ∀ u, RV g0.m w0 a u → (∀ (e : Env) (g : Gh) (w : World), (Ch g0.m w0 g.m w ∧ ∀ b, b < w0.heap.size → g0.o b = n → w.heap[b]? = w0.heap[b]?) → ev e x = Gq v i (GoT.k α) → ∀ d ty pos af gd, (execOp (ev e) ⟨d, .load t x, ty, pos, af, gd⟩).run P w = .ok (.value u) w) → K) : K := by
 rcases hv with ⟨_, rfl⟩ | ⟨b, c, cs, rfl, hc, ho, hm, hh, hsz, hf⟩
 ·exact (Js hi).elim
 obtain ⟨h0, hi'⟩ := Wr hi
 obtain ⟨cl, hrep, hcell⟩ := hf.get hi'
 refine k _ ⟨cl, hrep, rfl⟩ fun e g w hx he d ty pos af gd => ?_
 have hh' : CF w b cs et := hh.same (hx.2 b hh.lt ho)
 have hrun := T3 (P := P) (b := b) (off := i.toNat * GoT.k α) ha hs (GoT.mono hx.1 hrep) fun j v hj => by
  have h1 := hcell j v hj
  rw [List.getElem?_take] at h1
  split at h1
  ·rw [hh'.cell]
   simpa using h1
  ·cases h1
 simp only [Gq, Nat.zero_add] at he
 simp [execOp, he, Instr.loadAt, Instr.sureAddr, hrun]
end
end Go.Proofs.YtmebkoemfjlbcaaGreatDoor
