/- Ranges over functions: an iterator is a function of what its consumer does with each element. No program is named here. -/
import Derived.Test.YtkmbkaoolacofaaGreatOwm
import Derived.RangeFuncLeaves
import Derived.RangeFuncNested
namespace Go.Proofs.YtkmbkaoolacofaaGreat
open Go.RowKit

/-! ### Steps of another party -/
structure IStp (B : Nat) (g : Gh) (w : World) (g' : Gh) (w' : World) : Prop where
 st : Stp 0 g w g' w'
 below : Below B w w'
 m : ∀ b, b < B → g'.m b = g.m b
 o : ∀ b, b < B → g'.o b = g.o b
structure RFr (g : Gh) (w : World) (g' : Gh) (w' : World) : Prop where
 os : w'.os = w.os
 tape : w'.tape = w.tape
 output : w'.output = w.output
 ch : Ch g.m w g'.m w'
 block : ∀ b, b < w.heap.size → (g.o b = 0 ∨ g.o b = 9) → w'.heap[b]? = w.heap[b]?
 m : ∀ b, b < w.heap.size → (g.o b = 0 ∨ g.o b = 9) → g'.m b = g.m b
 o : ∀ b, b < w.heap.size → (g.o b = 0 ∨ g.o b = 9) → g'.o b = g.o b
theorem RFr.refl (g : Gh) (w : World) : RFr g w g w := ⟨rfl, rfl, rfl, Ch.refl _ _, fun _ _ _ => rfl, fun _ _ _ => rfl, fun _ _ _ => rfl⟩
theorem RFr.stp {i : Nat} {g0 g g' : Gh} {w0 w w' : World} (h : RFr g0 w0 g w) (k : Stp i g w g' w') (hi : (Nat.beq i 0 || Nat.beq i 9) = false := by rfl) : RFr g0 w0 g' w' := by
 simp only [Bool.or_eq_false_iff] at hi
 have hne : ∀ b, b < w0.heap.size → (g0.o b = 0 ∨ g0.o b = 9) → g.o b ≠ i := fun b hb h0 he => by
  rw [h.o b hb h0] at he
  rcases h0 with h0 | h0 <;> (rw [h0] at he; subst he; simp at hi)
 have hlt : ∀ b, b < w0.heap.size → b < w.heap.size := fun b hb => Nat.lt_of_lt_of_le hb h.ch.size
 exact ⟨k.os.trans h.os, k.tape.trans h.tape, k.output.trans h.output, h.ch.trans k.ch, fun b hb h0 => (k.block b (hlt b hb) (hne b hb h0)).trans (h.block b hb h0),
  fun b hb h0 => (k.m b (hlt b hb) (hne b hb h0)).trans (h.m b hb h0), fun b hb h0 => (k.o b (hlt b hb) (hne b hb h0)).trans (h.o b hb h0)⟩
theorem RFr.ext {g0 g g' : Gh} {w0 w w' : World} (h : RFr g0 w0 g w) (k : Ext g w g' w') : RFr g0 w0 g' w' := by
 have hlt : ∀ b, b < w0.heap.size → b < w.heap.size := fun b hb => Nat.lt_of_lt_of_le hb h.ch.size
 exact ⟨k.below.os.trans h.os, k.below.tape.trans h.tape, k.below.output.trans h.output, h.ch.trans k.ch, fun b hb h0 => (k.below.block b (hlt b hb)).trans (h.block b hb h0),
  fun b hb h0 => (k.m b (hlt b hb)).trans (h.m b hb h0), fun b hb h0 => (k.o b (hlt b hb)).trans (h.o b hb h0)⟩
theorem RFr.size {g0 g : Gh} {w0 w : World} (h : RFr g0 w0 g w) : w0.heap.size ≤ w.heap.size := h.ch.size

section facts
variable {α : Type} [GoT α] {B i j : Nat} {g g' : Gh} {w w' : World} {t : TypeId} {p v : Value} {x : α} {xs : List α}
end facts
theorem Fr.size {g0 g : Gh} {w0 w : World} (h : Fr g0 w0 g w) : w0.heap.size ≤ w.heap.size := h.below.size
theorem FrM.size {i : Nat} {g0 g : Gh} {w0 w : World} (h : FrM i g0 w0 g w) : w0.heap.size ≤ w.heap.size := h.ch.size

def HB (i : Nat) (g : Gh) (w : World) (b : Nat) (ob : Obj) : Prop := g.o b = i ∧ w.heap[b]? = some ob
theorem HB.ext {i b : Nat} {g g' : Gh} {w w' : World} {ob : Obj} (h : HB i g w b ob) (k : Ext g w g' w') : HB i g' w' b ob := ⟨(k.o b (lt_of_heap h.2)).trans h.1, (k.below.block b (lt_of_heap h.2)).trans h.2⟩
theorem HB.stp {i j b : Nat} {g g' : Gh} {w w' : World} {ob : Obj} (h : HB i g w b ob) (k : Stp j g w g' w') (hne : Nat.beq i j = false) : HB i g' w' b ob := by
 have hij : g.o b ≠ j := by rw [h.1]; intro he; rw [he] at hne; simp at hne
 exact ⟨(k.o b (lt_of_heap h.2) hij).trans h.1, (k.block b (lt_of_heap h.2) hij).trans h.2⟩
def Mks (g : Gh) (w : World) (ds : List Deferred) : Prop := ∀ d ∈ ds, ∃ D, d = { target := .collected D, args := #[] } ∧ HB 9 g w D (.deferred (some []))
def MksN (ds : List Deferred) : Prop := (ds.map (fun d : Deferred => d.target)).Nodup
structure MkF (g : Gh) (w : World) (ds : List Deferred) : Prop where
 mks : Mks g w ds
 nd : MksN ds
section
variable {g g' : Gh} {w w' : World} {ds : List Deferred}
theorem MkF.ext (h : MkF g w ds) (k : Ext g w g' w') : MkF g' w' ds := ⟨fun d hd => let ⟨D, h1, h2⟩ := h.mks d hd; ⟨D, h1, h2.ext k⟩, h.nd⟩
theorem MkF.stp {j : Nat} (h : MkF g w ds) (k : Stp j g w g' w') (hj : Nat.beq 9 j = false := by rfl) : MkF g' w' ds := ⟨fun d hd => let ⟨D, h1, h2⟩ := h.mks d hd; ⟨D, h1, h2.stp k hj⟩, h.nd⟩
end

/-! ### The contract of an iterator -/
abbrev Rds (α : Type) := (Nat → Nat) → World → α → Array Value → Prop
abbrev Cons (σ α : Type) := σ → α → Option (Bool × σ)
abbrev It (α : Type) := ∀ (σ : Type), Cons σ α → σ → Option σ
abbrev Inv (σ : Type) := σ → Gh → World → Prop
def Abid {σ : Type} (B : Nat) (J : Inv σ) : Prop := ∀ s g w g' w', IStp B g w g' w' → J s g w → J s g' w'
def RoundOk {σ α : Type} (P : Program) (l : Nat) (ra : Rds α) (cons : Cons σ α) (J : Inv σ) : Prop :=
 ∀ s x b s' g w vs, cons s x = some (b, s') → J s g w → ra g.m w x vs → YieldAt Fence.wide 0 P l vs w fun r w' => r = .returned (.bool b) ∧ ∃ g', RFr g w g' w' ∧ J s' g' w'
def IterC {σ α : Type} (P : Program) (ra : Rds α) (f : FuncId) (first caps : Array Value) (g : Gh) (w : World) (cons : Cons σ α) (s s' : σ) : Prop :=
 ∀ (l B : Nat) (J : Inv σ) (gC : Gh), gC.m = g.m → B ≤ w.heap.size → Abid B J → RoundOk P l ra cons J → J s gC w →
  Calls P f (first ++ #[.func (.yield l) #[] #[]] ++ caps) w fun r w' => (∃ v, r = .returned v) ∧ ∃ gC', J s' gC' w'
def ItV {α : Type} (P : Program) (ra : Rds α) (φ : It α) (v : Value) (m : Nat → Nat) (w : World) : Prop :=
 ∃ f first caps, v = .func (.func f) first caps ∧ Enters P f ∧ ∀ (g' : Gh) (w' : World), Ch m w g'.m w' → ∀ (σ : Type) (cons : Cons σ α) (s s' : σ), φ σ cons s = some s' → IterC P ra f first caps g' w' cons s s'
theorem ItV.ch {α : Type} {P : Program} {ra : Rds α} {φ : It α} {v : Value} {m m' : Nat → Nat} {w w' : World} (h : ItV P ra φ v m w) (k : Ch m w m' w') : ItV P ra φ v m' w' := by
 obtain ⟨f, a, c, h1, h2, h3⟩ := h; exact ⟨f, a, c, h1, h2, fun g'' w'' k' => h3 g'' w'' (k.trans k')⟩
section
variable {α : Type} {P : Program} {ra : Rds α} {φ : It α} {v : Value} {g g' : Gh} {w w' : World}
theorem ItV.ext (h : ItV P ra φ v g.m w) (k : Ext g w g' w') : ItV P ra φ v g'.m w' := h.ch k.ch
theorem ItV.stp {i : Nat} (h : ItV P ra φ v g.m w) (k : Stp i g w g' w') : ItV P ra φ v g'.m w' := h.ch k.ch
end

/-! ### The frame of an iterator: its consumer's state -/
structure FrY {σ : Type} (gI : Gh) (wI : World) (B : Nat) (J : Inv σ) (s : σ) (g : Gh) (w : World) : Prop where
 ch : Ch gI.m wI g.m w
 hB : B ≤ w.heap.size
 own : ∀ b, b < w.heap.size → g.o b ≠ 0 → g.o b ≠ 2 → B ≤ b
 inv : ∃ gC : Gh, gC.m = g.m ∧ (∀ b, b < w.heap.size → gC.o b ≠ 0 → g.o b = 2) ∧ J s gC w
section
variable {σ : Type} {gI : Gh} {wI : World} {B : Nat} {J : Inv σ} {s : σ} {g g' : Gh} {w w' : World}
theorem FrY.step (hJ : Abid B J) (h : FrY gI wI B J s g w) {j : Nat} (hj : j ≠ 2) (k : Stp j g w g' w') (hown : ∀ b, b < w.heap.size → g.o b = j → B ≤ b ∨ (w'.heap[b]? = w.heap[b]? ∧ g'.m b = g.m b ∧ g'.o b = g.o b)) : FrY gI wI B J s g' w' := by
 obtain ⟨gC, hm, ho, hJs⟩ := h.inv
 have hlt : ∀ b, b < B → b < w.heap.size := fun b hb => Nat.lt_of_lt_of_le hb h.hB
 have hbl : ∀ b, b < B → w'.heap[b]? = w.heap[b]? ∧ g'.m b = g.m b ∧ g'.o b = g.o b := fun b hb => by
  by_cases hbj : g.o b = j
  ·exact (hown b (hlt b hb) hbj).resolve_left (by omega)
  ·exact ⟨k.block b (hlt b hb) hbj, k.m b (hlt b hb) hbj, k.o b (hlt b hb) hbj⟩
 refine ⟨h.ch.trans k.ch, Nat.le_trans h.hB k.ch.size, fun b hb h0 h2 => ?_, { m := g'.m, o := fun b => if b < w.heap.size then gC.o b else 0 }, rfl, fun b hb h0 => ?_, ?_⟩
 ·by_cases hbB : b < B
  ·have := h.own b (hlt b hbB) (by rw [← (hbl b hbB).2.2]; exact h0) (by rw [← (hbl b hbB).2.2]; exact h2); omega
  ·omega
 ·by_cases hbw : b < w.heap.size
  ·simp only [hbw, if_true] at h0
   have h1 := ho b hbw h0
   rw [k.o b hbw (by rw [h1]; omega)]; exact h1
  ·simp [hbw] at h0
 ·refine hJ s gC w _ w' ⟨⟨k.os, k.tape, k.output, by rw [hm]; exact k.ch, fun b hb h0 => ?_, fun b hb h0 => ?_, fun b hb h0 => by simp [hb]⟩, ⟨k.os, k.tape, k.output, k.ch.size, fun b hb => (hbl b hb).1⟩, fun b hb => ?_, fun b hb => by simp [hlt b hb]⟩ hJs
  ·exact k.block b hb (by rw [ho b hb h0]; omega)
  ·show g'.m b = _; rw [hm]; exact k.m b hb (by rw [ho b hb h0]; omega)
  ·show g'.m b = _; rw [hm]; exact (hbl b hb).2.1
end
section
variable {P : Program} {e : Env} {w : World} {g : Gh} {K : Value → World → Prop} {σ α : Type} {cons : Cons σ α} {J : Inv σ} {gI : Gh} {wI : World} {B l : Nat} {s s' : σ}
end

/-! ### Ends with marks -/
def atEndM (P : Program) (fn : Func) (R : Value → World → Prop) : Post
 | .normal, e, ds, w | .ret, e, ds, w => ∀ tmps : Array Value, (∀ t, tmps.getD t undef = e t) → LeavesInM Fence.wide 0 P fn tmps (fun r w' => ∃ v, r = .returned v ∧ R v w') ds .returning w
 | _, _, _, _ => False
theorem callsM_of_E {P : Program} {w : World} {f : FuncId} {fn : Func} {c : Code} {args : Array Value} {R : Value → World → Prop} (hf : P.funcs[f]? = some fn) (hb : fn.body = some c) (hN : args.size ≤ fn.ntmps)
  (h : E P fn.ntmps none c (atEndM P fn R) (envAt args) [] w) : Calls P f args w fun r w' => ∃ v, r = .returned v ∧ R v w' := by
 refine callsIn_wide.1 (callsIn_of_wp_marks (n := 0) hf hb trivial ?_ rfl)
 have hsz : (args ++ Array.replicate (fn.ntmps - args.size) undef).size = fn.ntmps := by simp; omega
 have hget : ∀ t, (args ++ Array.replicate (fn.ntmps - args.size) undef).getD t undef = envAt args t := by
  intro t
  unfold envAt
  simp only [Array.getD_eq_getD_getElem?, Array.getElem?_append, Array.getElem?_replicate]
  by_cases ht : t < args.size
  ·simp [ht]
  ·simp only [ht, if_false]
   rw [Array.getElem?_eq_none (by omega)]
   split <;> rfl
 refine wpIn_mono (h _ ⟨hsz, hget⟩ rfl) ?_
 rintro x a' w' ⟨_, hq⟩
 cases x <;> simp only [atEndM] at hq <;> first | exact hq.elim | exact hq a'.tmps (fun _ => rfl)
end Go.Proofs.YtkmbkaoolacofaaGreat
/- The statement that ranges over a function. No program is named here. -/
namespace Go.Proofs.YtkmbkaoolacofaaGreat
open Go.RowKit

theorem ext_alloc (i : Nat) (g : Gh) (w : World) (o : Obj) : Ext g w { m := updN g.m w.heap.size 0, o := updN g.o w.heap.size i } (w.alloc o) :=
 ⟨(Below.refl _ w).alloc (Nat.le_refl _) _, fun b hb => updN_ne _ _ (by omega), fun b hb => updN_ne _ _ (by omega)⟩
theorem MkF.push {g g' : Gh} {w w' : World} {ds : List Deferred} {D : Nat} (h0 : MkF g w ds) (h : MkF g' w' ds) (hD : w.heap.size ≤ D) (hb : HB 9 g' w' D (.deferred (some []))) : MkF g' w' ({ target := .collected D, args := #[] } :: ds) := by
 refine ⟨fun d hd => ?_, ?_⟩
 ·rcases List.mem_cons.1 hd with rfl | hd
  ·exact ⟨D, rfl, hb⟩
  ·exact h.mks d hd
 ·show (_ :: _).Nodup
  refine List.nodup_cons.2 ⟨fun hm => ?_, h.nd⟩
  obtain ⟨d, hd, he⟩ := List.mem_map.1 hm
  obtain ⟨D', rfl, h1⟩ := h0.mks d hd
  have hlt := lt_of_heap h1.2
  injection he with he
  omega

end Go.Proofs.YtkmbkaoolacofaaGreat
/- Own slices that lie in own variables. No program is named here. -/
namespace Go.Proofs.YtkmbkaoolacofaaGreat
open Go.RowKit

def OSF {β : Type} [GoT β] (i j off : Nat) (g : Gh) (w : World) (et t : TypeId) (xs : List β) (p : Value) : Prop :=
 ∃ b v cs, p = .pointer (some ⟨b, 0, none⟩) ∧ g.o b = i ∧ w.heap[b]? = some (.cells cs t (0, 0)) ∧ cs[off]? = some v ∧ OS j g w et xs v
section
variable {β : Type} [GoT β] {i j k off : Nat} {g g' : Gh} {w w' : World} {et t : TypeId} {xs : List β} {p : Value}
theorem OSF.ext (h : OSF i j off g w et t xs p) (hx : Ext g w g' w') : OSF i j off g' w' et t xs p := by
 obtain ⟨b, v, cs, hp, ho, hh, hv, hs⟩ := h
 exact ⟨b, v, cs, hp, (hx.o b (lt_of_heap hh)).trans ho, (hx.below.block b (lt_of_heap hh)).trans hh, hv, hs.ext hx⟩
theorem OSF.stp (h : OSF i j off g w et t xs p) (hx : Stp k g w g' w') (h1 : Nat.beq i k = false) (h2 : Nat.beq j k = false := by rfl) : OSF i j off g' w' et t xs p := by
 obtain ⟨b, v, cs, hp, ho, hh, hv, hs⟩ := h
 have hij : g.o b ≠ k := by rw [ho]; intro he; rw [he] at h1; simp at h1
 exact ⟨b, v, cs, hp, (hx.o b (lt_of_heap hh) hij).trans ho, (hx.block b (lt_of_heap hh) hij).trans hh, hv, hs.stp hx h2⟩
end
def CB (i : Nat) (g : Gh) (w : World) (t : TypeId) (p : Value) (cs : Array Value) : Prop := ∃ b, p = .pointer (some ⟨b, 0, none⟩) ∧ g.o b = i ∧ w.heap[b]? = some (.cells cs t (0, 0))
theorem CB.osf {β : Type} [GoT β] {i j off : Nat} {g : Gh} {w : World} {et t : TypeId} {p : Value} {cs : Array Value} (h : CB i g w t p cs) (hz : cs[off]? = some (.slice none 0 0)) : OSF i j off g w et t ([] : List β) p := by
 obtain ⟨b, hp, ho, hh⟩ := h
 exact ⟨b, _, cs, hp, ho, hh, hz, OS.nil⟩
section
variable {P : Program} {e : Env} {w : World} {g : Gh} {K : Value → World → Prop} {x y z : Operand}
theorem D_allocOc {α : Type} [GoT α] (i : Nat) {t : TypeId} {z : Value} (a : α) (hz : ∀ w, (zeroValue t).run P w = .ok z w) (hv : ∀ m w, RV m w a z) (h : ∀ g' w' p, Stp i g w g' w' → OB i g' w' t a p → CB i g' w' t p z.cells → K p w') : Doe P (.alloc t) e w K := fun d ty pos af gd => by
 have hrun : (execOp (ev e) ⟨d, .alloc t, ty, pos, af, gd⟩).run P w = .ok (.value (.pointer (some ⟨w.heap.size, 0, none⟩))) (w.alloc (.cells z.cells t)) := by
  simp [execOp, Instr.alloc, hz, newVar, newRow, Sem.run_bind, Result.andThen]
 unfold doE; rw [hrun]; exact h _ _ _ (stp_new i g w _ t 0) (ob_new (hv g.m w).cells) ⟨_, rfl, updN_same _ _ _, heap_new_at _ _⟩
theorem D_storeOc {α : Type} [GoT α] {i : Nat} {t t2 : TypeId} {p v : Value} {a a' : α} (hs : ∀ w, (sizeOf t).run P w = .ok (GoT.k α) w) (hx : ev e x = p) (hp : OB i g w t2 a p) (hy : ev e y = v) (hv : RV g.m w a' v)
  (h : ∀ g' w', Stp i g w g' w' → OB i g' w' t2 a' p → CB i g' w' t2 p v.cells → K undef w') : Doe P (.store t x y) e w K := fun d ty pos af gd => by
 obtain ⟨b, cs, rfl, ho, hm, hh, hr⟩ := hp
 have hsz := cells_size hv
 have hl := GoT.len hr
 have hrow : cs.toList.take 0 ++ v.cells.toList ++ cs.toList.drop (0 + v.cells.size) = v.cells.toList := by
  rw [List.take_zero, List.nil_append, List.drop_of_length_le (by simp at hl; simp; omega), List.append_nil]
 have hrun := storeVar_run (P := P) (t := t) (v := v) (b := b) (o := 0) (by rw [hsz]; exact hs) hh (by simp at hl; omega) (GoT.one hv.cells)
 rw [hrow] at hrun
 have hstp : Stp i g w g (w.setRow b v.cells.toList.toArray) := stp_row hh ho (fun j hj => by rw [hm] at hj; omega)
 have hrun2 : (execOp (ev e) ⟨d, .store t x y, ty, pos, af, gd⟩).run P w = .ok .skip (w.setRow b v.cells.toList.toArray) := by
  simp [execOp, hx, hy, Instr.storeAt, Instr.sureAddr, Result.andThen, hrun]
 unfold doE; rw [hrun2]
 exact h g _ hstp ⟨b, _, rfl, ho, hm, setRow_cells _ _ hh, by simpa using GoT.mono hstp.ch hv.cells⟩ ⟨b, rfl, ho, by simpa using setRow_cells b v.cells.toList.toArray hh⟩
def Rest (_i off k : Nat) (g : Gh) (w : World) (g' : Gh) (w' : World) (t : TypeId) (p : Value) : Prop :=
 ∃ b cs cs', p = .pointer (some ⟨b, 0, none⟩) ∧ g'.o b = g.o b ∧ w.heap[b]? = some (.cells cs t (0, 0)) ∧ w'.heap[b]? = some (.cells cs' t (0, 0)) ∧ (∀ j, j < off → cs'[j]? = cs[j]?) ∧ (∀ j, off + k ≤ j → cs'[j]? = cs[j]?)
theorem OSF.rest {β : Type} [GoT β] {i j off off2 k : Nat} {g g' : Gh} {w w' : World} {et t : TypeId} {xs : List β} {p : Value} (h : OSF i j off g w et t xs p) (hx : Stp i g w g' w') (hr : Rest i off2 k g w g' w' t p) (ho : (Nat.blt off off2 || Nat.ble (off2 + k) off) = true := by rfl) (hji : Nat.beq j i = false := by rfl) : OSF i j off g' w' et t xs p := by
 obtain ⟨b, v, cs, hp, ho', hh, hv, hs⟩ := h
 obtain ⟨b2, cs2, cs3, hp2, hgo, hh2, hh3, h1, h2⟩ := hr
 rw [hp] at hp2
 injection hp2 with he; injection he with he; injection he with he _
 subst he
 rw [hh] at hh2
 injection hh2 with he; injection he with he
 subst he
 refine ⟨b, v, cs3, hp, hgo.trans ho', hh3, ?_, hs.stp hx hji⟩
 rw [← hv]
 simp only [Bool.or_eq_true] at ho
 rcases ho with h | h
 ·exact h1 _ (Nat.le_of_ble_eq_true h)
 ·exact h2 _ (Nat.le_of_ble_eq_true h)
theorem fPtr0 {p : Value} (h : ∃ b o, p = .pointer (some ⟨b, o, none⟩)) : fPtr p 0 = p := by obtain ⟨b, o, rfl⟩ := h; rfl
end
theorem rv_cells1 {β : Type} [GoT β] {m : Nat → Nat} {w : World} {xs : List β} {v : Value} (h : RV m w xs v) : v.cells = #[v] := by
 obtain ⟨a, c, rfl, _⟩ := RV_list h; rfl
theorem L_loadO0 {α : Type} [GoT α] {i : Nat} {P : Program} {g0 : Gh} {w0 : World} {t t2 : TypeId} {x : Operand} {p : Value} {a : α} {K : Prop} (ha : ∀ w, (isAgg t).run P w = .ok (GoT.agg α) w) (hs : ∀ w, (sizeOf t).run P w = .ok (GoT.k α) w) (hp : OB i g0 w0 t2 a p)
  (k : ∀ v, RV g0.m w0 a v → (∀ (e : Env) (g : Gh) (w : World), (Ch g0.m w0 g.m w ∧ ∀ b, b < w0.heap.size → g0.o b = i → w.heap[b]? = w0.heap[b]?) → ev e x = p → ∀ d ty pos af gd, (execOp (ev e) ⟨d, .load t x, ty, pos, af, gd⟩).run P w = .ok (.value v) w) → K) : K :=
 L_loadO (f := fun x => x) Sub.id_ ha hs hp fun v hr hl => k v hr fun e g w hc he => hl e g w hc (he.trans (fPtr0 hp.ptr).symm)
/-! ### Joints where marks may have come -/
section
variable {P : Program} {N : Nat} {ro : Option Nat} {Q : Post} {e : Env} {ds : List Deferred} {w : World} {x y c : Code}
end
/-! ### Iterators -/
def DoneY {σ : Type} (J : Inv σ) (s : σ) (_ : Value) (w : World) : Prop := ∃ gC, J s gC w
theorem FrY.done {σ : Type} {gI : Gh} {wI : World} {B : Nat} {J : Inv σ} {s : σ} {g : Gh} {w : World} {v : Value} (h : FrY gI wI B J s g w) : DoneY J s v w := let ⟨gC, _, _, hJ⟩ := h.inv; ⟨gC, hJ⟩
/-! ### Function values as data -/
structure Fv where
 v : Value
 h : v.oneCell' = true
instance : GoT Fv where
 k := 1
 agg := false
 rep _ _ x cs := cs = [x.v]
 len h := by subst h; rfl
 one {m w x cs} h := by subst h; simpa using x.h
 mono _ h := h
 k1 _ := rfl
end Go.Proofs.YtkmbkaoolacofaaGreat
