/- Ranges over functions: an iterator is a function of what its consumer does with each element. No program is named here. -/
import Derived.Test.YtmebkoemfjlbcaaGreatDoorOwm
import Derived.RangeFuncLeaves
namespace Go.Proofs.YtmebkoemfjlbcaaGreatDoor
open Go.RowKit

/-! ### Steps of another party -/
structure Dq (B : Nat) (g : Gh) (w : World) (g' : Gh) (w' : World) : Prop where
 st : Stp 0 g w g' w'
 below : Below B w w'
 m : ∀ b, b < B → g'.m b = g.m b
 o : ∀ b, b < B → g'.o b = g.o b
structure RFr (g : Gh) (w : World) (g' : Gh) (w' : World) : Prop where
 os : w'.os = w.os
 tape : w'.tape = w.tape
 output : w'.output = w.output
 ch : Ch g.m w g'.m w'
 block : ∀ b, b < w.heap.size → (g.o b = 0 ∨ g.o b = 9) → w'.heap[b]? = w.heap[b]?
 m : ∀ b, b < w.heap.size → (g.o b = 0 ∨ g.o b = 9) → g'.m b = g.m b
 o : ∀ b, b < w.heap.size → (g.o b = 0 ∨ g.o b = 9) → g'.o b = g.o b
theorem RFr.refl (g : Gh) (w : World) : RFr g w g w := ⟨rfl, rfl, rfl, Ch.refl _ _, fun _ _ _ => rfl, fun _ _ _ => rfl, fun _ _ _ => rfl⟩
theorem RFr.stp {i : Nat} {g0 g g' : Gh} {w0 w w' : World} (h : RFr g0 w0 g w) (k : Stp i g w g' w') (hi : (Nat.beq i 0 || Nat.beq i 9) = false := by rfl) : RFr g0 w0 g' w' := by
 simp only [Bool.or_eq_false_iff] at hi
 have hne : ∀ b, b < w0.heap.size → (g0.o b = 0 ∨ g0.o b = 9) → g.o b ≠ i := fun b hb h0 he => by
  rw [h.o b hb h0] at he
  rcases h0 with h0 | h0 <;> (rw [h0] at he; subst he; simp at hi)
 have hlt : ∀ b, b < w0.heap.size → b < w.heap.size := fun b hb => Nat.lt_of_lt_of_le hb h.ch.size
 exact ⟨k.os.trans h.os, k.tape.trans h.tape, k.output.trans h.output, h.ch.trans k.ch, fun b hb h0 => (k.block b (hlt b hb) (hne b hb h0)).trans (h.block b hb h0),
  fun b hb h0 => (k.m b (hlt b hb) (hne b hb h0)).trans (h.m b hb h0), fun b hb h0 => (k.o b (hlt b hb) (hne b hb h0)).trans (h.o b hb h0)⟩
theorem RFr.ext {g0 g g' : Gh} {w0 w w' : World} (h : RFr g0 w0 g w) (k : Ext g w g' w') : RFr g0 w0 g' w' := by
 have hlt : ∀ b, b < w0.heap.size → b < w.heap.size := fun b hb => Nat.lt_of_lt_of_le hb h.ch.size
 exact ⟨k.below.os.trans h.os, k.below.tape.trans h.tape, k.below.output.trans h.output, h.ch.trans k.ch, fun b hb h0 => (k.below.block b (hlt b hb)).trans (h.block b hb h0),
  fun b hb h0 => (k.m b (hlt b hb)).trans (h.m b hb h0), fun b hb h0 => (k.o b (hlt b hb)).trans (h.o b hb h0)⟩
section facts
variable {α : Type} [GoT α] {B i j : Nat} {g g' : Gh} {w w' : World} {t : TypeId} {p v : Value} {x : α} {xs : List α}
theorem PT.ist (h : PT g.m w x p) (k : Dq B g w g' w') : PT g'.m w' x p := h.ch k.st.ch
theorem OB.ist (h : OB i g w t x p) (k : Dq B g w g' w') (hi : Nat.beq i 0 = false := by rfl) : OB i g' w' t x p := h.stp k.st hi
end facts
theorem Fr.ist {B : Nat} {g0 g g' : Gh} {w0 w w' : World} (h : Fr g0 w0 g w) (k : Dq B g w g' w') (hB : w0.heap.size ≤ B) : Fr g0 w0 g' w' :=
 ⟨h.below.trans (k.below.mono hB), fun b hb => (k.m b (by omega)).trans (h.m b hb), fun b hb => (k.o b (by omega)).trans (h.o b hb)⟩
theorem Fr.size {g0 g : Gh} {w0 w : World} (h : Fr g0 w0 g w) : w0.heap.size ≤ w.heap.size := h.below.size
def HB (i : Nat) (g : Gh) (w : World) (b : Nat) (ob : Obj) : Prop := g.o b = i ∧ w.heap[b]? = some ob
theorem HB.ext {i b : Nat} {g g' : Gh} {w w' : World} {ob : Obj} (h : HB i g w b ob) (k : Ext g w g' w') : HB i g' w' b ob := ⟨(k.o b (Gw h.2)).trans h.1, (k.below.block b (Gw h.2)).trans h.2⟩
theorem HB.stp {i j b : Nat} {g g' : Gh} {w w' : World} {ob : Obj} (h : HB i g w b ob) (k : Stp j g w g' w') (hne : Nat.beq i j = false) : HB i g' w' b ob := by
 have hij : g.o b ≠ j := by rw [h.1]; intro he; rw [he] at hne; simp at hne
 exact ⟨(k.o b (Gw h.2) hij).trans h.1, (k.block b (Gw h.2) hij).trans h.2⟩
theorem HB.ist {B i b : Nat} {g g' : Gh} {w w' : World} {ob : Obj} (h : HB i g w b ob) (k : Dq B g w g' w') (hi : Nat.beq i 0 = false := by rfl) : HB i g' w' b ob := h.stp k.st hi

def Mks (g : Gh) (w : World) (ds : List Deferred) : Prop := ∀ d ∈ ds, ∃ D, d = { target := .collected D, args := #[] } ∧ HB 9 g w D (.deferred (some []))
def Nq (ds : List Deferred) : Prop := (ds.map (fun d : Deferred => d.target)).Nodup
structure MkF (g : Gh) (w : World) (ds : List Deferred) : Prop where
 mks : Mks g w ds
 nd : Nq ds
section
variable {g g' : Gh} {w w' : World} {ds : List Deferred}
theorem MkF.start : MkF g w [] := ⟨by simp [Mks], by simp [Nq]⟩
theorem MkF.ext (h : MkF g w ds) (k : Ext g w g' w') : MkF g' w' ds := ⟨fun d hd => let ⟨D, h1, h2⟩ := h.mks d hd; ⟨D, h1, h2.ext k⟩, h.nd⟩
theorem MkF.stp {j : Nat} (h : MkF g w ds) (k : Stp j g w g' w') (hj : Nat.beq 9 j = false := by rfl) : MkF g' w' ds := ⟨fun d hd => let ⟨D, h1, h2⟩ := h.mks d hd; ⟨D, h1, h2.stp k hj⟩, h.nd⟩
theorem MkF.ist {B : Nat} (h : MkF g w ds) (k : Dq B g w g' w') : MkF g' w' ds := ⟨fun d hd => let ⟨D, h1, h2⟩ := h.mks d hd; ⟨D, h1, h2.ist k⟩, h.nd⟩
end

/-! ### The contract of an iterator -/
abbrev Rds (α : Type) := (Nat → Nat) → World → α → Array Value → Prop
def RA1 {α : Type} [GoT α] : Rds α := fun m w x vs => ∃ v, vs = #[v] ∧ RV m w x v
abbrev U9 (σ α : Type) := σ → α → Option (Bool × σ)
abbrev It (α : Type) := ∀ (σ : Type), U9 σ α → σ → Option σ
abbrev Inv (σ : Type) := σ → Gh → World → Prop
def Cz {σ : Type} (B : Nat) (J : Inv σ) : Prop := ∀ s g w g' w', Dq B g w g' w' → J s g w → J s g' w'
def V6 {σ α : Type} (P : Program) (l : Nat) (ra : Rds α) (cons : U9 σ α) (J : Inv σ) : Prop :=
 ∀ s x b s' g w vs, cons s x = some (b, s') → J s g w → ra g.m w x vs → YieldAt Fence.wide 0 P l vs w fun r w' => r = .returned (.bool b) ∧ ∃ g', RFr g w g' w' ∧ J s' g' w'
def Rx {σ α : Type} (P : Program) (ra : Rds α) (f : FuncId) (first caps : Array Value) (g : Gh) (w : World) (cons : U9 σ α) (s s' : σ) : Prop :=
 ∀ (l B : Nat) (J : Inv σ) (gC : Gh), gC.m = g.m → B ≤ w.heap.size → Cz B J → V6 P l ra cons J → J s gC w →
  Calls P f (first ++ #[.func (.yield l) #[] #[]] ++ caps) w fun r w' => (∃ v, r = .returned v) ∧ ∃ gC', J s' gC' w'
def ItV {α : Type} (P : Program) (ra : Rds α) (φ : It α) (v : Value) (m : Nat → Nat) (w : World) : Prop :=
 ∃ f first caps, v = .func (.func f) first caps ∧ Enters P f ∧ ∀ (g' : Gh) (w' : World), Ch m w g'.m w' → ∀ (σ : Type) (cons : U9 σ α) (s s' : σ), φ σ cons s = some s' → Rx P ra f first caps g' w' cons s s'
theorem ItV.ch {α : Type} {P : Program} {ra : Rds α} {φ : It α} {v : Value} {m m' : Nat → Nat} {w w' : World} (h : ItV P ra φ v m w) (k : Ch m w m' w') : ItV P ra φ v m' w' := by
 obtain ⟨f, a, c, h1, h2, h3⟩ := h; exact ⟨f, a, c, h1, h2, fun g'' w'' k' => h3 g'' w'' (k.trans k')⟩
section
variable {α : Type} {P : Program} {ra : Rds α} {φ : It α} {v : Value} {g g' : Gh} {w w' : World}
theorem ItV.ext (h : ItV P ra φ v g.m w) (k : Ext g w g' w') : ItV P ra φ v g'.m w' := h.ch k.ch
theorem ItV.stp {i : Nat} (h : ItV P ra φ v g.m w) (k : Stp i g w g' w') : ItV P ra φ v g'.m w' := h.ch k.ch
theorem ItV.ist {B : Nat} (h : ItV P ra φ v g.m w) (k : Dq B g w g' w') : ItV P ra φ v g'.m w' := h.ch k.st.ch
end

/-! ### The frame of an iterator: its consumer's state -/
structure FrY {σ : Type} (gI : Gh) (wI : World) (B : Nat) (J : Inv σ) (s : σ) (g : Gh) (w : World) : Prop where
 ch : Ch gI.m wI g.m w
 hB : B ≤ w.heap.size
 own : ∀ b, b < w.heap.size → g.o b ≠ 0 → g.o b ≠ 2 → B ≤ b
 inv : ∃ gC : Gh, gC.m = g.m ∧ (∀ b, b < w.heap.size → gC.o b ≠ 0 → g.o b = 2) ∧ J s gC w
section
variable {σ : Type} {gI : Gh} {wI : World} {B : Nat} {J : Inv σ} {s : σ} {g g' : Gh} {w w' : World}
theorem FrY.step (hJ : Cz B J) (h : FrY gI wI B J s g w) {j : Nat} (hj : j ≠ 2) (k : Stp j g w g' w') (hown : ∀ b, b < w.heap.size → g.o b = j → B ≤ b ∨ (w'.heap[b]? = w.heap[b]? ∧ g'.m b = g.m b ∧ g'.o b = g.o b)) : FrY gI wI B J s g' w' := by
 obtain ⟨gC, hm, ho, hJs⟩ := h.inv
 have hlt : ∀ b, b < B → b < w.heap.size := fun b hb => Nat.lt_of_lt_of_le hb h.hB
 have hbl : ∀ b, b < B → w'.heap[b]? = w.heap[b]? ∧ g'.m b = g.m b ∧ g'.o b = g.o b := fun b hb => by
  by_cases hbj : g.o b = j
  ·exact (hown b (hlt b hb) hbj).resolve_left (by omega)
  ·exact ⟨k.block b (hlt b hb) hbj, k.m b (hlt b hb) hbj, k.o b (hlt b hb) hbj⟩
 refine ⟨h.ch.trans k.ch, Nat.le_trans h.hB k.ch.size, fun b hb h0 h2 => ?_, { m := g'.m, o := fun b => if b < w.heap.size then gC.o b else 0 }, rfl, fun b hb h0 => ?_, ?_⟩
 ·by_cases hbB : b < B
  ·have := h.own b (hlt b hbB) (by rw [← (hbl b hbB).2.2]; exact h0) (by rw [← (hbl b hbB).2.2]; exact h2); omega
  ·omega
 ·by_cases hbw : b < w.heap.size
  ·simp only [hbw, if_true] at h0
   have h1 := ho b hbw h0
   rw [k.o b hbw (by rw [h1]; omega)]; exact h1
  ·simp [hbw] at h0
 ·refine hJ s gC w _ w' ⟨⟨k.os, k.tape, k.output, by rw [hm]; exact k.ch, fun b hb h0 => ?_, fun b hb h0 => ?_, fun b hb h0 => by simp [hb]⟩, ⟨k.os, k.tape, k.output, k.ch.size, fun b hb => (hbl b hb).1⟩, fun b hb => ?_, fun b hb => by simp [hlt b hb]⟩ hJs
  ·exact k.block b hb (by rw [ho b hb h0]; omega)
  ·show g'.m b = _; rw [hm]; exact k.m b hb (by rw [ho b hb h0]; omega)
  ·show g'.m b = _; rw [hm]; exact (hbl b hb).2.1
theorem FrY.stp_ (hJ : Cz B J) {j : Nat} (h : FrY gI wI B J s g w) (k : Stp j g w g' w') (hj : (Nat.beq j 0 || Nat.beq j 2) = false) : FrY gI wI B J s g' w' := by
 simp only [Bool.or_eq_false_iff] at hj
 refine h.step hJ (fun he => by subst he; simp at hj) k (fun b hb hbj => .inl (h.own b hb (fun h0 => ?_) (fun h2 => ?_)))
 ·rw [hbj] at h0; subst h0; simp at hj
 ·rw [hbj] at h2; subst h2; simp at hj
theorem FrY.ext_ (hJ : Cz B J) (h : FrY gI wI B J s g w) (k : Ext g w g' w') : FrY gI wI B J s g' w' :=
 h.step hJ (j := 0) (by omega) k.stp (fun b hb _ => .inr ⟨k.below.block b hb, k.m b hb, k.o b hb⟩)
theorem FrY.ist_ (hJ : Cz B J) {B' : Nat} (h : FrY gI wI B J s g w) (k : Dq B' g w g' w') (hB : B ≤ B') : FrY gI wI B J s g' w' :=
 h.step hJ (j := 0) (by omega) k.st (fun b hb _ => by
  by_cases hb' : b < B'
  ·exact .inr ⟨k.below.block b hb', k.m b hb', k.o b hb'⟩
  ·exact .inl (by omega))
theorem FrY.start (hB : B ≤ wI.heap.size) {gC : Gh} (hm : gC.m = gI.m) (hJs : J s gC wI) : FrY gI wI B J s { m := gI.m, o := fun b => if gC.o b = 0 then 0 else 2 } wI := by
 refine ⟨Ch.refl _ _, hB, fun b hb h0 h2 => ?_, gC, hm, fun b hb h0 => by simp [h0], hJs⟩
 by_cases h : gC.o b = 0
 ·simp [h] at h0
 ·simp [h] at h2
end
section
variable {P : Program} {e : Env} {w : World} {g : Gh} {K : Value → World → Prop} {σ α : Type} {cons : U9 σ α} {J : Inv σ} {gI : Gh} {wI : World} {B l : Nat} {s s' : σ}
theorem Lr {ra : Rds α} {x : α} {b : Bool} {c : Operand} {xs : List Operand} {vs : List Value} {ats : Array TypeId} (hx : ev e c = .func (.yield l) #[] #[]) (ha : Args e xs vs) (hR : V6 P l ra cons J) (hfr : FrY gI wI B J s g w)
  (hc : cons s x = some (b, s')) (hv : ra g.m w x vs.toArray) (h : ∀ g' w', Stp 2 g w g' w' → FrY gI wI B J s' g' w' → K (.bool b) w') : Doe P (.call { callee := .value c, args := xs.toArray, argTypes := ats }) e w K := fun d ty pos af gd => by
 obtain ⟨gC, hm, ho, hJs⟩ := hfr.inv
 obtain ⟨fn, tmps, assign, body, hrun, hround⟩ := hR s x b s' gC w vs.toArray hc hJs (by rw [hm]; exact hv)
 have hrun2 : (execOp (ev e) ⟨d, .call { callee := .value c, args := xs.toArray, argTypes := ats }, ty, pos, af, gd⟩).run P w = .ok (.round l fn tmps assign body) w := by
  simp only [execOp, resolve, hx, Deferred.ofValue, Sem.run_bind, Sem.run_pure, Result.andThen_ok, invoke, List.map_toArray, ha.map, Array.empty_append, hrun]
 unfold doE; rw [hrun2]
 refine RoundIn.mono hround ?_
 rintro r w' ⟨rfl, gC', hr, hJ'⟩
 refine ⟨_, rfl, h { m := gC'.m, o := fun b => if gC'.o b ≠ 0 then 2 else if b < w.heap.size then g.o b else 0 } w' ?_ ?_⟩
 ·refine ⟨hr.os, hr.tape, hr.output, by rw [← hm]; exact hr.ch, fun b hb h2 => hr.block b hb (.inl ?_), fun b hb h2 => ?_, fun b hb h2 => ?_⟩
  ·exact Classical.byContradiction fun h0 => h2 (ho b hb h0)
  ·show gC'.m b = _; rw [← hm]; exact hr.m b hb (.inl (Classical.byContradiction fun h0 => h2 (ho b hb h0)))
  ·have hz : gC.o b = 0 := Classical.byContradiction fun h0 => h2 (ho b hb h0)
   have h0 := hr.o b hb (.inl hz)
   rw [hz] at h0
   simp [h0, hb]
 ·refine ⟨hfr.ch.trans (by rw [← hm]; exact hr.ch), Nat.le_trans hfr.hB hr.ch.size, fun b hb h0 h2 => ?_, gC', rfl, fun b hb h0 => by simp [h0], hJ'⟩
  by_cases h1 : gC'.o b = 0
  ·by_cases hbw : b < w.heap.size
   ·simp only [h1, ne_eq, not_true_eq_false, if_false, hbw, if_true] at h0 h2
    exact hfr.own b hbw h0 h2
   ·have := hfr.hB; omega
  ·simp [h1] at h2
end

/-! ### Ends with marks -/
def Dg (P : Program) (fn : Func) (R : Value → World → Prop) : Kx
 | .normal, e, ds, w | .ret, e, ds, w => ∀ tmps : Array Value, (∀ t, tmps.getD t undef = e t) → LeavesInM Fence.wide 0 P fn tmps (fun r w' => ∃ v, r = .returned v ∧ R v w') ds .returning w
 | _, _, _, _ => False
theorem Xj {P : Program} {w : World} {f : FuncId} {fn : Func} {c : Code} {args : Array Value} {R : Value → World → Prop} (hf : P.funcs[f]? = some fn) (hb : fn.body = some c) (hN : args.size ≤ fn.ntmps)
  (h : E P fn.ntmps none c (Dg P fn R) (W8 args) [] w) : Calls P f args w fun r w' => ∃ v, r = .returned v ∧ R v w' := by
 refine callsIn_wide.1 (callsIn_of_wp_marks (n := 0) hf hb trivial ?_ rfl)
 have hsz : (args ++ Array.replicate (fn.ntmps - args.size) undef).size = fn.ntmps := by simp; omega
 have hget : ∀ t, (args ++ Array.replicate (fn.ntmps - args.size) undef).getD t undef = W8 args t := by
  intro t
  unfold W8
  simp only [Array.getD_eq_getD_getElem?, Array.getElem?_append, Array.getElem?_replicate]
  by_cases ht : t < args.size
  ·simp [ht]
  ·simp only [ht, if_false]
   rw [Array.getElem?_eq_none (by omega)]
   split <;> rfl
 refine wpIn_mono (h _ ⟨hsz, hget⟩ rfl) ?_
 rintro x a' w' ⟨_, hq⟩
 cases x <;> simp only [Dg] at hq <;> first | exact hq.elim | exact hq a'.tmps (fun _ => rfl)
theorem Pe {P : Program} {fn : Func} {R : Value → World → Prop} {e : Env} {x : Exit} (hx : x = .normal ∨ x = .ret) : ∀ {ds : List Deferred} {g : Gh} {w : World}, MkF g w ds → (∀ g' w', Stp 9 g w g' w' → K3 P fn R x e [] w') → Dg P fn R x e ds w := by
 suffices hs : ∀ {ds : List Deferred} {g : Gh} {w : World}, Mks g w ds → Nq ds → (∀ g' w', Stp 9 g w g' w' → K3 P fn R x e [] w') → ∀ tmps : Array Value, (∀ t, tmps.getD t undef = e t) → LeavesInM Fence.wide 0 P fn tmps (fun r w' => ∃ v, r = .returned v ∧ R v w') ds .returning w by
  intro ds g w hfr h
  rcases hx with rfl | rfl <;> exact hs hfr.mks hfr.nd h
 intro ds
 induction ds with
 | nil =>
  intro g w _ _ h tmps ht
  have hend := h g w ⟨rfl, rfl, rfl, Ch.refl _ _, fun _ _ _ => rfl, fun _ _ _ => rfl, fun _ _ _ => rfl⟩
  have : ∃ v, (results fn tmps).run P w = .ok v w ∧ R v w := by rcases hx with rfl | rfl <;> exact hend.2 tmps ht
  obtain ⟨v, hv, hR⟩ := this
  show LeavesIn _ _ _ _ _ _ [] _ _
  exact ⟨v, hv, v, rfl, hR⟩
 | cons d ds ih =>
  intro g w hmk hnd h tmps ht
  obtain ⟨D, rfl, ho, hh⟩ := hmk d (by simp)
  have hnd' : Nq ds := (List.nodup_cons.1 hnd).2
  have hnot : ∀ d ∈ ds, d.target ≠ .collected D := fun d hd he => (List.nodup_cons.1 hnd).1 (by rw [List.mem_map]; exact ⟨d, hd, he⟩)
  have hst : Stp 9 g w g (w.putObj D (.deferred none)) := by
   refine ⟨rfl, rfl, rfl, ⟨by simp, fun _ _ => Nat.le_refl _, fun b hb j _ => ?_⟩, fun b hb hn => World.putObj_heap_other (fun he => hn (by rw [he]; exact ho)), fun _ _ _ => rfl, fun _ _ _ => rfl⟩
   by_cases hbD : b = D
   ·subst hbD
    simp only [World.cell?, World.putObj_heap_same (Gw hh), hh]
   ·simp only [World.cell?, World.putObj_heap_other hbD]
  refine ⟨by simp, .inl ⟨D, _, rfl, run_takeDeferred hh, ih (g := g) (fun d' hd' => ?_) hnd' (fun g' w' hs => h g' w' (hst.trans hs)) tmps ht⟩⟩
  obtain ⟨D', rfl, ho', hh'⟩ := hmk d' (by simp [hd'])
  have hne : D' ≠ D := fun he => hnot _ hd' (by rw [he])
  exact ⟨D', rfl, ho', (World.putObj_heap_other hne).trans hh'⟩
end Go.Proofs.YtmebkoemfjlbcaaGreatDoor
