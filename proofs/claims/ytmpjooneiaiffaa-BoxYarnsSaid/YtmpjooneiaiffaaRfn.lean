/- Arrays. No program is named here. -/
import Derived.Test.YtmpjooneiaiffaaOwn
import Derived.ChangeKeysEq
import Derived.RangeFuncLeaves
import Derived.RangeFuncNested
namespace Go.Proofs.Ytmpjooneiaiffaa
open Go.RowKit

theorem vec_idx {α : Type} {n : Nat} {x : Vector α n} {i : Int} {a : α} (hi : idx x.toList i = some a) : 0 ≤ i ∧ ∃ h : i.toNat < n, x[i.toNat] = a := by
 obtain ⟨h0, hi'⟩ := idx_some hi
 obtain ⟨hlt, ha⟩ := List.getElem?_eq_some_iff.1 hi'
 refine ⟨h0, by simpa using hlt, ?_⟩
 simpa using ha
section
variable {P : Program} {e : Env} {w : World} {x y : Operand}
theorem P_indexAddrA {α : Type} [GoT α] {n : Nat} {t et : TypeId} {p : Value} {v : Vector α n} {k : IntKind} {i : Int} {a : α} (ht : P.underlying t = some (.array n et)) (hs : ∀ w, (sizeOf et).run P w = .ok (GoT.k α) w)
  (hx : ev e x = p) (hp : ∃ b o, p = .pointer (some ⟨b, o, none⟩)) (hy : ev e y = .int k i) (hi : idx v.toList i = some a) : Pur P (.indexAddr t x y) e (fPtr p (i.toNat * GoT.k α)) := fun _ _ _ _ _ w' => by
 obtain ⟨b, o, rfl⟩ := hp
 obtain ⟨h0, hlt, _⟩ := vec_idx hi
 have hl : i < (n : Int) := by omega
 simp [execOp, hx, hy, Instr.indexAt, Instr.sureAddr, asIntOf, Sem.run_bind, run_underlying ht, h0, hl, hs, addr_add, fPtr]
theorem P_buildA {t et : TypeId} {n s : Nat} {zc : List Value} {xs : List (Nat × Operand)} {vs : List (Nat × Value)} (ch : List (List Value)) (ht : P.underlying t = some (.array n et))
  (hl : ((P.info? t).bind (·.zero)).map (·.cells.toList) = some zc) (hs : (P.info? et).map (·.size) = some s) (hz : zc = ch.flatten) (hc : ∀ c ∈ ch, c.length = s) (hps : Parts e xs vs) (hfit : fitCh ch vs) :
  Pur P (.build t xs.toArray) e (.agg (setCh ch vs).flatten.toArray) := fun _ _ _ _ _ w => by
 have hb : P.built t vs = some (setCh ch vs).flatten.toArray := by
  unfold Program.built
  cases hi : P.info? t with
  | none => rw [hi] at hl; cases hl
  | some it =>
   rw [hi] at hl
   simp only [Option.bind_some] at hl
   cases hzz : it.zero with
   | none => rw [hzz] at hl; cases hl
   | some z =>
    rw [hzz] at hl
    cases hie : P.info? et with
    | none => rw [hie] at hs; cases hs
    | some ie =>
     rw [hie] at hs
     simp only [Option.map_some, Option.some.injEq] at hs hl
     simp only [ht, hzz, hie, hs]
     have h3 : z.cells = ch.flatten.toArray := by rw [← hz, ← hl]
     rw [h3]
     refine fill_run vs ch (fun i c hic => ?_) hfit
     rw [placesFrom_const (s := s) ch 0 i c hc hic, Nat.zero_add]
 have hrun := run_build (P := P) w t vs.toArray _ (by simpa using hb)
 simp only [execOp, List.map_toArray, hps.map, Sem.run_bind, hrun, Result.andThen_ok, Sem.run_pure]
theorem rep_vec {α : Type} [GoT α] {n : Nat} {m : Nat → Nat} {xs : List α} {cs : List Value} (h : FlatR m w xs cs) (hn : xs.toArray.size = n) : GoT.rep m w (⟨xs.toArray, hn⟩ : Vector α n) cs := by
 have hn' : xs.length = n := by simpa using hn
 refine ⟨by rw [h.len, hn'], fun i hi => ?_⟩
 have hg : xs[i]? = some xs[i] := List.getElem?_eq_getElem (by omega)
 obtain ⟨c, hr, hc⟩ := h.get hg
 have hl := GoT.len hr
 have hcs := h.len
 have hk : i * GoT.k α + GoT.k α ≤ xs.length * GoT.k α := by
  have : (i + 1) * GoT.k α ≤ xs.length * GoT.k α := Nat.mul_le_mul_right _ (by omega)
  rw [Nat.add_mul, Nat.one_mul] at this; exact this
 have he : (cs.drop (i * GoT.k α)).take (GoT.k α) = c := by
  apply List.ext_getElem
  ·rw [List.length_take, List.length_drop]; omega
  ·intro j h1 h2
   have := hc j c[j] (List.getElem?_eq_getElem h2)
   rw [List.getElem_take, List.getElem_drop]
   obtain ⟨_, h3⟩ := List.getElem?_eq_some_iff.1 this
   exact h3
 rw [he]
 exact hr
theorem flat_nil {α : Type} [GoT α] {m : Nat → Nat} : FlatR m w ([] : List α) ([] : List (List Value)).flatten := rfl
theorem flat_chunk {α : Type} [GoT α] {m : Nat → Nat} {x : α} {xs : List α} {c : List Value} {cs : List (List Value)} (h1 : GoT.rep m w x c) (h2 : FlatR m w xs cs.flatten) : FlatR m w (x :: xs) (c :: cs).flatten := ⟨c, cs.flatten, rfl, h1, h2⟩
end
end Go.Proofs.Ytmpjooneiaiffaa
/- Functions that write what their caller owns. No program is named here. -/
namespace Go.Proofs.Ytmpjooneiaiffaa
open Go.RowKit

structure FrM (i : Nat) (g0 : Gh) (w0 : World) (g : Gh) (w : World) : Prop where
 os : w.os = w0.os
 tape : w.tape = w0.tape
 output : w.output = w0.output
 ch : Ch g0.m w0 g.m w
 block : ∀ b, b < w0.heap.size → g0.o b ≠ i → w.heap[b]? = w0.heap[b]?
 m : ∀ b, b < w0.heap.size → g0.o b ≠ i → g.m b = g0.m b
 o : ∀ b, b < w0.heap.size → g0.o b ≠ i → g.o b = 0
theorem FrM.start (i : Nat) (g : Gh) (w : World) : FrM i g w { m := g.m, o := fun b => if g.o b = i then 1 else 0 } w :=
 ⟨rfl, rfl, rfl, Ch.refl _ _, fun _ _ _ => rfl, fun _ _ _ => rfl, fun b _ h => by simp [h]⟩
theorem FrM.stp {i j : Nat} {g0 g g' : Gh} {w0 w w' : World} (h : FrM i g0 w0 g w) (k : Stp (j + 1) g w g' w') : FrM i g0 w0 g' w' := by
 have hne : ∀ b, b < w0.heap.size → g0.o b ≠ i → g.o b ≠ j + 1 := fun b hb hn => by rw [h.o b hb hn]; omega
 have hlt : ∀ b, b < w0.heap.size → b < w.heap.size := fun b hb => Nat.lt_of_lt_of_le hb h.ch.size
 exact ⟨k.os.trans h.os, k.tape.trans h.tape, k.output.trans h.output, h.ch.trans k.ch,
  fun b hb hn => (k.block b (hlt b hb) (hne b hb hn)).trans (h.block b hb hn),
  fun b hb hn => (k.m b (hlt b hb) (hne b hb hn)).trans (h.m b hb hn), fun b hb hn => (k.o b (hlt b hb) (hne b hb hn)).trans (h.o b hb hn)⟩
theorem FrM.ext {i : Nat} {g0 g g' : Gh} {w0 w w' : World} (h : FrM i g0 w0 g w) (k : Ext g w g' w') : FrM i g0 w0 g' w' := by
 have hlt : ∀ b, b < w0.heap.size → b < w.heap.size := fun b hb => Nat.lt_of_lt_of_le hb h.ch.size
 exact ⟨k.below.os.trans h.os, k.below.tape.trans h.tape, k.below.output.trans h.output, h.ch.trans k.ch,
  fun b hb hn => (k.below.block b (hlt b hb)).trans (h.block b hb hn), fun b hb hn => (k.m b (hlt b hb)).trans (h.m b hb hn), fun b hb hn => (k.o b (hlt b hb)).trans (h.o b hb hn)⟩
theorem FrM.fin {i : Nat} {g0 g : Gh} {w0 w : World} (h : FrM i g0 w0 g w) : Stp i g0 w0 { m := g.m, o := fun b => if b < w0.heap.size then g0.o b else 0 } w :=
 ⟨h.os, h.tape, h.output, h.ch, h.block, h.m, fun b hb _ => by simp [hb]⟩
def FnM (P : Program) (f : FuncId) (args : Array Value) (i : Nat) (g : Gh) (w : World) (R : Gh → World → Value → Prop) : Prop :=
 Calls P f args w fun r w' => ∃ v, r = .returned v ∧ ∃ g', Stp i g w g' w' ∧ R g' w' v
def OutM (i : Nat) (g : Gh) (w : World) (R : Gh → World → Value → Prop) (v : Value) (w' : World) : Prop := ∃ g', FrM i g w g' w' ∧ R { m := g'.m, o := fun b => if b < w.heap.size then g.o b else 0 } w' v
theorem fnM_of_E {P : Program} {f : FuncId} {fn : Func} {c : Code} {args : Array Value} {i : Nat} {g : Gh} {w : World} {R : Gh → World → Value → Prop} (hf : P.funcs[f]? = some fn) (hb : fn.body = some c) (hN : args.size ≤ fn.ntmps)
  (h : ∀ g0, g0 = { m := g.m, o := fun b => if g.o b = i then 1 else 0 } → FrM i g w g0 w → E P fn.ntmps none c (atEnd P fn (OutM i g w R)) (envAt args) [] w) : FnM P f args i g w R := by
 refine Calls.mono (calls_of_E hf hb hN (h _ rfl (FrM.start i g w))) ?_
 rintro r w' ⟨v, rfl, g', hfr, hr⟩
 exact ⟨v, rfl, _, hfr.fin, hr⟩
section
variable {P : Program} {e : Env} {w : World} {g : Gh} {K : Value → World → Prop}
theorem E_drawG {A0 A1 : Fact} {N n i : Nat} {ro : Option Nat} {Q' : Post} {id : Nat} {ops : List Oper} {ds : List Deferred} (h0 : A0 g w) (hA0 : Up extRel A0) (words : List (Nat × (Value → Fact))) (ix : List Nat) (hix : ix = List.range n) (hm : P.follows .mixedOrders = true) (hok : lexOk N ops.toArray n = true)
  (hΦ : UpL (boxRel i A0 A1) words)
  (h : Lex (boxRel i A0 A1) P ops.toArray (fun g' w' => Stp i g w g' w' ∧ (A0 g' w' ∨ A1 g' w')) (constW words) (fun e' _ w' => EL P N ro ops.toArray (ops.drop n) Q' e' ds w') ix (fun _ _ _ => True) e) : E P N ro (.region id ops.toArray true) Q' e ds w :=
 E_drawR (SR := boxRel i A0 A1) _ (constW words) hm hok (fun _ _ _ _ hx h => ⟨h.1.trans hx.1, hx.2.2 h.2⟩) ⟨(ext_drew g w).stp, .inl (hA0 _ _ _ _ (ext_drew g w) h0)⟩ (upC hΦ) wokC (hix ▸ h)
end
end Go.Proofs.Ytmpjooneiaiffaa
/- Ranges over functions: an iterator is a function of what its consumer does with each element. No program is named here. -/
namespace Go.Proofs.Ytmpjooneiaiffaa
open Go.RowKit

/-! ### Steps of another party -/
structure IStp (B : Nat) (g : Gh) (w : World) (g' : Gh) (w' : World) : Prop where
 st : Stp 0 g w g' w'
 below : Below B w w'
 m : ∀ b, b < B → g'.m b = g.m b
 o : ∀ b, b < B → g'.o b = g.o b
structure RFr (g : Gh) (w : World) (g' : Gh) (w' : World) : Prop where
 os : w'.os = w.os
 tape : w'.tape = w.tape
 output : w'.output = w.output
 ch : Ch g.m w g'.m w'
 block : ∀ b, b < w.heap.size → (g.o b = 0 ∨ g.o b = 9) → w'.heap[b]? = w.heap[b]?
 m : ∀ b, b < w.heap.size → (g.o b = 0 ∨ g.o b = 9) → g'.m b = g.m b
 o : ∀ b, b < w.heap.size → (g.o b = 0 ∨ g.o b = 9) → g'.o b = g.o b
theorem RFr.size {g0 g : Gh} {w0 w : World} (h : RFr g0 w0 g w) : w0.heap.size ≤ w.heap.size := h.ch.size

section facts
variable {α : Type} [GoT α] {B i j : Nat} {g g' : Gh} {w w' : World} {t : TypeId} {p v : Value} {x : α} {xs : List α}
end facts
theorem Fr.size {g0 g : Gh} {w0 w : World} (h : Fr g0 w0 g w) : w0.heap.size ≤ w.heap.size := h.below.size
theorem FrM.size {i : Nat} {g0 g : Gh} {w0 w : World} (h : FrM i g0 w0 g w) : w0.heap.size ≤ w.heap.size := h.ch.size

def HB (i : Nat) (g : Gh) (w : World) (b : Nat) (ob : Obj) : Prop := g.o b = i ∧ w.heap[b]? = some ob
def Mks (g : Gh) (w : World) (ds : List Deferred) : Prop := ∀ d ∈ ds, ∃ D, d = { target := .collected D, args := #[] } ∧ HB 9 g w D (.deferred (some []))
def MksN (ds : List Deferred) : Prop := (ds.map (fun d : Deferred => d.target)).Nodup
structure MkF (g : Gh) (w : World) (ds : List Deferred) : Prop where
 mks : Mks g w ds
 nd : MksN ds
section
variable {g g' : Gh} {w w' : World} {ds : List Deferred}
end

/-! ### The contract of an iterator -/
abbrev Rds (α : Type) := (Nat → Nat) → World → α → Array Value → Prop
abbrev Cons (σ α : Type) := σ → α → Option (Bool × σ)
abbrev It (α : Type) := ∀ (σ : Type), Cons σ α → σ → Option σ
abbrev Inv (σ : Type) := σ → Gh → World → Prop
def Abid {σ : Type} (B : Nat) (J : Inv σ) : Prop := ∀ s g w g' w', IStp B g w g' w' → J s g w → J s g' w'
section
variable {α : Type} {P : Program} {ra : Rds α} {φ : It α} {v : Value} {g g' : Gh} {w w' : World}
end

/-! ### The frame of an iterator: its consumer's state -/
structure FrY {σ : Type} (gI : Gh) (wI : World) (B : Nat) (J : Inv σ) (s : σ) (g : Gh) (w : World) : Prop where
 ch : Ch gI.m wI g.m w
 hB : B ≤ w.heap.size
 own : ∀ b, b < w.heap.size → g.o b ≠ 0 → g.o b ≠ 2 → B ≤ b
 inv : ∃ gC : Gh, gC.m = g.m ∧ (∀ b, b < w.heap.size → gC.o b ≠ 0 → g.o b = 2) ∧ J s gC w
section
variable {σ : Type} {gI : Gh} {wI : World} {B : Nat} {J : Inv σ} {s : σ} {g g' : Gh} {w w' : World}
theorem FrY.step (hJ : Abid B J) (h : FrY gI wI B J s g w) {j : Nat} (hj : j ≠ 2) (k : Stp j g w g' w') (hown : ∀ b, b < w.heap.size → g.o b = j → B ≤ b ∨ (w'.heap[b]? = w.heap[b]? ∧ g'.m b = g.m b ∧ g'.o b = g.o b)) : FrY gI wI B J s g' w' := by
 obtain ⟨gC, hm, ho, hJs⟩ := h.inv
 have hlt : ∀ b, b < B → b < w.heap.size := fun b hb => Nat.lt_of_lt_of_le hb h.hB
 have hbl : ∀ b, b < B → w'.heap[b]? = w.heap[b]? ∧ g'.m b = g.m b ∧ g'.o b = g.o b := fun b hb => by
  by_cases hbj : g.o b = j
  ·exact (hown b (hlt b hb) hbj).resolve_left (by omega)
  ·exact ⟨k.block b (hlt b hb) hbj, k.m b (hlt b hb) hbj, k.o b (hlt b hb) hbj⟩
 refine ⟨h.ch.trans k.ch, Nat.le_trans h.hB k.ch.size, fun b hb h0 h2 => ?_, { m := g'.m, o := fun b => if b < w.heap.size then gC.o b else 0 }, rfl, fun b hb h0 => ?_, ?_⟩
 ·by_cases hbB : b < B
  ·have := h.own b (hlt b hbB) (by rw [← (hbl b hbB).2.2]; exact h0) (by rw [← (hbl b hbB).2.2]; exact h2); omega
  ·omega
 ·by_cases hbw : b < w.heap.size
  ·simp only [hbw, if_true] at h0
   have h1 := ho b hbw h0
   rw [k.o b hbw (by rw [h1]; omega)]; exact h1
  ·simp [hbw] at h0
 ·refine hJ s gC w _ w' ⟨⟨k.os, k.tape, k.output, by rw [hm]; exact k.ch, fun b hb h0 => ?_, fun b hb h0 => ?_, fun b hb h0 => by simp [hb]⟩, ⟨k.os, k.tape, k.output, k.ch.size, fun b hb => (hbl b hb).1⟩, fun b hb => ?_, fun b hb => by simp [hlt b hb]⟩ hJs
  ·exact k.block b hb (by rw [ho b hb h0]; omega)
  ·show g'.m b = _; rw [hm]; exact k.m b hb (by rw [ho b hb h0]; omega)
  ·show g'.m b = _; rw [hm]; exact (hbl b hb).2.1
end
section
variable {P : Program} {e : Env} {w : World} {g : Gh} {K : Value → World → Prop} {σ α : Type} {cons : Cons σ α} {J : Inv σ} {gI : Gh} {wI : World} {B l : Nat} {s s' : σ}
end

/-! ### Ends with marks -/
def atEndM (P : Program) (fn : Func) (R : Value → World → Prop) : Post
 | .normal, e, ds, w | .ret, e, ds, w => ∀ tmps : Array Value, (∀ t, tmps.getD t undef = e t) → LeavesInM Fence.wide 0 P fn tmps (fun r w' => ∃ v, r = .returned v ∧ R v w') ds .returning w
 | _, _, _, _ => False
theorem callsM_of_E {P : Program} {w : World} {f : FuncId} {fn : Func} {c : Code} {args : Array Value} {R : Value → World → Prop} (hf : P.funcs[f]? = some fn) (hb : fn.body = some c) (hN : args.size ≤ fn.ntmps)
  (h : E P fn.ntmps none c (atEndM P fn R) (envAt args) [] w) : Calls P f args w fun r w' => ∃ v, r = .returned v ∧ R v w' := by
 refine callsIn_wide.1 (callsIn_of_wp_marks (n := 0) hf hb trivial ?_ rfl)
 have hsz : (args ++ Array.replicate (fn.ntmps - args.size) undef).size = fn.ntmps := by simp; omega
 have hget : ∀ t, (args ++ Array.replicate (fn.ntmps - args.size) undef).getD t undef = envAt args t := by
  intro t
  unfold envAt
  simp only [Array.getD_eq_getD_getElem?, Array.getElem?_append, Array.getElem?_replicate]
  by_cases ht : t < args.size
  ·simp [ht]
  ·simp only [ht, if_false]
   rw [Array.getElem?_eq_none (by omega)]
   split <;> rfl
 refine wpIn_mono (h _ ⟨hsz, hget⟩ rfl) ?_
 rintro x a' w' ⟨_, hq⟩
 cases x <;> simp only [atEndM] at hq <;> first | exact hq.elim | exact hq a'.tmps (fun _ => rfl)
end Go.Proofs.Ytmpjooneiaiffaa
/- The statement that ranges over a function. No program is named here. -/
namespace Go.Proofs.Ytmpjooneiaiffaa
open Go.RowKit

theorem ext_alloc (i : Nat) (g : Gh) (w : World) (o : Obj) : Ext g w { m := updN g.m w.heap.size 0, o := updN g.o w.heap.size i } (w.alloc o) :=
 ⟨(Below.refl _ w).alloc (Nat.le_refl _) _, fun b hb => updN_ne _ _ (by omega), fun b hb => updN_ne _ _ (by omega)⟩
theorem MkF.push {g g' : Gh} {w w' : World} {ds : List Deferred} {D : Nat} (h0 : MkF g w ds) (h : MkF g' w' ds) (hD : w.heap.size ≤ D) (hb : HB 9 g' w' D (.deferred (some []))) : MkF g' w' ({ target := .collected D, args := #[] } :: ds) := by
 refine ⟨fun d hd => ?_, ?_⟩
 ·rcases List.mem_cons.1 hd with rfl | hd
  ·exact ⟨D, rfl, hb⟩
  ·exact h.mks d hd
 ·show (_ :: _).Nodup
  refine List.nodup_cons.2 ⟨fun hm => ?_, h.nd⟩
  obtain ⟨d, hd, he⟩ := List.mem_map.1 hm
  obtain ⟨D', rfl, h1⟩ := h0.mks d hd
  have hlt := lt_of_heap h1.2
  injection he with he
  omega

end Go.Proofs.Ytmpjooneiaiffaa
