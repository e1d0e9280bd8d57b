/- Functions that may panic, deferred calls, recover: laws over the env-based logic. No program is named here. -/
import Derived.Test.YtmebkoemfjlbcaaGreatDoorWr
import Derived.DefersIn
import Derived.RecoverIn
namespace Go.Proofs.YtmebkoemfjlbcaaGreatDoor
open Go.RowKit

inductive PR (β : Type) where
 | ok (b : β)
 | pn (l e : Int)
def flt (T : TypeId) (l e : Int) : List PanicEntry := [{ v := .iface T (.agg #[.int .i64 l, .int .i64 e]), recovered := false }]

section
variable {P : Program} {N : Nat} {ro : Option Nat} {Q : Kx} {e : Env} {ds : List Deferred} {w : World} {ops : Array Oper} {rest : List Oper} {o : Oper}
theorem Cv {f : FuncId} {args : Array Value} {w' : World} (hg : Wants ops e o.guard true) (hnd : ∀ c, o.op ≠ .defer c) (hd : okO N o.dst = true)
  (hr : (execOp (ev e) o).run P w = .ok (.enter f args) w')
  (h : Calls P f args w' fun r w'' => (∃ v, r = .returned v ∧ EL P N ro ops rest Q (Te e o.dst v) ds w'') ∨ ∃ c, r = .panicked c ∧ Q (.panic c) e ds w'') : EL P N ro ops (o :: rest) Q e ds w := fun a ha hds => by
 unfold wpListIn
 rw [if_pos (hg.wanted ha)]
 refine ⟨fun _ _ => trivial, ?_⟩
 rw [Oper.semAt_eq _ _ _ hnd, ha.eval, hr, Oper.uponIn_enter]
 refine ⟨Jk ro, (Y4 h).mono ?_⟩
 rintro r w'' (⟨v, rfl, hv⟩ | ⟨c, rfl, hc⟩)
 ·exact hv _ (ha.putO hd v) (by rw [Q6]; exact hds)
 ·exact ⟨ha.size, by rw [ha.eq, hds]; exact hc⟩
variable {op : Op} {ty : TypeId} {pos : String} {af : Array Edge} {gd : Option (Nat × Bool)} {d : Option Tmp}
theorem X_call {f : FuncId} {xs : List Operand} {vs : List Value} {ats : Array TypeId} (hent : Enters P f) (ha : Args e xs vs) (hw : Wants ops e gd true) (hd : okO N d = true)
  (hc : Calls P f vs.toArray w fun r w' => (∃ v, r = .returned v ∧ EL P N ro ops rest Q (Te e d v) ds w') ∨ ∃ c, r = .panicked c ∧ Q (.panic c) e ds w') :
  EL P N ro ops (⟨d, .call { callee := .value (.func f), args := xs.toArray, argTypes := ats }, ty, pos, af, gd⟩ :: rest) Q e ds w := by
 have he := hent vs.toArray w
 refine Cv (o := ⟨d, .call { callee := .value (.func f), args := xs.toArray, argTypes := ats }, ty, pos, af, gd⟩) hw (fun c h => by cases h) hd (f := f) (args := vs.toArray) (w' := w) ?_ hc
 simp only [execOp, resolve, ev, Deferred.ofValue, Sem.run_bind, Sem.run_pure, Result.andThen_ok, invoke, List.map_toArray, ha.map, Array.empty_append, Array.append_empty, he]
theorem F6 {f : FuncId} {c : Operand} {first caps : Array Value} {xs : List Operand} {vs : List Value} {ats : Array TypeId} (hc0 : ev e c = .func (.func f) first caps) (hent : Enters P f) (ha : Args e xs vs) (hw : Wants ops e gd true) (hd : okO N d = true)
  (hc : Calls P f (first ++ vs.toArray ++ caps) w fun r w' => (∃ v, r = .returned v ∧ EL P N ro ops rest Q (Te e d v) ds w') ∨ ∃ c, r = .panicked c ∧ Q (.panic c) e ds w') :
  EL P N ro ops (⟨d, .call { callee := .value c, args := xs.toArray, argTypes := ats }, ty, pos, af, gd⟩ :: rest) Q e ds w := by
 have he := hent (first ++ vs.toArray ++ caps) w
 refine Cv (o := ⟨d, .call { callee := .value c, args := xs.toArray, argTypes := ats }, ty, pos, af, gd⟩) hw (fun c h => by cases h) hd (f := f) (args := first ++ vs.toArray ++ caps) (w' := w) ?_ hc
 simp only [execOp, resolve, hc0, Deferred.ofValue, Sem.run_bind, Sem.run_pure, Result.andThen_ok, invoke, List.map_toArray, ha.map, he]
theorem Oc {x : Operand} {t : TypeId} {v : Value} (hw : Wants ops e gd true) (hx : ev e x = .iface t v) (h : Q (.panic [{ v := .iface t v, recovered := false }]) e ds w) :
  EL P N ro ops (⟨d, .panic x, ty, pos, af, gd⟩ :: rest) Q e ds w := fun a ha hds => by
 unfold wpListIn
 rw [if_pos (hw.wanted ha)]
 refine ⟨fun _ _ => trivial, ?_⟩
 rw [Oper.semAt_eq _ _ _ (fun c h => by cases h), ha.eval]
 have hr : (execOp (ev e) ⟨d, .panic x, ty, pos, af, gd⟩).run P w = .halt (.panic (.iface t v)) w := by
  simp only [execOp, hx]; rfl
 rw [hr, Oper.uponIn_panic]
 exact ⟨ha.size, by rw [ha.eq, hds]; exact h⟩
theorem F9 {c : Operand} {fv : Go.Fn} {first caps : Array Value} {xs : List Operand} {vs : List Value} {ats : Array TypeId} (hc0 : ev e c = .func fv first caps) (ha : Args e xs vs) (hw : Wants ops e gd true) (hd : okO N d = true)
  (h : EL P N none ops rest Q (Te e d undef) ({ target := .fn fv caps, args := first ++ vs.toArray } :: ds) w) :
  EL P N none ops (⟨d, .defer { callee := .value c, args := xs.toArray, argTypes := ats }, ty, pos, af, gd⟩ :: rest) Q e ds w := fun a haa hds => by
 unfold wpListIn
 rw [if_pos (hw.wanted haa)]
 refine ⟨fun _ _ => trivial, ?_⟩
 show Oper.uponIn _ _ _ _ _ _ _ (Sem.run P (Oper.semAt none _ _) w)
 rw [Oper.semAt_none, haa.eval]
 have hr : (execOp (ev e) ⟨d, .defer { callee := .value c, args := xs.toArray, argTypes := ats }, ty, pos, af, gd⟩).run P w = .ok (.defer { target := .fn fv caps, args := first ++ vs.toArray }) w := by
  simp only [execOp, resolve, hc0, Deferred.ofValue, Sem.run_bind, Sem.run_pure, Result.andThen_ok, List.map_toArray, ha.map]
 rw [hr, Oper.uponIn_defer]
 have h1 : Wf N e { a with defers := { target := .fn fv caps, args := first ++ vs.toArray } :: a.defers } := ⟨haa.size, haa.get⟩
 exact h _ (h1.putO hd undef) (by rw [Q6, ← hds])

def Ss (P : Program) (fn : Func) (R : Value → World → Prop) (RX : List PanicEntry → World → Prop) : Kx
 | .panic c, _, ds, w => ds = [] ∧ RX c w
 | x, e, ds, w => K3 P fn R x e ds w
theorem Ca {f : FuncId} {fn : Func} {c : Code} {args : Array Value} {R : Value → World → Prop} {RX : List PanicEntry → World → Prop} (hf : P.funcs[f]? = some fn) (hb : fn.body = some c) (hN : args.size ≤ fn.ntmps)
  (h : E P fn.ntmps none c (Ss P fn R RX) (W8 args) [] w) : Calls P f args w fun r w' => (∃ v, r = .returned v ∧ R v w') ∨ ∃ c, r = .panicked c ∧ RX c w' := by
 refine callsIn_wide.1 (callsIn_of_wp (n := 0) hf hb trivial ?_ rfl)
 have hsz : (args ++ Array.replicate (fn.ntmps - args.size) undef).size = fn.ntmps := by simp; omega
 have hget : ∀ t, (args ++ Array.replicate (fn.ntmps - args.size) undef).getD t undef = W8 args t := by
  intro t
  unfold W8
  simp only [Array.getD_eq_getD_getElem?, Array.getElem?_append, Array.getElem?_replicate]
  by_cases ht : t < args.size
  ·simp [ht]
  ·simp only [ht, if_false]
   rw [Array.getElem?_eq_none (by omega)]
   split <;> rfl
 refine wpIn_mono (h _ ⟨hsz, hget⟩ rfl) ?_
 rintro x a' w' ⟨_, hq⟩
 cases x <;> simp only [Ss, K3] at hq
 all_goals first | exact hq.elim | skip
 case panic c => exact ⟨hq.1, .inr ⟨_, rfl, hq.2⟩⟩
 all_goals
  obtain ⟨hd, hv⟩ := hq
  obtain ⟨v, hr, hR⟩ := hv a'.tmps (fun _ => rfl)
  exact ⟨hd, v, hr, .inl ⟨v, rfl, hR⟩⟩

def Mj (P : Program) (fn : Func) (R : Ending → World → Prop) : Kx
 | .normal, e, ds, w | .ret, e, ds, w => ∀ tmps : Array Value, (∀ t, tmps.getD t undef = e t) → LeavesIn Fence.wide 0 P fn tmps R ds .returning w
 | .panic c, e, ds, w => ∀ tmps : Array Value, (∀ t, tmps.getD t undef = e t) → LeavesIn Fence.wide 0 P fn tmps R ds (.panicking c) w
 | _, _, _, _ => False
theorem Xp {f : FuncId} {fn : Func} {c : Code} {args : Array Value} {R : Ending → World → Prop} (hf : P.funcs[f]? = some fn) (hb : fn.body = some c) (hN : args.size ≤ fn.ntmps)
  (h : E P fn.ntmps none c (Mj P fn R) (W8 args) [] w) : Calls P f args w R := by
 refine callsIn_wide.1 (callsIn_of_wp_defers (n := 0) hf hb trivial ?_ rfl)
 have hsz : (args ++ Array.replicate (fn.ntmps - args.size) undef).size = fn.ntmps := by simp; omega
 have hget : ∀ t, (args ++ Array.replicate (fn.ntmps - args.size) undef).getD t undef = W8 args t := by
  intro t
  unfold W8
  simp only [Array.getD_eq_getD_getElem?, Array.getElem?_append, Array.getElem?_replicate]
  by_cases ht : t < args.size
  ·simp [ht]
  ·simp only [ht, if_false]
   rw [Array.getElem?_eq_none (by omega)]
   split <;> rfl
 refine wpIn_mono (h _ ⟨hsz, hget⟩ rfl) ?_
 rintro x a' w' ⟨_, hq⟩
 cases x <;> simp only [Mj] at hq
 all_goals first | exact hq.elim | exact hq _ (fun _ => rfl)
end

/-! ### What a function does that changes what its caller reads a text into: blocks of the tags 1 to 4 -/
def rdr (t : Nat) : Bool := Nat.blt 0 t && Nat.blt t 5
structure Bk (g : Gh) (w : World) (g' : Gh) (w' : World) : Prop where
 os : w'.os = w.os
 tape : w'.tape = w.tape
 output : w'.output = w.output
 ch : Ch g.m w g'.m w'
 block : ∀ b, b < w.heap.size → rdr (g.o b) = false → w'.heap[b]? = w.heap[b]?
 m : ∀ b, b < w.heap.size → rdr (g.o b) = false → g'.m b = g.m b
 o : ∀ b, b < w.heap.size → rdr (g.o b) = false → g'.o b = g.o b
theorem Ext.stpR {g g' : Gh} {w w' : World} (h : Ext g w g' w') : Bk g w g' w' :=
 ⟨h.below.os, h.below.tape, h.below.output, h.ch, fun b hb _ => h.below.block b hb, fun b hb _ => h.m b hb, fun b hb _ => h.o b hb⟩
structure FrR (gI : Gh) (wI : World) (g : Gh) (w : World) : Prop where
 os : w.os = wI.os
 tape : w.tape = wI.tape
 output : w.output = wI.output
 ch : Ch gI.m wI g.m w
 block : ∀ b, b < wI.heap.size → rdr (gI.o b) = false → w.heap[b]? = wI.heap[b]?
 m : ∀ b, b < wI.heap.size → rdr (gI.o b) = false → g.m b = gI.m b
 o : ∀ b, b < wI.heap.size → rdr (gI.o b) = false → g.o b = 0
def ghR (g : Gh) : Gh := { m := g.m, o := fun b => bif rdr (g.o b) then g.o b else 0 }
theorem ghR_f {g : Gh} {b : Nat} (h : rdr (g.o b) = false) : (ghR g).o b = 0 := by simp [ghR, h]
theorem ghR_t {g : Gh} {b i : Nat} (h : g.o b = i) (hi : rdr i = true) : (ghR g).o b = i := by simp [ghR, h, hi]
theorem FrR.start (g : Gh) (w : World) : FrR g w (ghR g) w :=
 ⟨rfl, rfl, rfl, Ch.refl _ _, fun _ _ _ => rfl, fun _ _ _ => rfl, fun _ _ h => ghR_f h⟩
theorem FrR.stpR {gI g g' : Gh} {wI w w' : World} (h : FrR gI wI g w) (k : Bk g w g' w') : FrR gI wI g' w' :=
  have hlt : ∀ b, b < wI.heap.size → b < w.heap.size := fun b hb => Nat.lt_of_lt_of_le hb h.ch.size
  have hz : ∀ b, b < wI.heap.size → rdr (gI.o b) = false → rdr (g.o b) = false := fun b hb hn => by rw [h.o b hb hn]; rfl
  ⟨k.os.trans h.os, k.tape.trans h.tape, k.output.trans h.output, h.ch.trans k.ch, fun b hb hn => (k.block b (hlt b hb) (hz b hb hn)).trans (h.block b hb hn),
   fun b hb hn => (k.m b (hlt b hb) (hz b hb hn)).trans (h.m b hb hn), fun b hb hn => (k.o b (hlt b hb) (hz b hb hn)).trans (h.o b hb hn)⟩
theorem FrR.ext {gI g g' : Gh} {wI w w' : World} (h : FrR gI wI g w) (k : Ext g w g' w') : FrR gI wI g' w' := h.stpR k.stpR
theorem FrR.stp {i : Nat} {gI g g' : Gh} {wI w w' : World} (h : FrR gI wI g w) (k : Stp (i + 1) g w g' w') : FrR gI wI g' w' :=
  have hlt : ∀ b, b < wI.heap.size → b < w.heap.size := fun b hb => Nat.lt_of_lt_of_le hb h.ch.size
  have hne : ∀ b, b < wI.heap.size → rdr (gI.o b) = false → g.o b ≠ i + 1 := fun b hb hn => by rw [h.o b hb hn]; omega
  ⟨k.os.trans h.os, k.tape.trans h.tape, k.output.trans h.output, h.ch.trans k.ch, fun b hb hn => (k.block b (hlt b hb) (hne b hb hn)).trans (h.block b hb hn),
   fun b hb hn => (k.m b (hlt b hb) (hne b hb hn)).trans (h.m b hb hn), fun b hb hn => (k.o b (hlt b hb) (hne b hb hn)).trans (h.o b hb hn)⟩
def Pa (gI : Gh) (wI : World) (g : Gh) : Gh := { m := g.m, o := fun b => bif Nat.blt b wI.heap.size && !rdr (gI.o b) then gI.o b else bif rdr (g.o b) then g.o b else 0 }
theorem FrR.fin {gI g : Gh} {wI w : World} (h : FrR gI wI g w) : Bk gI wI (Pa gI wI g) w :=
 ⟨h.os, h.tape, h.output, h.ch, h.block, h.m, fun b hb hn => by
  have : Nat.blt b wI.heap.size = true := Nat.ble_eq_true_of_le hb
  simp [Pa, this, hn]⟩
theorem FrR.fin_o {gI g : Gh} {wI w : World} (h : FrR gI wI g w) {b i : Nat} (hb : g.o b = i) (hi : rdr i = true) : (Pa gI wI g).o b = i := by
 cases hc : (Nat.blt b wI.heap.size && !rdr (gI.o b))
 ·simp [Pa, hc, hb, hi]
 ·rw [Bool.and_eq_true] at hc
  have h1 : b < wI.heap.size := Nat.le_of_ble_eq_true hc.1
  have h2 : rdr (gI.o b) = false := by simpa using hc.2
  rw [h.o b h1 h2] at hb; subst hb; cases hi
def FnS (S : Gh → World → Prop) (P : Program) (f : FuncId) (args : Array Value) (w : World) (R : Gh → World → Value → Prop) (RX : List PanicEntry → Prop) : Prop :=
 Calls P f args w fun r w' => (∃ v, r = .returned v ∧ ∃ g', S g' w' ∧ R g' w' v) ∨ ∃ c, r = .panicked c ∧ RX c ∧ ∃ g', S g' w'
def OutS (S : Gh → World → Prop) (R : Gh → World → Value → Prop) (v : Value) (w : World) : Prop := ∃ g, S g w ∧ R g w v
def Pk (S : Gh → World → Prop) (RX : List PanicEntry → Prop) (c : List PanicEntry) (w : World) : Prop := RX c ∧ ∃ g, S g w
theorem Hd {S : Gh → World → Prop} {P : Program} {f : FuncId} {fn : Func} {c : Code} {args : Array Value} {w : World} {R : Gh → World → Value → Prop} {RX : List PanicEntry → Prop} (hf : P.funcs[f]? = some fn) (hb : fn.body = some c) (hN : args.size ≤ fn.ntmps)
  (h : E P fn.ntmps none c (Ss P fn (OutS S R) (Pk S RX)) (W8 args) [] w) : FnS S P f args w R RX := by
 refine Calls.mono (Ca hf hb hN h) ?_
 rintro r w' (⟨v, rfl, g', hs, hr⟩ | ⟨c, rfl, hx, g', hs⟩)
 ·exact .inl ⟨v, rfl, g', hs, hr⟩
 ·exact .inr ⟨c, rfl, hx, g', hs⟩
theorem Dk {P : Program} {f : FuncId} {fn : Func} {c : Code} {args : Array Value} {g : Gh} {w : World} {R : Gh → World → Value → Prop} {RX : List PanicEntry → Prop} (hf : P.funcs[f]? = some fn) (hb : fn.body = some c) (hN : args.size ≤ fn.ntmps)
  (h : FrR g w (ghR g) w → E P fn.ntmps none c (Ss P fn (OutS (FrR g w) fun g' w' v => R (Pa g w g') w' v) (Pk (FrR g w) RX)) (W8 args) [] w) : FnS (Bk g w) P f args w R RX := by
 refine Calls.mono (Hd hf hb hN (h (FrR.start g w))) ?_
 rintro r w' (⟨v, rfl, g', hs, hr⟩ | ⟨c, rfl, hx, g', hs⟩)
 ·exact .inl ⟨v, rfl, _, hs.fin, hr⟩
 ·exact .inr ⟨c, rfl, hx, _, hs.fin⟩
def bnd {α β : Type} (x : Option (PR α)) (k : α → Option (PR β)) : Option (PR β) :=
 match x with
 | none => none
 | some (.pn l e) => some (.pn l e)
 | some (.ok y) => k y
theorem C2 {α β : Type} {x : Option (PR α)} {k : α → Option (PR β)} {r : PR β} (h : bnd x k = some r) : ∃ a, x = some a ∧ ((∃ l e, a = .pn l e ∧ r = .pn l e) ∨ ∃ y, a = .ok y ∧ k y = some r) := by
 match x with
 | none => cases h
 | some (.pn l e) => injection h with h; exact ⟨_, rfl, .inl ⟨l, e, rfl, h.symm⟩⟩
 | some (.ok y) => exact ⟨_, rfl, .inr ⟨y, rfl, h⟩⟩
def okR {α : Type} (a : PR α) (R : α → Gh → World → Value → Prop) (g : Gh) (w : World) (v : Value) : Prop := ∃ y, a = .ok y ∧ R y g w v
def pnR {α : Type} (T : TypeId) (a : PR α) (c : List PanicEntry) : Prop := ∃ l e, a = .pn l e ∧ c = flt T l e
section
variable {P : Program} {N : Nat} {ro : Option Nat} {Q : Kx} {e : Env} {ds : List Deferred} {w : World} {S F : Gh → World → Prop} {ops : Array Oper} {rest : List Oper} {ty : TypeId} {pos : String} {af : Array Edge} {gd : Option (Nat × Bool)} {d : Option Tmp}
theorem Sb {α β : Type} {f : FuncId} {args : Array Value} {T : TypeId} {x : Option (PR α)} {k : α → Option (PR β)} {r : PR β} {R : α → Gh → World → Value → Prop} {K : Value → World → Prop} {KP : List PanicEntry → World → Prop}
  (hr : bnd x k = some r) (hc : ∀ a, x = some a → FnS S P f args w (okR a R) (pnR T a)) (hp : ∀ l e' g' w', r = .pn l e' → S g' w' → KP (flt T l e') w')
  (h : ∀ y g' w' v, S g' w' → R y g' w' v → x = some (.ok y) → k y = some r → K v w') : Calls P f args w fun r w' => (∃ v, r = .returned v ∧ K v w') ∨ ∃ c, r = .panicked c ∧ KP c w' := by
 obtain ⟨a, hxa, hk⟩ := C2 hr
 refine Calls.mono (hc a hxa) ?_
 rintro r' w' (⟨v, rfl, g', hs, y, rfl, hR⟩ | ⟨c, rfl, ⟨l, e', rfl, rfl⟩, g', hs⟩)
 ·refine .inl ⟨v, rfl, h y g' w' v hs hR hxa ?_⟩
  rcases hk with ⟨l, e', h1, _⟩ | ⟨y', h1, h2⟩
  ·cases h1
  ·injection h1 with h1; subst h1; exact h2
 ·refine .inr ⟨_, rfl, hp l e' g' w' ?_ hs⟩
  rcases hk with ⟨l', e'', h1, h2⟩ | ⟨y', h1, _⟩
  ·injection h1 with h1 h3; subst h1; subst h3; exact h2
  ·cases h1
theorem Qn {α β : Type} {f : FuncId} {xs : List Operand} {vs : List Value} {ats : Array TypeId} {T : TypeId} {x : Option (PR α)} {k : α → Option (PR β)} {r : PR β} {R : α → Gh → World → Value → Prop} (hent : Enters P f) (ha : Args e xs vs) (hw : Wants ops e gd true) (hd : okO N d = true)
  (hr : bnd x k = some r) (hc : ∀ a, x = some a → FnS S P f vs.toArray w (okR a R) (pnR T a))
  (hp : ∀ l e' g' w', r = .pn l e' → S g' w' → Q (.panic (flt T l e')) e ds w')
  (h : ∀ y g' w' v, S g' w' → R y g' w' v → x = some (.ok y) → k y = some r → EL P N ro ops rest Q (Te e d v) ds w') :
  EL P N ro ops (⟨d, .call { callee := .value (.func f), args := xs.toArray, argTypes := ats }, ty, pos, af, gd⟩ :: rest) Q e ds w :=
 X_call hent ha hw hd (Sb hr hc hp h)
theorem W0 {β : Type} {T : TypeId} {r : PR β} {l e' : Int} {g : Gh} (hr : r = .pn l e') (hF : F g w) : ([] : List Deferred) = [] ∧ Pk F (pnR T r) (flt T l e') w :=
 ⟨rfl, ⟨l, e', hr, rfl⟩, g, hF⟩
end
/-! ### A deferred closure that recovers -/
inductive Rec : FrameMode → FrameMode → Value → Prop
 | none : Rec .returning .returning .nilIface
 | some (v : Value) (older : List PanicEntry) : Rec (.panicking ({ v := v, recovered := false } :: older)) (.panicking ({ v := v, recovered := true } :: older)) v
theorem Yp {P : Program} {f : FuncId} {fn : Func} {rest : Code} {id : Nat} {d : Option Tmp} {ats : Array TypeId} {ty : TypeId} {pos : String} {args : Array Value} {u u1 : FrameMode} {v : Value} {w : World} {R : Value → World → Prop}
  (hf : P.funcs[f]? = some fn) (hb : fn.body = some (.seq (.region id #[⟨d, .call { callee := .builtin .recover, args := #[], argTypes := ats }, ty, pos, #[], none⟩] false) rest)) (hN : args.size ≤ fn.ntmps) (hd : okO fn.ntmps d = true) (hr : Rec u u1 v)
  (h : E P fn.ntmps none rest (K3 P fn R) (Te (W8 args) d v) [] w) : CallsDIn Fence.wide 0 P f args u w fun e u' w' => u' = u1 ∧ ∃ x, e = .returned x ∧ R x w' := by
 refine callsDIn_of_wpSIn hf hb trivial fun c₀ cs hu => ?_
 have hsz : (args ++ Array.replicate (fn.ntmps - args.size) undef).size = fn.ntmps := by simp; omega
 have hget : ∀ t, (args ++ Array.replicate (fn.ntmps - args.size) undef).getD t undef = W8 args t := by
  intro t
  unfold W8
  simp only [Array.getD_eq_getD_getElem?, Array.getElem?_append, Array.getElem?_replicate]
  by_cases ht : t < args.size
  ·simp [ht]
  ·simp only [ht, if_false]
   rw [Array.getElem?_eq_none (by omega)]
   split <;> rfl
 have ha : Wf fn.ntmps (W8 args) { tmps := args ++ Array.replicate (fn.ntmps - args.size) undef, defers := [] } := ⟨hsz, hget⟩
 have hE := h _ (ha.putO hd v) (by rw [Q6])
 have hrun : ∀ ρ : Operand → Value, (execOp ρ ⟨d, .call { callee := .builtin .recover, args := #[], argTypes := ats }, ty, pos, #[], none⟩).run P w = .ok .recover w := fun ρ => rfl
 have fin : ∀ cs', cs' = { c₀ with mode := u1 } :: cs → rest.wpSIn Fence.wide 0 P (bodyPostS P fn c₀ cs fun e u' w' => u' = u1 ∧ ∃ x, e = .returned x ∧ R x w') (Act.put { tmps := args ++ Array.replicate (fn.ntmps - args.size) undef, defers := [] } d v) cs' w := fun cs' hcs => by
  refine wpSIn_of_wpIn rfl (wpIn_mono hE ?_)
  rintro x a' w' ⟨_, hq⟩
  cases x <;> simp only [K3] at hq
  all_goals first | exact hq.elim | skip
  all_goals
   obtain ⟨hds, hv⟩ := hq
   obtain ⟨y, hy, hR⟩ := hv a'.tmps (fun _ => rfl)
   exact ⟨hds, u1, hcs, y, hy, rfl, y, rfl, hR⟩
 refine wpSIn_seq (wpSIn_region ?_)
 show wpOpsSIn Fence.wide 0 P _ _ [0] _ _ w
 unfold wpOpsSIn
 simp only [List.getElem?_toArray, List.getElem?_cons_zero]
 refine ⟨fun _ _ => trivial, ?_⟩
 rw [if_pos (by rfl)]
 rw [hrun]
 simp only
 cases hr with
 | none =>
  have hrec : recoverD (c₀ :: cs) = none := by simp [recoverD, hu]
  rw [hrec]
  exact fin _ (by rw [show c₀ = { c₀ with mode := .returning } by rw [← hu]])
 | some v older =>
  have hrec : recoverD (c₀ :: cs) = some (v, { c₀ with mode := .panicking ({ v := v, recovered := true } :: older) } :: cs) := by simp [recoverD, hu]
  rw [hrec]
  exact fin _ rfl
end Go.Proofs.YtmebkoemfjlbcaaGreatDoor
