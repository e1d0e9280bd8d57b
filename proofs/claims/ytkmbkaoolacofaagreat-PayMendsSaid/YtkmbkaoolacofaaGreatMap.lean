/- Builders of strings, iterators over strings, functions without a body. No program is named here. -/
import Derived.Test.YtkmbkaoolacofaaGreatBox
import Derived.Lib.Builder
import Derived.Lib.UnsafeStr
import Derived.Laws.RangeString
import Derived.Laws.Externs
import Derived.Laws.Pointers
import Derived.Maps.RangeRun
import Derived.Laws.IdiomStrings
namespace Go.Proofs.YtkmbkaoolacofaaGreat
open Go.RowKit

/-! ### Iterators over strings -/
def SI (i : Nat) (g : Gh) (w : World) (s : Str) (pos : Nat) (p : Value) : Prop := ∃ b, p = .pointer (some ⟨b, 0, none⟩) ∧ HB i g w b (.stringIter ⟨⟨s.b⟩⟩ pos)
section
variable {i j pos B : Nat} {g g' : Gh} {w w' : World} {s : Str} {p : Value}
theorem SI.ext (h : SI i g w s pos p) (k : Ext g w g' w') : SI i g' w' s pos p := let ⟨b, h1, h2⟩ := h; ⟨b, h1, h2.ext k⟩
theorem SI.stp (h : SI i g w s pos p) (k : Stp j g w g' w') (hne : Nat.beq i j = false) : SI i g' w' s pos p := let ⟨b, h1, h2⟩ := h; ⟨b, h1, h2.stp k hne⟩
end
def dec (s : Str) (pos : Nat) : Int × Nat := let r := Utf8.decode ⟨⟨s.b⟩⟩ pos; ((r.1 : Int), r.2)
section
variable {P : Program} {e : Env} {w : World} {g : Gh} {K : Value → World → Prop} {x y z : Operand}
/-! ### Unsigned numbers -/
/-! ### A function without a body -/
theorem D_callC {f : FuncId} {xs : List Operand} {vs : List Value} {ats : Array TypeId} {R : Value → World → Prop} (hent : Enters P f) (ha : Args e xs vs) (hc : Calls P f vs.toArray w fun r w' => ∃ v, r = .returned v ∧ R v w')
  (h : ∀ v w', R v w' → K v w') : Doe P (.call { callee := .value (.func f), args := xs.toArray, argTypes := ats }) e w K := fun d ty pos af gd => by
 have he := hent vs.toArray w
 have hrun : (execOp (ev e) ⟨d, .call { callee := .value (.func f), args := xs.toArray, argTypes := ats }, ty, pos, af, gd⟩).run P w = .ok (.enter f vs.toArray) w := by
  simp only [execOp, resolve, ev, Deferred.ofValue, Sem.run_bind, Sem.run_pure, Result.andThen_ok, invoke, List.map_toArray, ha.map, Array.empty_append, Array.append_empty, he]
 unfold doE; rw [hrun]
 refine Calls.mono hc ?_
 rintro r w'' ⟨v, rfl, hr⟩
 exact ⟨v, rfl, h v w'' hr⟩

theorem D_allocX {α : Type} [GoT α] (i : Nat) {t : TypeId} {z : Value} (a : α) (hz : ∀ w, (zeroValue t).run P w = .ok z w) (hv : ∀ m w, RV m w a z) (h : ∀ g' w' p, Ext g w g' w' → OB i g' w' t a p → K p w') : Doe P (.alloc t) e w K := fun d ty pos af gd => by
 have hrun : (execOp (ev e) ⟨d, .alloc t, ty, pos, af, gd⟩).run P w = .ok (.value (.pointer (some ⟨w.heap.size, 0, none⟩))) (w.alloc (.cells z.cells t)) := by
  simp [execOp, Instr.alloc, hz, newVar, newRow, Sem.run_bind, Result.andThen]
 unfold doE; rw [hrun]; exact h _ _ _ (ext_alloc i g w (.cells z.cells t)) (ob_new (hv g.m w).cells)
theorem up_ob {α : Type} [GoT α] {i : Nat} {t : TypeId} {a : α} {v : Value} : Up extRel (fun g w => OB i g w t a v) := fun _ _ _ _ hx h => h.ext hx
/-! ### A builder of strings: its own address (or nil), and its bytes -/
def SB (i j : Nat) (g : Gh) (w : World) (et t : TypeId) (xs : List UInt8) (p : Value) : Prop := ∃ a : Fv, OB i g w t (a, xs) p ∧ OSF i j 1 g w et t xs p ∧ (a.v = .pointer none ∨ a.v = p)
end
section
variable {i j k B : Nat} {g g' : Gh} {w w' : World} {et t : TypeId} {xs : List UInt8} {p : Value}
theorem SB.ext (h : SB i j g w et t xs p) (hx : Ext g w g' w') : SB i j g' w' et t xs p := let ⟨a, h1, h2, h3⟩ := h; ⟨a, h1.ext hx, h2.ext hx, h3⟩
theorem SB.stp (h : SB i j g w et t xs p) (hx : Stp k g w g' w') (hi : Nat.beq i k = false) (hj : Nat.beq j k = false := by rfl) : SB i j g' w' et t xs p := let ⟨a, h1, h2, h3⟩ := h; ⟨a, h1.stp hx hi, h2.stp hx hi hj, h3⟩
end
end Go.Proofs.YtkmbkaoolacofaaGreat
/- Own maps, conversions of strings and bytes, slices handed out. No program is named here. -/
namespace Go.Proofs.YtkmbkaoolacofaaGreat
open Go.RowKit
open Go.ChangeMaps (setBlock)

/-! ### Maps as lists of entries, in the order in which they were laid -/
class GoKey (κ : Type) extends GoT κ where
 enc : κ → Value
 dec : DecidableEq κ
def EntR {κ ν : Type} [GoT ν] (enc : κ → Value) (m : Nat → Nat) (w : World) : List MapEntry → List (κ × ν) → Prop
 | [], l => l = []
 | e :: es, l => ∃ p l', l = p :: l' ∧ e.key = enc p.1 ∧ RV m w p.2 e.val ∧ EntR enc m w es l'
def MP {κ ν : Type} [GoT ν] (enc : κ → Value) (i : Nat) (g : Gh) (w : World) (m : List (κ × ν)) (v : Value) : Prop :=
 ∃ b es clock, v = .map (some b) ∧ g.o b = i ∧ w.heap[b]? = some (.map es clock) ∧ (∀ e ∈ es.toList, e.born < clock) ∧ (es.toList.map (·.born)).Nodup ∧ EntR enc g.m w es.toList m
section
variable {κ ν : Type} [GoT ν] {enc : κ → Value}
theorem EntR.ch {m m' : Nat → Nat} {w w' : World} (k : Ch m w m' w') : ∀ {es : List MapEntry} {l : List (κ × ν)}, EntR enc m w es l → EntR enc m' w' es l
 | [], _, h => h
 | _ :: _, _, ⟨p, l', h1, h2, h3, h4⟩ => ⟨p, l', h1, h2, h3.ch k, EntR.ch k h4⟩
theorem EntR.len {m : Nat → Nat} {w : World} : ∀ {es : List MapEntry} {l : List (κ × ν)}, EntR enc m w es l → es.length = l.length
 | [], _, h => by rw [show _ = [] from h]; rfl
 | _ :: _, _, ⟨p, l', h1, _, _, h4⟩ => by subst h1; simp [h4.len]
theorem EntR.get {m : Nat → Nat} {w : World} : ∀ {es : List MapEntry} {l : List (κ × ν)}, EntR enc m w es l → ∀ {i : Nat} {e : MapEntry}, es[i]? = some e → ∃ p, l[i]? = some p ∧ e.key = enc p.1 ∧ RV m w p.2 e.val
 | [], _, _, _, _, hi => by simp at hi
 | _ :: _, _, ⟨p, l', h1, h2, h3, _⟩, 0, e, hi => by subst h1; simp at hi; subst hi; exact ⟨p, rfl, h2, h3⟩
 | _ :: _, _, ⟨p, l', h1, _, _, h4⟩, i + 1, e, hi => by subst h1; simp at hi; obtain ⟨q, hq⟩ := h4.get hi; exact ⟨q, by simpa using hq.1, hq.2⟩
variable {i j B : Nat} {g g' : Gh} {w w' : World} {m : List (κ × ν)} {v : Value}
theorem MP.ext (h : MP enc i g w m v) (k : Ext g w g' w') : MP enc i g' w' m v := by
 obtain ⟨b, es, cl, hv, ho, hh, h1, h2, h3⟩ := h
 exact ⟨b, es, cl, hv, (k.o b (lt_of_heap hh)).trans ho, (k.below.block b (lt_of_heap hh)).trans hh, h1, h2, h3.ch k.ch⟩
theorem MP.stp (h : MP enc i g w m v) (k : Stp j g w g' w') (hne : Nat.beq i j = false) : MP enc i g' w' m v := by
 obtain ⟨b, es, cl, hv, ho, hh, h1, h2, h3⟩ := h
 have hij : g.o b ≠ j := by rw [ho]; intro he; rw [he] at hne; simp at hne
 exact ⟨b, es, cl, hv, (k.o b (lt_of_heap hh) hij).trans ho, (k.block b (lt_of_heap hh) hij).trans hh, h1, h2, h3.ch k.ch⟩
end
section
variable {P : Program} {e : Env} {w : World} {g : Gh} {K : Value → World → Prop} {x y z : Operand} {κ ν : Type} [GoT ν] {enc : κ → Value}
variable [DecidableEq κ]
end
/-! ### Ranges over own maps -/
def MI {κ ν : Type} [GoT ν] (enc : κ → Value) (j i : Nat) (g : Gh) (w : World) (rem : List (κ × ν)) (cur : Option (κ × ν)) (p : Value) : Prop :=
 ∃ r b es cl since seen c0, p = .pointer (some ⟨r, 0, none⟩) ∧ g.o r = j ∧ g.o b = i ∧ w.heap[b]? = some (.map es cl) ∧ w.heap[r]? = some (.mapIter (some b) since seen c0) ∧ (∀ e ∈ es.toList, e.born < since) ∧ since ≤ c0 ∧ since ≤ cl ∧ (es.toList.map (·.born)).Nodup ∧
  EntR enc g.m w (leftOf es seen).toList rem ∧ ∀ q, cur = some q → c0 = cl ∧ ∃ en ∈ es.toList, (∃ s0 : Array Nat, seen = s0.push en.born) ∧ en.key = enc q.1 ∧ RV g.m w q.2 en.val
section
variable {P : Program} {e : Env} {w : World} {g : Gh} {K : Value → World → Prop} {x y z : Operand} {κ ν : Type} [GoT ν] {enc : κ → Value}
theorem MI.ext {i j : Nat} {g g' : Gh} {w w' : World} {rem : List (κ × ν)} {cur : Option (κ × ν)} {p : Value} (h : MI enc j i g w rem cur p) (k : Ext g w g' w') : MI enc j i g' w' rem cur p := by
 obtain ⟨r, b, es, cl, since, seen, c0, hp, h1, h2, h3, h4, h5, h6, h6b, h7, h8, h9⟩ := h
 exact ⟨r, b, es, cl, since, seen, c0, hp, (k.o r (lt_of_heap h4)).trans h1, (k.o b (lt_of_heap h3)).trans h2, (k.below.block b (lt_of_heap h3)).trans h3, (k.below.block r (lt_of_heap h4)).trans h4, h5, h6, h6b, h7, h8.ch k.ch,
  fun q hq => let ⟨a1, en, a2, a3, a4, a5⟩ := h9 q hq; ⟨a1, en, a2, a3, a4, a5.ch k.ch⟩⟩
theorem MI.stp {i j n : Nat} {g g' : Gh} {w w' : World} {rem : List (κ × ν)} {cur : Option (κ × ν)} {p : Value} (h : MI enc j i g w rem cur p) (k : Stp n g w g' w') (hj : Nat.beq j n = false) (hi : Nat.beq i n = false := by rfl) : MI enc j i g' w' rem cur p := by
 obtain ⟨r, b, es, cl, since, seen, c0, hp, h1, h2, h3, h4, h5, h6, h6b, h7, h8, h9⟩ := h
 have nr : g.o r ≠ n := by rw [h1]; intro he; rw [he] at hj; simp at hj
 have nb : g.o b ≠ n := by rw [h2]; intro he; rw [he] at hi; simp at hi
 exact ⟨r, b, es, cl, since, seen, c0, hp, (k.o r (lt_of_heap h4) nr).trans h1, (k.o b (lt_of_heap h3) nb).trans h2, (k.block b (lt_of_heap h3) nb).trans h3, (k.block r (lt_of_heap h4) nr).trans h4, h5, h6, h6b, h7, h8.ch k.ch,
  fun q hq => let ⟨a1, en, a2, a3, a4, a5⟩ := h9 q hq; ⟨a1, en, a2, a3, a4, a5.ch k.ch⟩⟩
theorem EntR.split {m : Nat → Nat} {w : World} : ∀ {l1 : List MapEntry} {en : MapEntry} {l2 : List MapEntry} {l : List (κ × ν)}, EntR enc m w (l1 ++ en :: l2) l → ∃ r1 q r2, l = r1 ++ q :: r2 ∧ en.key = enc q.1 ∧ RV m w q.2 en.val ∧ EntR enc m w (l1 ++ l2) (r1 ++ r2)
 | [], en, l2, _, ⟨p, l', h1, h2, h3, h4⟩ => ⟨[], p, l', h1, h2, h3, h4⟩
 | e0 :: l1, en, l2, _, ⟨p, l', h1, h2, h3, h4⟩ => by
  obtain ⟨r1, q, r2, a1, a2, a3, a4⟩ := EntR.split h4
  subst h1; subst a1
  exact ⟨p :: r1, q, r2, rfl, a2, a3, p, r1 ++ r2, rfl, h2, h3, a4⟩
end

/-! ### Strings and bytes -/
section
variable {P : Program} {e : Env} {w : World} {g : Gh} {K : Value → World → Prop} {x y z : Operand}
/-! ### Slices that are handed out to be written -/
def OutG (g : Gh) (w : World) (R : Gh → World → Value → Prop) (v : Value) (w' : World) : Prop := ∃ g', Ext g w g' w' ∧ R g' w' v
theorem fnG_of_E {f : FuncId} {fn : Func} {c : Code} {args : Array Value} {R : Gh → World → Value → Prop} (hf : P.funcs[f]? = some fn) (hb : fn.body = some c) (hN : args.size ≤ fn.ntmps)
  (h : ∀ g0, g0.m = g.m → Fr g w g0 w → E P fn.ntmps none c (atEnd P fn (OutG g w R)) (envAt args) [] w) : FnG P f args g w R := by
 refine Calls.mono (calls_of_E hf hb hN (h { m := g.m, o := fun _ => 0 } rfl (Fr.start g w))) ?_
 rintro r w' ⟨v, rfl, g', hx, hr⟩
 exact ⟨v, rfl, g', hx, hr⟩
theorem D_callG {f : FuncId} {xs : List Operand} {vs : List Value} {ats : Array TypeId} {R : Gh → World → Value → Prop} (hent : Enters P f) (ha : Args e xs vs) (hc : FnG P f vs.toArray g w R)
  (h : ∀ g' w' v, Ext g w g' w' → R g' w' v → K v w') : Doe P (.call { callee := .value (.func f), args := xs.toArray, argTypes := ats }) e w K :=
 D_callC hent ha (R := fun v w' => ∃ g', Ext g w g' w' ∧ R g' w' v) (Calls.mono hc fun _ _ h => h) fun v w' ⟨g', hx, hr⟩ => h g' w' v hx hr
theorem plain_int : Plain Int := fun _ _ _ _ _ _ h => h
end
section
variable {κ ν : Type} [GoT ν] {enc : κ → Value}
theorem MP.enter {i : Nat} {g : Gh} {w : World} {m : List (κ × ν)} {v : Value} (h : MP enc i g w m v) : MP enc 1 { m := g.m, o := fun b => if g.o b = i then 1 else 0 } w m v := by
 obtain ⟨b, es, cl, hv, ho, hh, h1, h2, h3⟩ := h
 exact ⟨b, es, cl, hv, by simp [ho], hh, h1, h2, h3⟩
end
section
variable {g : Gh} {w : World}
end
end Go.Proofs.YtkmbkaoolacofaaGreat
