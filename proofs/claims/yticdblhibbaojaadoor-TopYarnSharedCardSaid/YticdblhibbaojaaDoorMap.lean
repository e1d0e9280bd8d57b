/- Own maps, conversions of strings and bytes, slices handed out. No program is named here. -/
import Derived.Test.YticdblhibbaojaaDoorSb
import Derived.Maps.RangeRun
import Derived.Laws.IdiomStrings
namespace Go.Proofs.YticdblhibbaojaaDoor
open Go.RowKit
open Go.ChangeMaps (setBlock)

/-! ### Maps as lists of entries, in the order in which they were laid -/
class GoKey (κ : Type) extends GoT κ where
 enc : κ → Value
 dec : DecidableEq κ
def EntR {κ ν : Type} [GoT ν] (enc : κ → Value) (m : Nat → Nat) (w : World) : List MapEntry → List (κ × ν) → Prop
 | [], l => l = []
 | e :: es, l => ∃ p l', l = p :: l' ∧ e.key = enc p.1 ∧ RV m w p.2 e.val ∧ EntR enc m w es l'
def MP {κ ν : Type} [GoT ν] (enc : κ → Value) (i : Nat) (g : Gh) (w : World) (m : List (κ × ν)) (v : Value) : Prop :=
 ∃ b es clock, v = .map (some b) ∧ g.o b = i ∧ w.heap[b]? = some (.map es clock) ∧ (∀ e ∈ es.toList, e.born < clock) ∧ (es.toList.map (·.born)).Nodup ∧ EntR enc g.m w es.toList m
section
variable {κ ν : Type} [GoT ν] {enc : κ → Value}
theorem EntR.ch {m m' : Nat → Nat} {w w' : World} (k : Ch m w m' w') : ∀ {es : List MapEntry} {l : List (κ × ν)}, EntR enc m w es l → EntR enc m' w' es l
 | [], _, h => h
 | _ :: _, _, ⟨p, l', h1, h2, h3, h4⟩ => ⟨p, l', h1, h2, h3.ch k, EntR.ch k h4⟩
theorem EntR.len {m : Nat → Nat} {w : World} : ∀ {es : List MapEntry} {l : List (κ × ν)}, EntR enc m w es l → es.length = l.length
 | [], _, h => by rw [show _ = [] from h]; rfl
 | _ :: _, _, ⟨p, l', h1, _, _, h4⟩ => by subst h1; simp [h4.len]
theorem EntR.get {m : Nat → Nat} {w : World} : ∀ {es : List MapEntry} {l : List (κ × ν)}, EntR enc m w es l → ∀ {i : Nat} {e : MapEntry}, es[i]? = some e → ∃ p, l[i]? = some p ∧ e.key = enc p.1 ∧ RV m w p.2 e.val
 | [], _, _, _, _, hi => by simp at hi
 | _ :: _, _, ⟨p, l', h1, h2, h3, _⟩, 0, e, hi => by subst h1; simp at hi; subst hi; exact ⟨p, rfl, h2, h3⟩
 | _ :: _, _, ⟨p, l', h1, _, _, h4⟩, i + 1, e, hi => by subst h1; simp at hi; obtain ⟨q, hq⟩ := h4.get hi; exact ⟨q, by simpa using hq.1, hq.2⟩
theorem EntR.put {m : Nat → Nat} {w : World} {k : κ} {v : ν} {u : Value} (h2 : RV m w v u) : ∀ {es : List MapEntry} {l : List (κ × ν)} {i : Nat}, EntR enc m w es l → EntR enc m w (es.modify i fun e => { e with key := enc k, val := u }) (l.modify i fun _ => (k, v))
 | [], _, _, h => by rw [show _ = [] from h]; simp [EntR]
 | e :: es, _, 0, ⟨q, l', h, _, _, h5⟩ => by subst h; exact ⟨(k, v), l', by simp, rfl, h2, h5⟩
 | e :: es, _, i + 1, ⟨q, l', h, h3, h4, h5⟩ => by subst h; exact ⟨q, l'.modify i fun _ => (k, v), by simp, h3, h4, EntR.put h2 h5⟩
variable {i j B : Nat} {g g' : Gh} {w w' : World} {m : List (κ × ν)} {v : Value}
theorem MP.ext (h : MP enc i g w m v) (k : Ext g w g' w') : MP enc i g' w' m v := by
 obtain ⟨b, es, cl, hv, ho, hh, h1, h2, h3⟩ := h
 exact ⟨b, es, cl, hv, (k.o b (lt_of_heap hh)).trans ho, (k.below.block b (lt_of_heap hh)).trans hh, h1, h2, h3.ch k.ch⟩
theorem MP.stp (h : MP enc i g w m v) (k : Stp j g w g' w') (hne : Nat.beq i j = false) : MP enc i g' w' m v := by
 obtain ⟨b, es, cl, hv, ho, hh, h1, h2, h3⟩ := h
 have hij : g.o b ≠ j := by rw [ho]; intro he; rw [he] at hne; simp at hne
 exact ⟨b, es, cl, hv, (k.o b (lt_of_heap hh) hij).trans ho, (k.block b (lt_of_heap hh) hij).trans hh, h1, h2, h3.ch k.ch⟩
end
section
variable {P : Program} {e : Env} {w : World} {g : Gh} {K : Value → World → Prop} {x y z : Operand} {κ ν : Type} [GoT ν] {enc : κ → Value}
variable [DecidableEq κ]
end
/-! ### Ranges over own maps -/
def MI {κ ν : Type} [GoT ν] (enc : κ → Value) (j i : Nat) (g : Gh) (w : World) (rem : List (κ × ν)) (cur : Option (κ × ν)) (p : Value) : Prop :=
 ∃ r b es cl since seen c0, p = .pointer (some ⟨r, 0, none⟩) ∧ g.o r = j ∧ g.o b = i ∧ w.heap[b]? = some (.map es cl) ∧ w.heap[r]? = some (.mapIter (some b) since seen c0) ∧ (∀ e ∈ es.toList, e.born < since) ∧ since ≤ c0 ∧ since ≤ cl ∧ (es.toList.map (·.born)).Nodup ∧
  EntR enc g.m w (leftOf es seen).toList rem ∧ ∀ q, cur = some q → c0 = cl ∧ ∃ en ∈ es.toList, (∃ s0 : Array Nat, seen = s0.push en.born) ∧ en.key = enc q.1 ∧ RV g.m w q.2 en.val
section
variable {P : Program} {e : Env} {w : World} {g : Gh} {K : Value → World → Prop} {x y z : Operand} {κ ν : Type} [GoT ν] {enc : κ → Value}
theorem MI.ext {i j : Nat} {g g' : Gh} {w w' : World} {rem : List (κ × ν)} {cur : Option (κ × ν)} {p : Value} (h : MI enc j i g w rem cur p) (k : Ext g w g' w') : MI enc j i g' w' rem cur p := by
 obtain ⟨r, b, es, cl, since, seen, c0, hp, h1, h2, h3, h4, h5, h6, h6b, h7, h8, h9⟩ := h
 exact ⟨r, b, es, cl, since, seen, c0, hp, (k.o r (lt_of_heap h4)).trans h1, (k.o b (lt_of_heap h3)).trans h2, (k.below.block b (lt_of_heap h3)).trans h3, (k.below.block r (lt_of_heap h4)).trans h4, h5, h6, h6b, h7, h8.ch k.ch,
  fun q hq => let ⟨a1, en, a2, a3, a4, a5⟩ := h9 q hq; ⟨a1, en, a2, a3, a4, a5.ch k.ch⟩⟩
theorem MI.stp {i j n : Nat} {g g' : Gh} {w w' : World} {rem : List (κ × ν)} {cur : Option (κ × ν)} {p : Value} (h : MI enc j i g w rem cur p) (k : Stp n g w g' w') (hj : Nat.beq j n = false) (hi : Nat.beq i n = false := by rfl) : MI enc j i g' w' rem cur p := by
 obtain ⟨r, b, es, cl, since, seen, c0, hp, h1, h2, h3, h4, h5, h6, h6b, h7, h8, h9⟩ := h
 have nr : g.o r ≠ n := by rw [h1]; intro he; rw [he] at hj; simp at hj
 have nb : g.o b ≠ n := by rw [h2]; intro he; rw [he] at hi; simp at hi
 exact ⟨r, b, es, cl, since, seen, c0, hp, (k.o r (lt_of_heap h4) nr).trans h1, (k.o b (lt_of_heap h3) nb).trans h2, (k.block b (lt_of_heap h3) nb).trans h3, (k.block r (lt_of_heap h4) nr).trans h4, h5, h6, h6b, h7, h8.ch k.ch,
  fun q hq => let ⟨a1, en, a2, a3, a4, a5⟩ := h9 q hq; ⟨a1, en, a2, a3, a4, a5.ch k.ch⟩⟩
theorem EntR.split {m : Nat → Nat} {w : World} : ∀ {l1 : List MapEntry} {en : MapEntry} {l2 : List MapEntry} {l : List (κ × ν)}, EntR enc m w (l1 ++ en :: l2) l → ∃ r1 q r2, l = r1 ++ q :: r2 ∧ en.key = enc q.1 ∧ RV m w q.2 en.val ∧ EntR enc m w (l1 ++ l2) (r1 ++ r2)
 | [], en, l2, _, ⟨p, l', h1, h2, h3, h4⟩ => ⟨[], p, l', h1, h2, h3, h4⟩
 | e0 :: l1, en, l2, _, ⟨p, l', h1, h2, h3, h4⟩ => by
  obtain ⟨r1, q, r2, a1, a2, a3, a4⟩ := EntR.split h4
  subst h1; subst a1
  exact ⟨p :: r1, q, r2, rfl, a2, a3, p, r1 ++ r2, rfl, h2, h3, a4⟩
end

/-! ### Strings and bytes -/
section
variable {P : Program} {e : Env} {w : World} {g : Gh} {K : Value → World → Prop} {x y z : Operand}
/-! ### Slices that are handed out to be written -/
def OutG (g : Gh) (w : World) (R : Gh → World → Value → Prop) (v : Value) (w' : World) : Prop := ∃ g', Ext g w g' w' ∧ R g' w' v
theorem fnG_of_E {f : FuncId} {fn : Func} {c : Code} {args : Array Value} {R : Gh → World → Value → Prop} (hf : P.funcs[f]? = some fn) (hb : fn.body = some c) (hN : args.size ≤ fn.ntmps)
  (h : ∀ g0, g0.m = g.m → Fr g w g0 w → E P fn.ntmps none c (atEnd P fn (OutG g w R)) (envAt args) [] w) : FnG P f args g w R := by
 refine Calls.mono (calls_of_E hf hb hN (h { m := g.m, o := fun _ => 0 } rfl (Fr.start g w))) ?_
 rintro r w' ⟨v, rfl, g', hx, hr⟩
 exact ⟨v, rfl, g', hx, hr⟩
theorem D_callG {f : FuncId} {xs : List Operand} {vs : List Value} {ats : Array TypeId} {R : Gh → World → Value → Prop} (hent : Enters P f) (ha : Args e xs vs) (hc : FnG P f vs.toArray g w R)
  (h : ∀ g' w' v, Ext g w g' w' → R g' w' v → K v w') : Doe P (.call { callee := .value (.func f), args := xs.toArray, argTypes := ats }) e w K :=
 D_callC hent ha (R := fun v w' => ∃ g', Ext g w g' w' ∧ R g' w' v) (Calls.mono hc fun _ _ h => h) fun v w' ⟨g', hx, hr⟩ => h g' w' v hx hr
theorem plain_int : Plain Int := fun _ _ _ _ _ _ h => h
end
section
variable {κ ν : Type} [GoT ν] {enc : κ → Value}
end
section
variable {g : Gh} {w : World}
end
end Go.Proofs.YticdblhibbaojaaDoor
