/- An entry of a map that is changed in place (m[k] op= x); delete. No program is named here. -/
import Derived.Test.YticdblhibbaojaaDoorQm
namespace Go.Proofs.YticdblhibbaojaaDoor
open Go.RowKit
open Go.ChangeMaps (setBlock)

section
variable {κ ν : Type} [DecidableEq κ]
end
section
variable {κ ν : Type} [GoT ν] [DecidableEq κ] {enc : κ → Value} {i : Nat} {g g' : Gh} {w w' : World} {m : List (κ × ν)} {k : κ} {v : Value} {n : Nat}
variable {P : Program} {e : Env} {K : Value → World → Prop} {x y z : Operand}
omit [DecidableEq κ] in
/-- A map goes from one name to another. -/
theorem MP.retag (j : Nat) (h : MP enc i g w m v) : ∃ g', Stp i g w g' w ∧ MP enc j g' w m v := by
  obtain ⟨b, es, cl, rfl, ho, hh, hb1, hb2, her⟩ := h
  exact ⟨{ m := g.m, o := updN g.o b j }, ⟨rfl, rfl, rfl, Ch.refl _ _, fun _ _ _ => rfl, fun _ _ _ => rfl, fun k _ hn => updN_ne _ _ (fun he => hn (by rw [he]; exact ho))⟩, b, es, cl, rfl, updN_same _ _ _, hh, hb1, hb2, her⟩
omit [DecidableEq κ] in
theorem MQ.one {n : Nat} (h : MQ enc n g w m v) : v.oneCell' = true := by
 rcases h with ⟨rfl, _⟩ | ⟨h, _⟩
 ·rfl
 ·exact mp_one h
end
/-! ### Slices against nil -/
def neL {α : Type} (xs : List α) : Option Unit := if xs.isEmpty then none else some ()
theorem neL_nn {α : Type} {xs : List α} {u : Unit} {v : Value} (h : neL xs = some u) : xs = [] → v = .slice none 0 0 := fun he => by subst he; cases h
section
variable {P : Program} {e : Env} {w : World} {g : Gh} {K : Value → World → Prop} {x : Operand} {α : Type} [GoT α]
theorem run_eq_sn (w : World) (d : Nat) (t et : TypeId) (a : Option Addr) (n c : Nat) (h : P.underlying t = some (.slice et)) : (Op.equalIn (d + 1) t (.slice a n c) (.slice none 0 0)).run P w = .ok a.isNone w := by
 cases a <;> simp [Op.equalIn, run_underlying h]
theorem D_nilS {xs : List α} {v : Value} {t et t2 : TypeId} (ht : P.underlying t = some (.slice et)) (hx : ev e x = v) (hr : RV g.m w xs v) (hn : xs = [] → v = .slice none 0 0) (k : K (.bool xs.isEmpty) w) :
  Doe P (.binOp .eql t x (.const (.slice none 0 0)) t2) e w K := fun d ty pos af gd => by
 obtain ⟨a, c, rfl, _, h⟩ := RV_list hr
 have hy : ev e (.const (.slice none 0 0)) = .slice none 0 0 := rfl
 have hb : a.isNone = xs.isEmpty := by
  cases xs with
  | nil => have := hn rfl; injection this with h1; subst h1; rfl
  | cons y ys => obtain ⟨b, off, h1, _⟩ := h (by simp); subst h1; rfl
 have he : (binOp .eql t (.slice a xs.length c) (.slice none 0 0)).run P w = .ok (.bool xs.isEmpty) w := by
  simp only [binOp]
  simp [Op.equal, Op.maxDepth, run_eq_sn w 9999 t et a xs.length c ht, hb]
 have hrun : (execOp (ev e) ⟨d, .binOp .eql t x (.const (.slice none 0 0)) t2, ty, pos, af, gd⟩).run P w = .ok (.value (.bool xs.isEmpty)) w := by
  simp [execOp, hx, hy, eqGuard, he, Sem.run_bind]
 unfold doE; rw [hrun]
 exact k
end
end Go.Proofs.YticdblhibbaojaaDoor
