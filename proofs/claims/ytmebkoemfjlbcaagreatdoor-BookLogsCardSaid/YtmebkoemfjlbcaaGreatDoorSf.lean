/- Slices built as the blocks that they are; what is new, handed out with all that it leads to. No program is named here. -/
import Derived.Test.YtmebkoemfjlbcaaGreatDoorMm
import Derived.Test.YtmebkoemfjlbcaaGreatDoorGen
import Derived.Test.YtmebkoemfjlbcaaGreatDoorCall
import Derived.Sort.Grow
import Derived.Deep.Draws
namespace Go.Proofs.YtmebkoemfjlbcaaGreatDoor
open Go.RowKit

/-! ### All that is new, as what one owns -/
end Go.Proofs.YtmebkoemfjlbcaaGreatDoor
/- Steps that printed proofs take most often, as one lemma each (sq.py puts them in). No program is named here. -/
namespace Go.Proofs.YtmebkoemfjlbcaaGreatDoor
open Go.RowKit
abbrev Iz (n : Int) : Value := .int .i64 n
theorem rq (x : Value) : x = x := rfl
theorem RVc {α : Type} [GoT α] {m m' : Nat → Nat} {w : World} {x : α} {v : Value} (h : m' = m) (r : RV m w x v) : RV m' w x v := h ▸ r
theorem fnE {P : Program} {f : FuncId} {fn : Func} {c : Code} {args : Array Value} {g : Gh} {w : World} {R : (Nat → Nat) → World → Value → Prop} (hf : P.funcs[f]? = some fn) (hb : fn.body = some c) (hN : Nat.ble args.size fn.ntmps = true)
  (h : ∀ g0, g0.m = g.m → Fr g w g0 w → E P fn.ntmps none c (K3 P fn (Out g w R)) (W8 args) [] w) : Fn P f args g w R := N8 hf hb (Nat.le_of_ble_eq_true hN) h
section
variable {P : Program} {N : Nat} {ro : Option Nat} {Q : Kx} {e : Env} {ds : List Deferred} {w : World} {ops : Array Oper}
theorem Z3 {K : Env → List Deferred → World → Prop} (h : K e ds w) : EL P N ro ops [] (thn K Q) e ds w := Zb h
theorem Z5 {id : Nat} {l : List Oper} {y : Code} (h : EL P N ro l.toArray l (thn (fun e ds w => E P N ro y Q e ds w) Q) e ds w) : E P N ro (.seq (.region id l.toArray false) y) Q e ds w := Zf (Za h)
variable {rest : List Oper} {op : Op} {ty : TypeId} {pos : String} {af : Array Edge} {d : Option Tmp}
theorem Z4 (hd : (Yz op && okO N d) = true) (h : Doe P op e w fun v w' => EL P N ro ops rest Q (Te e d v) ds w') : EL P N ro ops (⟨d, op, ty, pos, af, none⟩ :: rest) Q e ds w := Ze .plain hd h
end
end Go.Proofs.YtmebkoemfjlbcaaGreatDoor
/- Contracts that also say that no draw is taken back; slices.SortFunc by the kit's shelf. No program is named here. -/
namespace Go.Proofs.YtmebkoemfjlbcaaGreatDoor
open Go.RowKit

/-! ### Nothing that was drawn is taken back -/
def Rd (g : Gh) (w : World) (g' : Gh) (w' : World) : Prop := Ext g w g' w' ∧ w.drawn ≤ w'.drawn
def FrD (g0 : Gh) (w0 : World) (g : Gh) (w : World) : Prop := Fr g0 w0 g w ∧ w0.drawn ≤ w.drawn
theorem FrD.ext {g0 g g' : Gh} {w0 w w' : World} (h : FrD g0 w0 g w) (k : Rd g w g' w') : FrD g0 w0 g' w' := ⟨h.1.ext k.1, Nat.le_trans h.2 k.2⟩
def FnD (P : Program) (f : FuncId) (args : Array Value) (g : Gh) (w : World) (R : (Nat → Nat) → World → Value → Prop) : Prop :=
 Calls P f args w fun r w' => ∃ v, r = .returned v ∧ ∃ g', Rd g w g' w' ∧ R g'.m w' v
def OutD (g : Gh) (w : World) (R : (Nat → Nat) → World → Value → Prop) (v : Value) (w' : World) : Prop := ∃ g', FrD g w g' w' ∧ R g'.m w' v
theorem Ut {P : Program} {f : FuncId} {fn : Func} {c : Code} {args : Array Value} {g : Gh} {w : World} {R : (Nat → Nat) → World → Value → Prop} (hf : P.funcs[f]? = some fn) (hb : fn.body = some c) (hN : args.size ≤ fn.ntmps)
  (h : ∀ g0, g0.m = g.m → FrD g w g0 w → E P fn.ntmps none c (K3 P fn (OutD g w R)) (W8 args) [] w) : FnD P f args g w R := by
 refine Calls.mono (Qp hf hb hN (h { m := g.m, o := fun _ => 0 } rfl ⟨Fr.start g w, Nat.le_refl _⟩)) ?_
 rintro r w' ⟨v, rfl, g', hfr, hr⟩
 exact ⟨v, rfl, _, ⟨hfr.1.fin, hfr.2⟩, hr⟩
section
variable {P : Program} {e : Env} {w : World} {g : Gh} {K : Value → World → Prop} {x : Operand}
theorem Vi {f : FuncId} {xs : List Operand} {vs : List Value} {ats : Array TypeId} {R : (Nat → Nat) → World → Value → Prop} (hent : Enters P f) (ha : Args e xs vs) (hc : FnD P f vs.toArray g w R)
  (h : ∀ g' w' v, Rd g w g' w' → R g'.m w' v → K v w') : Doe P (.call { callee := .value (.func f), args := xs.toArray, argTypes := ats }) e w K :=
 Qg hent ha (R := fun v w' => ∃ g', Rd g w g' w' ∧ R g'.m w' v) (Calls.mono hc fun _ _ h => h) fun v w' ⟨g', hx, hr⟩ => h g' w' v hx hr
theorem A9 {α : Type} [GoT α] {t : TypeId} {v : Value} {a : α} (hx : ev e x = v) (hv : RV g.m w a v) (h : ∀ g' w' p, Rd g w g' w' → PT g'.m w' a p → K p w') : Doe P (.box t x) e w K := fun d ty pos af gd => by
 have hrun : (execOp (ev e) ⟨d, .box t x, ty, pos, af, gd⟩).run P w = .ok (.value (.pointer (some ⟨w.heap.size, 0, none⟩))) (w.alloc (.cells v.cells t)) := by
  simp [execOp, hx, Instr.box, newVar, newRow, Result.andThen]
 unfold doE; rw [hrun]; exact h _ _ _ ⟨X3 g w _ t, Nat.le_refl _⟩ (Ms hv.cells)
theorem Br {α : Type} [GoT α] (i : Nat) {t et : TypeId} {zv : Value} {n : Nat} {os : List (Nat × Operand)} {xs : List α} {vs : List Value}
  (ht : P.underlying t = some (.slice et)) (hs : ∀ w, (sizeOf et).run P w = .ok (GoT.k α) w) (hz : ∀ w, (zeroValue et).run P w = .ok zv w) (hzs : zv.cells.size = GoT.k α) (hk : Nat.blt 0 (GoT.k α) = true)
  (hps : Parts e os (Km 0 vs)) (hv : RVs g.m w xs vs) (hn : n = xs.length) (hsm : Nat.ble (xs.length * GoT.k α) 16777216 = true)
  (h : ∀ g' w' v, Rd g w g' w' → RV g'.m w' xs v → K v w') : Doe P (.buildSlice t n os.toArray) e w K := fun d ty pos af gd => by
 subst hn
 have hrun := Jl (P := P) ht hs hz hzs (Nat.le_of_ble_eq_true hk) hv (Nat.le_of_ble_eq_true hsm)
 have hflat := hv.flat
 generalize hcs : (vs.map fun v => v.cells.toList).flatten = cs at hrun hflat
 have hst := Hs i g w cs.toArray et (xs.length * GoT.k α)
 have hrun2 : (execOp (ev e) ⟨d, .buildSlice t xs.length os.toArray, ty, pos, af, gd⟩).run P w = .ok (.value (.slice (some ⟨w.heap.size, 0, none⟩) xs.length xs.length)) (w.alloc (.cells cs.toArray et)) := by
  simp only [execOp, List.map_toArray, hps.map, Sem.run_bind, hrun, Result.andThen_ok, Sem.run_pure]
 unfold doE; rw [hrun2]
 refine h _ _ _ ⟨⟨(Below.refl _ w).alloc (Nat.le_refl _) _, fun b hb => Q1 _ _ (by omega), fun b hb => Q1 _ _ (by omega)⟩, Nat.le_refl _⟩
  (Q4 rfl (Nat.le_refl _) fun _ => ⟨w.heap.size, 0, rfl, by simp, by rw [Nat.zero_add]; exact Nat.le_of_eq (Tj _ _ _).symm, (hflat.ch hst.ch).row fun j v hj => ?_⟩)
 rw [Nat.zero_add, H5, List.getElem?_toArray]; exact hj
end
abbrev Dc : Kt := { rel := Rd }
theorem up_d {A : To} (h : Up Yk A) : Up Dc A := fun g w g' w' hx => h g w g' w' hx.1
theorem Ow : ∀ {l : List (Nat × (Value → To))}, UpL Yk l → UpL Dc l
 | [], _ => trivial
 | _ :: _, ⟨h, k⟩ => ⟨fun v => up_d (h v), Ow k⟩
theorem Pu {P : Program} {N n : Nat} {ro : Option Nat} {Q' : Kx} {id : Nat} {ops : List Oper} {e : Env} {ds : List Deferred} {g : Gh} {w : World} (words : List (Nat × (Value → To))) (ix : List Nat) (hix : ix = List.range n) (hm : P.follows .mixedOrders = true) (hok : Cn N ops.toArray n = true) (hΦ : UpL Yk words)
  (h : Lex Dc P ops.toArray (fun g' w' => Rd g w g' w') (Hx words) (fun e' _ w' => EL P N ro ops.toArray (ops.drop n) Q' e' ds w') ix (fun _ _ _ => True) e) : E P N ro (.region id ops.toArray true) Q' e ds w :=
 Sq (SR := Dc) (fun g' w' => Rd g w g' w') (Hx words) hm hok (fun _ _ _ _ hx h => ⟨h.1.trans hx.1, Nat.le_trans h.2 hx.2⟩) ⟨Hp g w, Nat.le_succ _⟩ (upC (Ow hΦ)) Oa (hix ▸ h)
theorem N3 {w w' : World} (h : Below w.heap.size w w') (hd : w.drawn ≤ w'.drawn) : ∃ q os, w' = Sort.grow (w.drewN q) os := by
 refine ⟨w'.drawn - w.drawn, w'.heap.extract w.heap.size w'.heap.size, ?_⟩
 have hh : w'.heap = w.heap ++ w'.heap.extract w.heap.size w'.heap.size := by
  apply Array.ext_getElem?
  intro k
  rw [Array.getElem?_append]
  split
  ·rename_i hk; exact h.block k hk
  ·rename_i hk
   rw [Array.getElem?_extract]
   have := h.size
   split
   ·congr 1; omega
   ·rw [Array.getElem?_eq_none (by omega)]
 have h1 := h.os; have h2 := h.tape; have h3 := h.output
 cases w; cases w'
 simp only at hh h1 h2 h3 hd
 simp only [Sort.grow, World.drewN]
 subst h1; subst h2; subst h3
 congr 1
 omega
end Go.Proofs.YtmebkoemfjlbcaaGreatDoor
