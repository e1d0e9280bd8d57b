/- A machine of plain data: a call without arguments that answers true. No program is named here. -/
import Derived.Test.YtkmbkaoolacofaaGreatRq
namespace Go.Proofs.YtkmbkaoolacofaaGreat
noncomputable section
open Go.RowKit
def fi (fn : Func) : FI := ⟨fn, fn.body.getD .skip⟩
def tabL : List (Nat × FI) → Tab
 | [] => Mp.nil
 | p :: l => Mp.set (tabL l) p.1 (some p.2)
section
variable {P : Program}
theorem tok_nil : TabOk P (tabL []) := fun f i h => by unfold tabL at h; rw [Mp.get_nil] at h; cases h
theorem tok_cons {k : Nat} {fn : Func} {l : List (Nat × FI)} (he : Enters P k) (hf : P.funcs[k]? = some fn) (hb : fn.body = some (fi fn).c) (hc : okC fn.ntmps (fi fn).c = true) (h : TabOk P (tabL l)) : TabOk P (tabL ((k, fi fn) :: l)) := fun f i hi => by
 unfold tabL at hi
 rw [Mp.get_set] at hi
 by_cases hk : f = k
 ·subst hk
  rw [if_pos rfl] at hi
  injection hi with hi; subst hi
  exact ⟨he, hf, hb, hc⟩
 ·rw [if_neg hk] at hi; exact h f i hi
def cx0 : Cx := ⟨fun _ => true, fun _ => true, 0⟩
def S0 : St := ⟨0, Mp.nil, []⟩
def isTrue (v : AV) : Bool := match v with
 | .v false [.k (.bool b)] => b
 | _ => false
def allT (x : Option (List XO)) : Bool := match x with
 | some l => l.all fun r => isTrue r.v
 | none => false
theorem fn_closed (hmx : P.follows .mixedOrders = true) {tab : Tab} (htab : TabOk P tab) {n : Nat} {f : FuncId} {g : Gh} {w : World} (h : allT (go P tab n cx0 (.f f []) S0) = true) : Fn P f #[] g w (fun _ _ v => v = .bool true) := by
 unfold allT at h
 split at h
 ·rename_i outs ho
  have hs : Sim cx0 w.heap.size (fun _ => none) S0 w := by
   refine ⟨fun b B _ hb => ?_, fun b b' y y' _ _ _ _ h1 => ?_, fun b y h1 => ?_, Nat.le_refl _, fun b hb => absurd (Mp.get_nil b) hb, Nat.le_refl _⟩
   ·rw [show S0.get b = none from Mp.get_nil b] at hb; cases hb
   ·cases h1
   ·cases h1
  have hcl := go_ok hmx htab n cx0 _ S0 outs ho w.heap.size (fun _ => none) w hs (fun _ _ _ _ _ => rfl) [] .nil
  refine Calls.mono hcl ?_
  rintro res w' ⟨v, rfl, r, hr, ρ', ⟨ev, sm⟩, hv⟩
  refine ⟨v, rfl, g, ⟨⟨ev.gro.os, ev.gro.tape, ev.gro.output, ev.gro.size, fun x hx => ?_⟩, fun _ _ => rfl, fun _ _ => rfl⟩, ?_⟩
  ·rcases ev.frame x hx with h1 | ⟨b, y, h1, h2, _⟩
   ·exact h1
   ·have := (sm.rng b y h1).1; omega
  ·rw [List.all_eq_true] at h
   have ht := h r hr
   unfold isTrue at ht
   split at ht
   ·rename_i b hb
    subst ht
    rw [hb] at hv
    exact (V1.one hv).1
   ·cases ht
 ·cases h
end
end
end Go.Proofs.YtkmbkaoolacofaaGreat
/- A machine of plain data: a long run in parts. No program is named here. -/
namespace Go.Proofs.YtkmbkaoolacofaaGreat
noncomputable section
open Go.RowKit
section
variable {P : Program} {tab : Tab} {cx : Cx} {S : St} {outs : List XO}
theorem Free.one {ρ : Rn} {r : XO} (hf : Free ρ S outs) (hp : Pu r.S.n outs) : Free ρ S [r] := fun q hq b h3 h4 => by
 rw [List.mem_singleton.1 hq] at h4
 obtain ⟨q0, hq0⟩ := List.exists_mem_of_ne_nil _ hp.1
 exact hf q0 hq0 b h3 (Nat.lt_of_lt_of_le h4 (hp.2 q0 hq0))
theorem Pu.le {m k : Nat} (h : m ≤ k) (hp : Pu k outs) : Pu m outs := ⟨hp.1, fun r hr => Nat.le_trans h (hp.2 r hr)⟩
def keepS (l : List Nat) (S : St) : St := { n := S.n, h := l.foldl (fun h b => Mp.set h b (S.get b)) Mp.nil, log := S.log }
theorem keepS_get {l : List Nat} {b : Nat} {B : Blk} (h : (keepS l S).get b = some B) : S.get b = some B := by
 have key : ∀ (l : List Nat) (m : Mp Blk), (∀ b B, m.get b = some B → S.get b = some B) → ∀ b B, (l.foldl (fun h b => Mp.set h b (S.get b)) m).get b = some B → S.get b = some B := by
  intro l
  induction l with
  | nil => intro m hm b B hb; exact hm b B hb
  | cons c l ih =>
   intro m hm b B hb
   refine ih _ (fun b B hb => ?_) b B hb
   rw [Mp.get_set] at hb
   by_cases hc : b = c
   ·subst hc; rw [if_pos rfl] at hb; exact hb
   ·rw [if_neg hc] at hb; exact hm b B hb
 exact key l Mp.nil (fun b B hb => by rw [Mp.get_nil] at hb; cases hb) b B h
theorem keepS_ne {l : List Nat} {b : Nat} (h : (keepS l S).get b ≠ none) : S.get b ≠ none := by
 cases hb : (keepS l S).get b with
 | none => exact absurd hb h
 | some B => rw [keepS_get hb]; simp
theorem keepS_no {l : List Nat} {b : Nat} (h : S.get b = none) : (keepS l S).get b = none := by
 cases hb : (keepS l S).get b with
 | none => rfl
 | some B => rw [keepS_get hb] at h; cases h
theorem Aft.keep (hc : cx.cut = 0) {l : List Nat} {base : Nat} {ρ ρ' : Rn} {w w' : World} {r : XO} (h : Aft cx base ρ S w r ρ' w') : Aft cx base ρ S w { r with S := keepS l r.S } ρ' w' := by
 obtain ⟨ev, sm⟩ := h
 refine ⟨⟨ev.n, ev.log, ev.wr, fun b hb _ => absurd hb (by omega), fun b hb hd => keepS_no (ev.dead b hb hd), ev.le, ev.dom, ev.gro, ev.frame, fun b y h1 h2 => ?_⟩, ⟨fun b B hv hb => sm.blk b B hv (keepS_get hb), fun b b' y y' hv hv' hb hb' => sm.inj b b' y y' hv hv' (keepS_ne hb) (keepS_ne hb'), sm.rng, sm.base, fun b hb => sm.bnd b (keepS_ne hb), sm.cut⟩⟩
 rcases ev.fresh b y h1 h2 with h3 | ⟨c, z, h3, h4, h5, h6⟩
 ·exact .inl h3
 ·exact .inr ⟨c, z, h3, h4, keepS_no h5, h6⟩
end
end
end Go.Proofs.YtkmbkaoolacofaaGreat
