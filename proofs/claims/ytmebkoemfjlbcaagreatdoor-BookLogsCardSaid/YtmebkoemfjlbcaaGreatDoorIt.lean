/- strconv.Itoa by the shelf: its table lies in the world and stays. No program is named here. -/
import Derived.Test.YtmebkoemfjlbcaaGreatDoorIc
import Derived.Lib.ItoaNum
import Derived.Lib.LaidTab
import Derived.Sort.Grow
namespace Go.Proofs.YtmebkoemfjlbcaaGreatDoor
open Go.RowKit

def TabQ (b : Nat) (w : World) : Prop := (∀ j, j < 20 → w.cell? ⟨b, j, none⟩ = some (.int .u64 (Lib.pow10Tab.getD j 0))) ∧ w.cell? ⟨b, 20, none⟩ = none
def Uw (b : Nat) (m : Nat → Nat) (w : World) : Prop := b < w.heap.size ∧ 21 ≤ m b ∧ TabQ b w
section
variable {b : Nat} {m m' : Nat → Nat} {w w' : World} {g g' : Gh}
theorem Uw.ch (h : Uw b m w) (k : Ch m w m' w') : Uw b m' w' := by
 obtain ⟨h1, h2, h3, h4⟩ := h
 exact ⟨Nat.lt_of_lt_of_le h1 k.size, Nat.le_trans h2 (k.marks b h1), fun j hj => (k.cells b h1 _ (by omega)).trans (h3 j hj), (k.cells b h1 _ (by omega)).trans h4⟩
theorem Uw.ext (h : Uw b g.m w) (k : Ext g w g' w') : Uw b g'.m w' := h.ch k.ch
theorem Uw.stp {i : Nat} (h : Uw b g.m w) (k : Stp i g w g' w') : Uw b g'.m w' := h.ch k.ch
theorem Ct {P : Program} {name : String} (hg : P.globalNamed name = some b) (h : TabQ b w) : Lib.TabIs P w name .u64 Lib.pow10Tab := by
 obtain ⟨h3, h4⟩ := h
 have hc : ∃ cs t fz, w.heap[b]? = some (.cells cs t fz) := by
  have h0 := h3 0 (by omega)
  unfold World.cell? at h0
  simp only [Option.isSome_none, Bool.false_eq_true, if_false] at h0
  split at h0
  ·exact ⟨_, _, _, by assumption⟩
  ·cases h0
 obtain ⟨cs, t, fz, hh⟩ := hc
 have hcell : ∀ j, w.cell? ⟨b, j, none⟩ = cs[j]? := fun j => by simp [World.cell?, hh]
 unfold Lib.TabIs World.var?
 simp only [hg, Option.bind_some, hh, Option.some.injEq]
 have h20 : cs.size ≤ 20 := by
  rw [hcell] at h4
  exact Array.getElem?_eq_none_iff.1 h4
 have h19 : 19 < cs.size := by
  have := h3 19 (by omega)
  rw [hcell] at this
  exact (Array.getElem?_eq_some_iff.1 this).1
 refine Array.ext_getElem? fun j => ?_
 rw [← hcell]
 have hl : Lib.pow10Tab.length = 20 := Lib.pow10Tab_length
 by_cases hj : j < 20
 ·rw [h3 j hj, List.getElem?_toArray, List.getElem?_map, List.getElem?_eq_getElem (by omega : j < Lib.pow10Tab.length), List.getD_eq_getElem?_getD, List.getElem?_eq_getElem (by omega : j < Lib.pow10Tab.length)]
  rfl
 ·rw [hcell, Array.getElem?_eq_none (by omega), List.getElem?_toArray, List.getElem?_eq_none (by rw [List.length_map]; omega)]
end
def ItOk (P : Program) (f : FuncId) (b : Nat) : Prop := ∀ (n : Int), -9223372036854775808 ≤ n → n ≤ 9223372036854775807 → ∀ w : World, TabQ b w →
 Calls P f #[.int .i64 n] w fun e w' => e = .returned (.string ⟨(Lib.itoa n).toArray⟩) ∧ ∃ k os, w' = Sort.grow (w.drewN k) os
def Se (n : Int) : Option Str := if -9223372036854775808 ≤ n ∧ n ≤ 9223372036854775807 then some ⟨Lib.itoa n⟩ else none
section
variable {P : Program} {e : Env} {w : World} {g : Gh} {K : Value → World → Prop} {x : Operand}
theorem Cg (g : Gh) (w : World) (k : Nat) (os : Array Obj) : Ext g w g (Sort.grow (w.drewN k) os) :=
 ⟨⟨rfl, rfl, rfl, by show w.heap.size ≤ (w.heap ++ os).size; simp, fun b hb => by show (w.heap ++ os)[b]? = _; exact Array.getElem?_append_left hb⟩, fun _ _ => rfl, fun _ _ => rfl⟩
theorem D_itoa {f : FuncId} {b : Nat} {n : Int} {s : Str} {ats : Array TypeId} (hent : Enters P f) (hm : ItOk P f b) (hT : Uw b g.m w) (hx : ev e x = .int .i64 n) (h : Se n = some s) (k : ∀ w', Ext g w g w' → K s.v w') :
  Doe P (.call { callee := .value (.func f), args := #[x], argTypes := ats }) e w K := fun d ty pos af gd => by
 unfold Se at h
 split at h
 case isFalse => cases h
 rename_i hc
 injection h with h
 subst h
 have he := hent #[.int .i64 n] w
 have hrun : (execOp (ev e) ⟨d, .call { callee := .value (.func f), args := #[x], argTypes := ats }, ty, pos, af, gd⟩).run P w = .ok (.enter f #[.int .i64 n]) w := by
  have hfv : ev e (.func f) = .func (.func f) #[] #[] := rfl
  simp [execOp, resolve, hfv, Deferred.ofValue, invoke, hx, he]
 unfold doE; rw [hrun]
 refine Calls.mono (hm n hc.1 hc.2 w hT.2.2) ?_
 rintro r w' ⟨rfl, q, os, rfl⟩
 exact ⟨_, rfl, k _ (Cg g w q os)⟩
end
end Go.Proofs.YtmebkoemfjlbcaaGreatDoor
