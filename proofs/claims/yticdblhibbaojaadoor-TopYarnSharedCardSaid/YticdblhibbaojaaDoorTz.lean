/- math/bits.TrailingZeros by the shelf: its table lies in the world and stays. No program is named here. -/
import Derived.Test.YticdblhibbaojaaDoorMe
import Derived.Lib.TrailingZeros
namespace Go.Proofs.YticdblhibbaojaaDoor
open Go.RowKit

def TabF (b : Nat) (m : Nat → Nat) (w : World) : Prop := b < w.heap.size ∧ 64 ≤ m b ∧ ∀ j, j < 64 → w.cell? ⟨b, j, none⟩ = some (.int .u8 (Lib.deBruijn64tab.getD j 0))
section
variable {b : Nat} {m m' : Nat → Nat} {w w' : World} {g g' : Gh}
theorem TabF.ch (h : TabF b m w) (k : Ch m w m' w') : TabF b m' w' :=
 ⟨Nat.lt_of_lt_of_le h.1 k.size, Nat.le_trans h.2.1 (k.marks b h.1), fun j hj => (k.cells b h.1 _ (Nat.lt_of_lt_of_le hj h.2.1)).trans (h.2.2 j hj)⟩
theorem TabF.ext (h : TabF b g.m w) (k : Ext g w g' w') : TabF b g'.m w' := h.ch k.ch
theorem TabF.stp {i : Nat} (h : TabF b g.m w) (k : Stp i g w g' w') : TabF b g'.m w' := h.ch k.ch
end
def TzOk (P : Program) (f : FuncId) (b : Nat) : Prop := ∀ (x : Nat), x < 18446744073709551616 → ∀ w : World, (∀ j, j < 64 → w.cell? ⟨b, j, none⟩ = some (.int .u8 (Lib.deBruijn64tab.getD j 0))) →
 Calls P f #[.int .u64 x] w fun e w' => e = .returned (.int .i64 (Lib.ctz 64 x)) ∧ w' = w
def ctzU (x : Int) : Option Int := if 0 ≤ x ∧ x < 18446744073709551616 then some ((Lib.ctz 64 x.toNat : Nat) : Int) else none
section
variable {P : Program} {e : Env} {w : World} {g : Gh} {K : Value → World → Prop} {x : Operand}
theorem D_ctz {f : FuncId} {b : Nat} {a r : Int} {ats : Array TypeId} (hent : Enters P f) (hm : TzOk P f b) (hT : TabF b g.m w) (hx : ev e x = .int .u64 a) (h : ctzU a = some r) (k : K (.int .i64 r) w) :
  Doe P (.call { callee := .value (.func f), args := #[x], argTypes := ats }) e w K := fun d ty pos af gd => by
 unfold ctzU at h
 split at h
 case isFalse => cases h
 rename_i hc
 obtain ⟨h0, h1⟩ := hc
 obtain rfl := Option.some.inj h
 obtain ⟨m, rfl⟩ := Int.eq_ofNat_of_zero_le h0
 have he := hent #[.int .u64 (m : Int)] w
 have hrun : (execOp (ev e) ⟨d, .call { callee := .value (.func f), args := #[x], argTypes := ats }, ty, pos, af, gd⟩).run P w = .ok (.enter f #[.int .u64 (m : Int)]) w := by
  have hfv : ev e (.func f) = .func (.func f) #[] #[] := rfl
  simp [execOp, resolve, hfv, Deferred.ofValue, invoke, hx, he]
 unfold doE; rw [hrun]
 refine Calls.mono (hm m (by omega) w hT.2.2) ?_
 rintro r w' ⟨rfl, rfl⟩
 exact ⟨_, rfl, k⟩
end
end Go.Proofs.YticdblhibbaojaaDoor
