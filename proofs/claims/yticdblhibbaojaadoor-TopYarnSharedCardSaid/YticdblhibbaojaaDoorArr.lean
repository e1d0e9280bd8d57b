/- Arrays. No program is named here. -/
import Derived.Test.YticdblhibbaojaaDoorOwn
import Derived.ChangeKeysEq
namespace Go.Proofs.YticdblhibbaojaaDoor
open Go.RowKit

theorem vec_idx {α : Type} {n : Nat} {x : Vector α n} {i : Int} {a : α} (hi : idx x.toList i = some a) : 0 ≤ i ∧ ∃ h : i.toNat < n, x[i.toNat] = a := by
 obtain ⟨h0, hi'⟩ := idx_some hi
 obtain ⟨hlt, ha⟩ := List.getElem?_eq_some_iff.1 hi'
 refine ⟨h0, by simpa using hlt, ?_⟩
 simpa using ha
section
variable {P : Program} {e : Env} {w : World} {x y : Operand}
theorem PT_idxA {α : Type} [GoT α] {n : Nat} {m : Nat → Nat} {p : Value} {v : Vector α n} {i : Int} {a : α} (hp : PT m w v p) (hi : idx v.toList i = some a) : PT m w a (fPtr p (i.toNat * GoT.k α)) := by
 obtain ⟨b, o, cs, rfl, hb, hm, hr, hc⟩ := hp
 obtain ⟨h0, hlt, rfl⟩ := vec_idx hi
 have hk : i.toNat * GoT.k α + GoT.k α ≤ n * GoT.k α := by
  have : (i.toNat + 1) * GoT.k α ≤ n * GoT.k α := Nat.mul_le_mul_right _ hlt
  rw [Nat.add_mul, Nat.one_mul] at this; exact this
 have hm' : o + n * GoT.k α ≤ m b := hm
 refine ⟨b, o + i.toNat * GoT.k α, _, rfl, hb, by omega, hr.2 i.toNat hlt, fun j c hj => ?_⟩
 rw [List.getElem?_take] at hj
 split at hj
 ·rw [List.getElem?_drop] at hj
  rw [Nat.add_assoc]
  exact hc _ _ hj
 ·cases hj
theorem P_indexAddrA {α : Type} [GoT α] {n : Nat} {t et : TypeId} {p : Value} {v : Vector α n} {k : IntKind} {i : Int} {a : α} (ht : P.underlying t = some (.array n et)) (hs : ∀ w, (sizeOf et).run P w = .ok (GoT.k α) w)
  (hx : ev e x = p) (hp : ∃ b o, p = .pointer (some ⟨b, o, none⟩)) (hy : ev e y = .int k i) (hi : idx v.toList i = some a) : Pur P (.indexAddr t x y) e (fPtr p (i.toNat * GoT.k α)) := fun _ _ _ _ _ w' => by
 obtain ⟨b, o, rfl⟩ := hp
 obtain ⟨h0, hlt, _⟩ := vec_idx hi
 have hl : i < (n : Int) := by omega
 simp [execOp, hx, hy, Instr.indexAt, Instr.sureAddr, asIntOf, Sem.run_bind, run_underlying ht, h0, hl, hs, addr_add, fPtr]
end
end Go.Proofs.YticdblhibbaojaaDoor
