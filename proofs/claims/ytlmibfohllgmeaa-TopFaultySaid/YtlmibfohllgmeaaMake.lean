/- makeSlice. No program is named here. -/
import Derived.Test.YtlmibfohllgmeaaNest
import Derived.Laws.MakeOwn
namespace Go.Proofs.Ytlmibfohllgmeaa
open Go.RowKit

def mks {α : Type} (bytes : Nat) (x0 : α) (n : Int) : Option (List α) :=
 if 0 ≤ n ∧ n ≤ 16777216 ∧ (bytes : Int) * n ≤ 281474976710656 then some (List.replicate n.toNat x0) else none
theorem Rn {α : Type} [GoT α] {m : Nat → Nat} {w : World} {x : α} {z : Value} (h : GoT.rep m w x [z]) : ∀ n : Nat, Qf m w (List.replicate n x) (List.replicate n z)
 | 0 => rfl
 | n + 1 => ⟨[z], List.replicate n z, rfl, h, Rn h n⟩
section
variable {P : Program} {e : Env} {w : World} {g : Gh} {K : Value → World → Prop} {x y z : Operand}
theorem Ux {α : Type} [GoT α] (i : Nat) {t et : TypeId} {zv : Value} {bytes : Nat} (x0 : α) {n : Int} {r : List α} (hk : GoT.k α = 1)
  (ht : P.underlying t = some (.slice et)) (hinfo : (P.info? et).map (fun i => (i.zero, i.size, i.bytes)) = some (some zv, 1, bytes)) (hz1 : zv.cells = #[zv]) (hz : ∀ m w, GoT.rep m w x0 [zv])
  (hx : ev e x = .int .i64 n) (hy : ev e y = .int .i64 n) (hr : mks bytes x0 n = some r)
  (h : ∀ g' w' v', Stp i g w g' w' → OM i g' w' et r v' → K v' w') : Doe P (.makeSlice t x y) e w K := fun d ty pos af gd => by
 obtain ⟨ti, hi, hzz, hsz, hby⟩ := info_parts hinfo
 subst hby
 unfold mks at hr
 split at hr
 case isFalse => cases hr
 rename_i hc
 obtain rfl := Option.some.inj hr
 obtain ⟨h0, h1, h2⟩ := hc
 have hrun := run_makeSlice (P := P) w t et ti zv ht hi hzz .i64 .i64 n n h0 (Int.le_refl _) (by rw [hsz]; omega) h2 (by omega)
 have hrun2 : (execOp (ev e) ⟨d, .makeSlice t x y, ty, pos, af, gd⟩).run P w = .ok (.value (.slice (some ⟨w.heap.size, 0, none⟩) n.toNat n.toNat)) (w.alloc (.cells (madeCells zv.cells (n.toNat * ti.size)) et)) := by
  simp only [execOp, hx, hy, Sem.run_bind, hrun, Result.andThen_ok, Sem.run_pure]
 unfold doE; rw [hrun2]
 have hcs : (madeCells zv.cells (n.toNat * ti.size)).toList = List.replicate n.toNat zv := by
  rw [hz1, hsz, Nat.mul_one]
  apply List.ext_getElem
  ·simp [madeCells]
  ·intro j h1 h2; simp [madeCells, Nat.mod_one]
 refine h { m := Wx g.m w.heap.size 0, o := Wx g.o w.heap.size i } _ _ (Yb i g w _ et 0) (.inr ⟨w.heap.size, n.toNat, _, by simp, by simp, Tw _ _ _, Tw _ _ _, CF.of (Wk _ _), ?_, ?_⟩)
 ·have := congrArg List.length hcs
  simp at this
  rw [List.length_replicate, hk, Nat.mul_one]; omega
 ·rw [hcs, List.length_replicate, hk, Nat.mul_one, List.take_of_length_le (by simp)]
  exact Rn (hz _ _) _
end
theorem Ul {SR : Jb} {β : Type} {A : β → Qo} (h : ∀ b, Up SR (A b)) : Up SR (fun g w => ∃ b, A b g w) := fun g w g' w' hx ⟨b, hb⟩ => ⟨b, h b g w g' w' hx hb⟩
end Go.Proofs.Ytlmibfohllgmeaa
