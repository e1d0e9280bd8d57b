/- FaultDoes as a plain function: it returns true. -/
import Derived.Test.YtpiaipiehjcflaaLawP
set_option maxRecDepth 8000
namespace Go.Proofs.Ytpiaipiehjcflaa
open Go.RowKit

theorem cthN_at {l : FaultLoom} {ds : List FaultDamage} {k p : Nat} (h : p < (cthN l ds k).length) (hk2 : k ≤ l.Design.Rows.length) : (cthN l ds k)[p] = line l.Harness.Warps.length (rc l ds p) := by
  have h1 := cloth_at (n := k) (m := l.Harness.Warps.length) (c := fun p w => rc l ds (p % l.Design.Rows.length) w) h
  have hlt : p < k := by unfold cthN at h; rwa [cloth_len] at h
  simp only [Nat.mod_eq_of_lt (show p < l.Design.Rows.length by omega)] at h1
  exact h1
theorem cthN_len (l : FaultLoom) (ds : List FaultDamage) (k : Nat) : (cthN l ds k).length = k := by unfold cthN; rw [cloth_len]
/-- A point of such a cloth. -/
theorem at_cth {l : FaultLoom} {ds : List FaultDamage} {k p w : Nat} (hp : p < k) (hk2 : k ≤ l.Design.Rows.length) (hw : w < l.Harness.Warps.length) {α : Type} {K : UInt8 → Option α} {Q : α → Prop} (h : Yes (K (mark (rc l ds p w))) Q) :
    Yes ((idx (cthN l ds k) (p : Int)).bind fun y => (idx y.b (w : Int)).bind K) Q := by
  refine Yes.bind (Yes.idx rfl (by rw [cthN_len]; exact hp) ?_)
  rw [cthN_at _ hk2]
  refine Yes.bind (Yes.idx rfl (by rw [line_len]; exact hw) ?_)
  rw [line_at]; exact h
end Go.Proofs.Ytpiaipiehjcflaa
