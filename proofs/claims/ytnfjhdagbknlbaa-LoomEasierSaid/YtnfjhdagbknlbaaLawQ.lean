/- The first run that begins too soon; what holds. -/
import Derived.Test.YtnfjhdagbknlbaaLawJ
import Derived.Test.YtnfjhdagbknlbaaYes
set_option maxRecDepth 8000
namespace Go.Proofs.Ytnfjhdagbknlbaa
open Go.RowKit
open Classical

theorem nodup_lt : ∀ (n : Nat) (A : List Nat), A.Nodup → (∀ x ∈ A, x < n) → A.length ≤ n
 | 0, A, _, h => by
  cases A with
  | nil => simp
  | cons a A => exact absurd (h a (by simp)) (Nat.not_lt_zero _)
 | n + 1, A, hd, h => by
  by_cases hm : n ∈ A
  ·have h1 := nodup_lt n (A.erase n) (hd.erase n) fun x hx => by
    have := (hd.mem_erase_iff).1 hx
    have := h x this.2
    omega
   rw [List.length_erase_of_mem hm] at h1
   omega
  ·have h1 := nodup_lt n A hd fun x hx => by
    have h2 := h x hx
    have : x ≠ n := fun e => hm (e ▸ hx)
    omega
   omega
end Go.Proofs.Ytnfjhdagbknlbaa
/- What the document's examples say, is so. -/
set_option maxRecDepth 100000
namespace Go.Proofs.Ytnfjhdagbknlbaa
open Go.RowKit
theorem known_ok : f14 = some true := by kernel_rfl
end Go.Proofs.Ytnfjhdagbknlbaa
/- What holds of a list of runs: the two programs agree. -/
set_option maxRecDepth 8000
namespace Go.Proofs.Ytnfjhdagbknlbaa
open Go.RowKit
open Classical

end Go.Proofs.Ytnfjhdagbknlbaa
/- A loom that stands still: errors, and which runs it stops. -/
set_option maxRecDepth 8000
namespace Go.Proofs.Ytnfjhdagbknlbaa
open Go.RowKit
open Classical

def inB (m : LoomMill) (l : List LoomOrder) (x : LoomRun) : Prop := (0 ≤ x.Order ∧ x.Order < l.length) ∧ (0 ≤ x.Loom ∧ x.Loom < m.Widths.length) ∧ (0 ≤ x.From ∧ x.From ≤ 1000000)
theorem inR.b {m : LoomMill} {l : List LoomOrder} {x : LoomRun} (h : inR m l x) : inB m l x := ⟨h.1, h.2.1, h.2.2.1, by have := h.2.2.2; omega⟩
end Go.Proofs.Ytnfjhdagbknlbaa
/- Which runs a stop meets: the two programs agree. -/
set_option maxRecDepth 8000
namespace Go.Proofs.Ytnfjhdagbknlbaa
open Go.RowKit
open Classical

theorem apnd1 {b : Nat} {xs : List Int} {y : Int} (hb : b = 8) (h : xs.length ≤ 1000) : apnd b xs [y] = some (xs ++ [y]) := by
 subst hb
 exact Yes.eq (Yes.apnd (by simp; omega) (by simp; omega) rfl)
end Go.Proofs.Ytnfjhdagbknlbaa
