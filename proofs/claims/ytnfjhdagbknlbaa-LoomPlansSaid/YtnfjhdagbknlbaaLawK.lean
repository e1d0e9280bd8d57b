/- The first run that begins too soon; what holds. -/
import Derived.Test.YtnfjhdagbknlbaaLawJ
set_option maxRecDepth 8000
namespace Go.Proofs.Ytnfjhdagbknlbaa
open Go.RowKit
open Classical

theorem nodup_lt : ∀ (n : Nat) (A : List Nat), A.Nodup → (∀ x ∈ A, x < n) → A.length ≤ n
  | 0, A, _, h => by
    cases A with
    | nil => simp
    | cons a A => exact absurd (h a (by simp)) (Nat.not_lt_zero _)
  | n + 1, A, hd, h => by
    by_cases hm : n ∈ A
    · have h1 := nodup_lt n (A.erase n) (hd.erase n) fun x hx => by
        have := (hd.mem_erase_iff).1 hx
        have := h x this.2
        omega
      rw [List.length_erase_of_mem hm] at h1
      omega
    · have h1 := nodup_lt n A hd fun x hx => by
        have h2 := h x hx
        have : x ≠ n := fun e => hm (e ▸ hx)
        omega
      omega
end Go.Proofs.Ytnfjhdagbknlbaa
