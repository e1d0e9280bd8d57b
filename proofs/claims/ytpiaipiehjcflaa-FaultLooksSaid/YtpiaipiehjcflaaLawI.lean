/- Plain laws: the places at which two cloths differ. -/
import Derived.Test.YtpiaipiehjcflaaLawH
set_option maxRecDepth 8000
namespace Go.Proofs.Ytpiaipiehjcflaa
open Go.RowKit

/-- The places at which d holds, by picks and then by warps: from warp j of pick i on. -/
def rowFrom (d : Nat → Bool) (i m : Nat) : Nat → List (Int × Int)
  | 0 => []
  | k + 1 => (if d (m - (k + 1)) then [((i : Int), ((m - (k + 1) : Nat) : Int))] else []) ++ rowFrom d i m k
def plFrom (d : Nat → Nat → Bool) (n m : Nat) : Nat → List (Int × Int)
  | 0 => []
  | k + 1 => rowFrom (d (n - (k + 1))) (n - (k + 1)) m m ++ plFrom d n m k
def pl (n m : Nat) (d : Nat → Nat → Bool) : List (Int × Int) := plFrom d n m n
theorem line_len (m : Nat) (c : Nat → Bool) : (line m c).b.length = m := by simp [line]
theorem line_at {m : Nat} {c : Nat → Bool} {j : Nat} (h : j < (line m c).b.length) : (line m c).b[j] = mark (c j) := by simp [line]
theorem cloth_len (n m : Nat) (c : Nat → Nat → Bool) : (clothOf n m c).length = n := by simp [clothOf]
theorem cloth_at {n m : Nat} {c : Nat → Nat → Bool} {i : Nat} (h : i < (clothOf n m c).length) : (clothOf n m c)[i] = line m (c i) := by simp [clothOf]
theorem s55_one {l : FaultLoom} (g : Good l) {d : FaultDamage} (hd : dmg l d = true) : f55 ⟨l⟩ [d] = some (rnd l [d]) :=
  s55 g (s78_one d) (by simp) (by simp) (fun x hx => by rw [List.mem_singleton.1 hx]; exact hd)
/-- What a round lifts. -/
def rc (l : FaultLoom) (ds : List FaultDamage) (p w : Nat) : Bool := (after l ds).1 p (hk l w) && !(after l ds).2 w
theorem rnd_is (l : FaultLoom) (ds : List FaultDamage) : rnd l ds = clothOf l.Design.Rows.length l.Harness.Warps.length (rc l ds) := rfl
/-- The places at which the rounds of two damages differ. -/
def apl (l : FaultLoom) (a b : List FaultDamage) : List (Int × Int) := pl l.Design.Rows.length l.Harness.Warps.length fun p w => rc l a p w != rc l b p w
theorem mark_x (b : Bool) : (mark b == (120 : UInt8)) = b := by cases b <;> rfl
theorem s36 {l : FaultLoom} (g : Good l) {d : FaultDamage} (hd : dmg l d = true) : f36 l d = some (rnd l [d]) := by
  refine Yes.eq ?_
  unfold f36
  exact Yes.bind (Yes.of (s26 g (by simp) (fun x hx => by rw [List.mem_singleton.1 hx]; exact hd)) (Yes.some (one_same hd)))
end Go.Proofs.Ytpiaipiehjcflaa
