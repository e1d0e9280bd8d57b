/- Plain laws: comparisons of lists; all damages that there can be, and those that show. -/
import Derived.Test.YtpiaipiehjcflaaLawI
set_option maxRecDepth 8000
namespace Go.Proofs.Ytpiaipiehjcflaa
open Go.RowKit

/-- Two lists are compared one by one: so far they are the same. -/
def Same {α : Type} (a b : List α) (i : Nat) : Prop := ∀ n (h1 : n < a.length) (h2 : n < b.length), n < i → a[n] = b[n]
theorem same_no {α : Type} [DecidableEq α] {a b : List α} (h : ((a.length : Int) != (b.length : Int)) = true) : false = decide (a = b) := by
  have : a ≠ b := fun e => by rw [e] at h; simp at h
  simp [this]
theorem same_len {α : Type} {a b : List α} (h : ((a.length : Int) != (b.length : Int)) = false) : a.length = b.length := by simp at h; omega
theorem same_zero {α : Type} (a b : List α) : Same a b 0 := fun _ _ _ h => absurd h (Nat.not_lt_zero _)
theorem same_step {α : Type} [DecidableEq α] {a b : List α} {ne : α → α → Bool} (hne : ∀ x y, ne x y = !decide (x = y)) (hl : a.length = b.length) {i : Nat} (hi : i < a.length) (hI : Same a b i) {k : Option Bool} (hk : Same a b (i + 1) → Yes k fun r => r = decide (a = b)) :
    Yes ((idx a (i : Int)).bind fun x => (idx b (i : Int)).bind fun y => bif ne x y then some false else k) (fun r => r = decide (a = b)) := by
  refine Yes.bind (Yes.idx rfl hi (Yes.bind (Yes.idx rfl (by omega) (Yes.cond (fun h => Yes.some ?_) (fun h => hk ?_)))))
  · rw [hne] at h
    have hd : a[i] ≠ b[i] := by simpa using h
    have : a ≠ b := fun e => hd (by simp only [e])
    simp [this]
  · rw [hne] at h
    have he : a[i] = b[i] := by simpa using h
    intro n h1 h2 hn
    rcases Nat.lt_succ_iff_lt_or_eq.1 hn with h | rfl
    · exact hI n h1 h2 h
    · exact he
theorem same_end {α : Type} [DecidableEq α] {a b : List α} (hl : a.length = b.length) (hI : Same a b a.length) : true = decide (a = b) := by
  have : a = b := List.ext_getElem hl fun n h1 h2 => hI n h1 h2 h1
  simp [this]
theorem str_ne (x y : Str) : (!(x.b == y.b)) = !decide (x = y) := by
  congr 1
  rw [Bool.eq_iff_iff]
  obtain ⟨x⟩ := x; obtain ⟨y⟩ := y
  simp
theorem s71 (a b : List Str) (ha : a.length < 9223372036854775807) : f71 a b = some (decide (a = b)) := by
  refine Yes.eq ?_
  unfold f71
  refine Yes.jn (Yes.cond (fun h => Yes.some (same_no h)) (fun h => ?_))
  have hl := same_len h
  refine Yes.jn (Yes.upto0 a.length ha (Same a b) (same_zero a b) (fun i k hi hI hk => ?_) (fun k hI => ?_))
  · exact Yes.cond (fun _ => Yes.jn (same_step (ne := (fun x y : Str => !(x.b == y.b))) str_ne hl hi hI hk)) (fun h => absurd h (by simp; omega))
  · exact Yes.cond (fun h => absurd h (by simp)) (fun _ => Yes.some (same_end hl hI))
theorem s27 (a b : List Str) (ha : a.length < 9223372036854775807) : f27 a b = some (decide (a = b)) := by
  refine Yes.eq ?_
  unfold f27
  refine Yes.jn (Yes.cond (fun h => Yes.some (same_no h)) (fun h => ?_))
  have hl := same_len h
  refine Yes.jn (Yes.upto0 a.length ha (Same a b) (same_zero a b) (fun i k hi hI hk => ?_) (fun k hI => ?_))
  · exact Yes.jn (Yes.cond (fun _ => Yes.jn (same_step (ne := (fun x y : Str => !(x.b == y.b))) str_ne hl hi hI hk)) (fun h => absurd h (by simp; omega)))
  · exact Yes.jn (Yes.cond (fun h => absurd h (by simp)) (fun _ => Yes.some (same_end hl hI)))
theorem s22 (a b : List FaultDamage) (ha : a.length < 9223372036854775807) : f22 a b = some (decide (a = b)) := by
  refine Yes.eq ?_
  unfold f22
  refine Yes.jn (Yes.cond (fun h => Yes.some (same_no h)) (fun h => ?_))
  have hl := same_len h
  refine Yes.jn (Yes.upto0 a.length ha (Same a b) (same_zero a b) (fun i k hi hI hk => ?_) (fun k hI => ?_))
  · exact Yes.jn (Yes.cond (fun _ => Yes.jn (same_step (ne := (fun x y => !decide (x = y))) (fun _ _ => rfl) hl hi hI hk)) (fun h => absurd h (by simp; omega)))
  · exact Yes.jn (Yes.cond (fun h => absurd h (by simp)) (fun _ => Yes.some (same_end hl hI)))
/-! ### All damages -/
theorem rem_nat {a b : Nat} (hb : 0 < b) : rem64 (a : Int) (b : Int) = some ((a % b : Nat) : Int) := by
  unfold rem64
  rw [if_neg (by omega), Int.tmod_eq_emod_of_nonneg (by omega)]
  rfl
theorem rnd_len (l : FaultLoom) (ds : List FaultDamage) : (rnd l ds).length = l.Design.Rows.length := by simp [rnd, clothOf]
/-- A consumer that appends. -/
theorem feed_app {α β : Type} {cons : Cons (List β) α} (f : α → List β) (B : Nat) : ∀ (xs : List α) (m : List β), (∀ x ∈ xs, (f x).length ≤ 1) → m.length + xs.length ≤ B → (∀ m x, x ∈ xs → m.length < B → cons m x = some (true, m ++ f x)) → feed cons xs m = some (m ++ xs.flatMap f)
  | [], m, _, _, _ => by simp [feed]
  | x :: xs, m, h1, hB, h => by
    unfold feed
    have hx := h1 x List.mem_cons_self
    simp only [List.length_cons] at hB
    rw [h m x List.mem_cons_self (by omega)]
    simp only [Option.bind_some, cond_true]
    rw [feed_app f B xs (m ++ f x) (fun y hy => h1 y (List.mem_cons_of_mem _ hy)) (by rw [List.length_append]; omega) (fun m y hy hm => h m y (List.mem_cons_of_mem _ hy) hm)]
    simp
end Go.Proofs.Ytpiaipiehjcflaa
