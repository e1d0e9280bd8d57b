/- Sorting by a key at 12 elements or fewer. -/
import Derived.Test.YtnfjhdagbknlbaaSortR
import Derived.Test.YtnfjhdagbknlbaaLawT
set_option maxRecDepth 8000
namespace Go.Proofs.Ytnfjhdagbknlbaa
open Go.RowKit

theorem wu64_id {n : Int} (h1 : 0 ≤ n) (h2 : n ≤ 18446744073709551615) : wu64 n = n := by
 unfold wu64; rw [IntKind.wrap_u64]; omega
theorem s101 {n : Nat} (h : n < 256) : ∃ v, f101 (wu64 n) = some v := by
 rw [wu64_id (by omega) (by omega)]
 unfold f101 f115
 rw [if_pos ⟨by omega, by omega⟩]
 have hl : n < lenTab.b.length := by rw [show lenTab.b.length = 256 from by kernel_rfl]; exact h
 rw [idx_at hl]
 exact ⟨_, rfl⟩
theorem s87 {φ : El → El → Option Int} {key : El → Int} {xs : List El} (hφ : ∀ x y, x ∈ xs → y ∈ xs → ∃ c, φ x y = some c ∧ (c < 0 ↔ key x < key y)) (hl : xs.length ≤ 12) :
  ∃ ys, f87 xs φ = some ys ∧ Stab key xs ys ∧ Srt key ys := by
 obtain ⟨v, hv⟩ := s101 (n := xs.length) (by omega)
 have h106 := s106 (xs := xs) (P := []) (X := xs) (S := []) (a := 0) (b := (xs.length : Int)) hφ (by simp) rfl (by simp) (by omega)
 have : Yes (f87 xs φ) fun r => Stab key xs r ∧ Srt key r := by
  unfold f87
  refine Yes.bind (Yes.of hv (Yes.bind ?_))
  obtain ⟨B, hB⟩ : ∃ B, big = B + 1 := ⟨18446744073709551615, by kernel_rfl⟩
  generalize hbb : f100 big xs 0 (xs.length : Int) v φ = z
  rw [hB] at hbb
  subst hbb
  unfold f100
  refine Yes.lp (fun s => s.1 = xs ∧ s.2.1 = 0 ∧ s.2.2.1 = (xs.length : Int)) (fun _ => 0) ⟨rfl, rfl, rfl⟩ (by decide) ?_
  rintro ⟨m, a, b, c, d, e⟩ k ⟨e1, e2, e3⟩ hk
  simp only at e1 e2 e3
  subst e1; subst e2; subst e3
  have h1 : decide (w64 ((m.length : Int) - 0) ≤ 12) = true := by rw [w64_id (by omega) (by omega)]; simp; omega
  refine Yes.jn (Yes.cond (fun _ => Yes.bind (h106.mono fun r hr => ?_)) (fun h => by rw [h1] at h; cases h))
  obtain ⟨Y, h2, h3, h4⟩ := hr
  have : r = Y := by simpa using h2
  subst this
  exact Yes.some (Yes.some ⟨h3, h4⟩)
 obtain ⟨ys, h, h2⟩ := this
 exact ⟨ys, h, h2⟩
theorem Stab.mem_iff {α : Type} {key : α → Int} {xs ys : List α} (h : Stab key xs ys) {x : α} : x ∈ xs ↔ x ∈ ys := ⟨fun hx => Stab.mem (fun v => (h v).symm) hx, fun hx => Stab.mem h hx⟩
theorem Stab.one {α : Type} {key : α → Int} {xs ys : List α} (h : Stab key xs ys) (hd : xs.Pairwise fun a b => key a ≠ key b) (hs : Srt key ys) : ys.Pairwise fun a b => key a < key b := by
 have h1 : ∀ v : Int, (ys.filter fun x => key x == v).length ≤ 1 := fun v => by
  rw [← h v]
  clear h hs
  induction xs with
  | nil => simp
  | cons a xs ih =>
   obtain ⟨h2, h3⟩ := List.pairwise_cons.1 hd
   rw [List.filter_cons]
   split
   ·rename_i hav
    have : xs.filter (fun x => key x == v) = [] := List.filter_eq_nil_iff.2 fun x hx hk => h2 x hx (by simp at hav hk; omega)
    rw [this]; simp
   ·exact ih h3
 clear h hd
 induction ys with
 | nil => exact .nil
 | cons a ys ih =>
  obtain ⟨h2, h3⟩ := List.pairwise_cons.1 hs
  refine List.pairwise_cons.2 ⟨fun b hb => ?_, ih h3 fun v => by
   have := h1 v
   rw [List.filter_cons] at this
   split at this
   ·rw [List.length_cons] at this; omega
   ·exact this⟩
  have h4 := h2 b hb
  have h5 := h1 (key a)
  rw [List.filter_cons] at h5
  simp at h5
  have := h5 b hb
  omega
end Go.Proofs.Ytnfjhdagbknlbaa
/- A loom's row: its runs, by their first days. -/
set_option maxRecDepth 8000
namespace Go.Proofs.Ytnfjhdagbknlbaa
open Go.RowKit

theorem first_loop {β : Type} {Q : β → Prop} {body : (Int → Option β) → Int → Option β} (n : Nat) (hn : n < 9223372036854775807) (p : Nat → Bool) (out : Nat → Option β)
  (hb : ∀ k i, i < n → body k (i : Int) = bif p i then out i else k (w64 ((i : Int) + 1)))
  (h1 : (List.range n).find? p = none → ∀ k, Yes (body k (n : Int)) Q) (h2 : ∀ i, i < n → (List.range n).find? p = some i → p i = true → Yes (out i) Q) : Yes (lp body big (0 : Int)) Q := by
 refine Yes.upto0 n hn (fun i => ∀ j, j < i → p j = false) (fun j h => absurd h (Nat.not_lt_zero _)) (fun i k hi hI hk => ?_) (fun k hI => ?_)
 ·rw [hb k i hi]
  cases hp : p i with
  | true => exact h2 i hi (List.find?_range_eq_some.2 ⟨hp, List.mem_range.2 hi, fun j hj => by simp [hI j hj]⟩) hp
  | false =>
   refine hk fun j hj => ?_
   rcases Nat.lt_succ_iff_lt_or_eq.1 hj with h | rfl
   ·exact hI j h
   ·exact hp
 ·exact h1 (List.find?_eq_none.2 fun x hx => by simp [hI x (List.mem_range.1 hx)]) k
def bef (x y : LoomRun) : Prop := x.From < y.From ∨ x.From = y.From ∧ x.Order < y.Order
instance (x y : LoomRun) : Decidable (bef x y) := inferInstanceAs (Decidable (_ ∨ _))
theorem s76 (x y : LoomRun) : f76 x y = some (decide (bef x y)) := by
 unfold f76 bef
 by_cases h1 : x.From < y.From
 ·simp [h1]
 ·by_cases h2 : x.From = y.From
  ·have : (x.From == y.From) = true := by simp [h2]
   simp [h1, h2, this]
  ·have : (x.From == y.From) = false := by simp [h2]
   simp [h1, h2, this]
structure Runs (m : LoomMill) (l : List LoomOrder) (r : List LoomRun) : Prop where
 r7 : r.length ≤ 7
 inR : ∀ i, i < r.length → inR m l (rn r i)
 up : ∀ i j, i < j → j < r.length → (rn r i).Order < (rn r j).Order
theorem s90 (x y : Int) : f90 x y = some (if x < y then -1 else if x > y then 1 else 0) := by
 unfold f90 f102
 by_cases h1 : x < y <;> by_cases h2 : x > y <;> simp [jn, h1, h2]
theorem s89 (a b : Int) : f89 [a, b] = some (if a ≠ 0 then a else b) := by
 refine Yes.eq ?_
 unfold f89
 refine Yes.jn (first_loop 2 (by omega) (fun i => if i = 0 then decide (a ≠ 0) else decide (b ≠ 0)) (fun i => some (if i = 0 then a else b)) (fun k i hi => ?_) (fun hf k => ?_) (fun i hi hf hp => ?_))
 ·have h1 : decide ((i : Int) < (([a, b] : List Int).length : Int)) = true := by simp; omega
  simp only [jn, h1, cond_true]
  rw [idx_at (by simpa using hi)]
  obtain rfl | rfl : i = 0 ∨ i = 1 := by omega
  ·by_cases h : a = 0
   ·simp [h]
   ·have : (a != 0) = true := by simp [h]
    simp [h, this]
  ·by_cases h : b = 0
   ·simp [h]
   ·have : (b != 0) = true := by simp [h]
    simp [h, this]
 ·have h0 := List.find?_eq_none.1 hf 0 (by simp)
  have h1 := List.find?_eq_none.1 hf 1 (by simp)
  simp at h0 h1
  have h2 : decide (((2 : Nat) : Int) < (([a, b] : List Int).length : Int)) = false := by simp
  simp only [h2, cond_false]
  exact Yes.some (by simp [h0, h1])
 ·obtain rfl | rfl : i = 0 ∨ i = 1 := by omega
  ·simp at hp; exact Yes.some (by simp [hp])
  ·simp at hp
   refine Yes.some ?_
   have h0 := (List.find?_range_eq_some.1 hf).2.2 0 (by omega)
   simp at h0
   simp [h0]
def keyR (r : List LoomRun) (x : Int) : Int := (rn r x.toNat).From * 1024 + (rn r x.toNat).Order
theorem key_bef {m : LoomMill} {l : List LoomOrder} {r : List LoomRun} (g : Good m l) (R : Runs m l r) {i j : Nat} (hi : i < r.length) (hj : j < r.length) : bef (rn r i) (rn r j) ↔ keyR r i < keyR r j := by
 obtain ⟨⟨a1, a2⟩, _, _, _⟩ := R.inR i hi
 obtain ⟨⟨b1, b2⟩, _, _, _⟩ := R.inR j hj
 have := g.l7
 unfold bef keyR
 simp only [Int.toNat_natCast]
 omega
theorem s88 {m : LoomMill} {l : List LoomOrder} {r : List LoomRun} (g : Good m l) (R : Runs m l r) {i j : Nat} (hi : i < r.length) (hj : j < r.length) : ∃ c, f88 (i : Int) (j : Int) r = some c ∧ (c < 0 ↔ keyR r i < keyR r j) := by
 rw [← key_bef g R hi hj]
 unfold f88 bef
 rw [idx_rn hi, idx_rn hj]
 simp only [Option.bind_some, s90, s89]
 refine ⟨_, rfl, ?_⟩
 by_cases h1 : (rn r i).From < (rn r j).From <;> by_cases h2 : (rn r i).From > (rn r j).From <;> by_cases h3 : (rn r i).Order < (rn r j).Order <;> by_cases h4 : (rn r i).Order > (rn r j).Order <;> simp [h1, h2, h3, h4] <;> omega
theorem s68 {m : LoomMill} {l : List LoomOrder} {r : List LoomRun} (g : Good m l) (R : Runs m l r) (t : Int) :
  ∃ A : List Nat, f68 r t = some (A.map fun (n : Nat) => (n : Int)) ∧ (∀ n, n ∈ A ↔ n < r.length ∧ (rn r n).Loom = t) ∧ A.Pairwise fun a b => bef (rn r a) (rn r b) := by
 have hr := R.r7
 have hmem : ∀ x : Int, x ∈ (((List.range r.length).filter fun i => (rn r i).Loom == t).map fun (n : Nat) => (n : Int)) → ∃ n : Nat, x = n ∧ n < r.length ∧ (rn r n).Loom = t := fun x hx => by
  obtain ⟨n, hn, rfl⟩ := List.mem_map.1 hx
  obtain ⟨h1, h2⟩ := List.mem_filter.1 hn
  exact ⟨n, rfl, List.mem_range.1 h1, by simpa using h2⟩
 have hlen : (((List.range r.length).filter fun i => (rn r i).Loom == t).map fun (n : Nat) => (n : Int)).length ≤ 12 := by
  rw [List.length_map]; have := List.length_filter_le (fun i => (rn r i).Loom == t) (List.range r.length); simp at this ⊢; omega
 obtain ⟨ys, hy1, hy2, hy3⟩ := s87 (φ := fun a0 a1 => f88 a0 a1 r) (key := keyR r) (xs := ((List.range r.length).filter fun i => (rn r i).Loom == t).map fun (n : Nat) => (n : Int)) (fun x y hx hy => by
  obtain ⟨i, rfl, hi, _⟩ := hmem x hx
  obtain ⟨j, rfl, hj, _⟩ := hmem y hy
  exact s88 g R hi hj) hlen
 have hd := Stab.one hy2 (by
  rw [List.pairwise_map]
  refine List.Pairwise.imp_of_mem ?_ ((List.pairwise_lt_range (n := r.length)).filter _)
  intro a b ha hb hab
  have ha := List.mem_range.1 (List.mem_filter.1 ha).1
  have hb := List.mem_range.1 (List.mem_filter.1 hb).1
  obtain ⟨⟨a1, a2⟩, _⟩ := R.inR a ha
  obtain ⟨⟨b1, b2⟩, _⟩ := R.inR b hb
  have h3 := R.up a b hab hb
  have := g.l7
  unfold keyR
  simp only [Int.toNat_natCast]
  omega) hy3
 have hyn : ∀ x ∈ ys, ∃ n : Nat, x = n ∧ n < r.length ∧ (rn r n).Loom = t := fun x hx => hmem x (hy2.mem_iff.2 hx)
 have hcast : (ys.map Int.toNat).map (fun (n : Nat) => (n : Int)) = ys := by
  rw [List.map_map]
  conv => rhs; rw [← List.map_id ys]
  refine List.map_congr_left fun x hx => ?_
  obtain ⟨n, rfl, _⟩ := hyn x hx
  simp
 refine ⟨ys.map Int.toNat, ?_, fun n => ?_, ?_⟩
 ·rw [hcast]
  refine Yes.eq ?_
  unfold f68
  refine Yes.bind ?_
  refine Yes.upto r.length (by omega) (fun i s => s = ((List.range i).filter fun i => (rn r i).Loom == t).map fun (n : Nat) => (n : Int)) rfl (fun i s k hi hI hk => ?_) (fun s k hI => ?_)
  ·have h1 : decide ((i : Int) < (r.length : Int)) = true := by simp; omega
   refine Yes.cond (fun _ => Yes.bind ?_) (fun h => by rw [h1] at h; cases h)
   rw [idx_rn hi, Option.bind_some]
   have hs : s.length ≤ i := by rw [hI, List.length_map]; have := List.length_filter_le (fun i => (rn r i).Loom == t) (List.range i); simpa using this
   refine Yes.cond (fun h => Yes.bind (Yes.apnd (by simp; omega) (by simp; omega) (Yes.some (hk _ ?_)))) (fun h => Yes.some (hk _ ?_))
   ·rw [hI, List.range_succ, List.filter_append]; simp at h; simp [h]
   ·rw [hI, List.range_succ, List.filter_append]; simp at h; simp [h]
  ·have h1 : decide (((r.length : Nat) : Int) < (r.length : Int)) = false := by simp
   refine Yes.cond (fun h => by rw [h1] at h; cases h) (fun _ => Yes.some ?_)
   rw [hI, hy1]
   exact Yes.some rfl
 ·constructor
  ·intro h
   obtain ⟨x, hx, rfl⟩ := List.mem_map.1 h
   obtain ⟨n, rfl, h1, h2⟩ := hyn x hx
   simpa using ⟨h1, h2⟩
  ·rintro ⟨h1, h2⟩
   refine List.mem_map.2 ⟨(n : Int), hy2.mem_iff.1 ?_, by simp⟩
   exact List.mem_map.2 ⟨n, List.mem_filter.2 ⟨List.mem_range.2 h1, by simpa using h2⟩, rfl⟩
 ·rw [List.pairwise_map]
  refine List.Pairwise.imp_of_mem ?_ hd
  intro a b ha hb hab
  obtain ⟨i, rfl, hi, _⟩ := hyn a ha
  obtain ⟨j, rfl, hj, _⟩ := hyn b hb
  simp only [Int.toNat_natCast]
  exact (key_bef g R hi hj).2 hab
end Go.Proofs.Ytnfjhdagbknlbaa
