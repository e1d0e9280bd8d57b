/- Laws of plain functions, part 1. -/
import Derived.Test.YticdblhibbaojaaDoorCodes
import Derived.Test.YticdblhibbaojaaDoorYes
set_option maxRecDepth 8000
namespace Go.Proofs.YticdblhibbaojaaDoor
open Go.RowKit
open Classical
theorem qskipS {α : Type} {Q : α → Prop} {c : Bool} {X Y : Option α} (hc : c = false) (h : Yes Y Q) : Yes (bif c then X else Y) Q := by rw [hc]; exact h
theorem qtakeS {α : Type} {Q : α → Prop} {c : Bool} {X Y : Option α} (hc : c = true) (h : Yes X Q) : Yes (bif c then X else Y) Q := by rw [hc]; exact h
theorem qbindS {α β : Type} {Q : β → Prop} {x : Option α} {f : α → Option β} (a : α) (h : x = some a) (k : Yes (f a) Q) : Yes (x.bind f) Q := by rw [h]; exact k
theorem quo_nnS {a b : Int} (ha : 0 ≤ a) (ha2 : a ≤ 9223372036854775807) (hb : 0 < b) : quo64 a b = some (a / b) := by
 unfold quo64
 rw [if_neg (by omega), Int.tdiv_eq_ediv_of_nonneg ha, w64_id]
 ·have := Int.ediv_nonneg ha (Int.le_of_lt hb); omega
 ·exact Int.le_trans (Int.ediv_le_self b ha) ha2
theorem min64_eqS (a b : Int) : min64 a b = min a b := by unfold min64; omega
theorem max64_eqS (a b : Int) : max64 a b = max a b := by unfold max64; omega

theorem qremS {a b : Int} (ha : 0 ≤ a) (hb : 0 < b) : rem64 a b = some (a % b) := by
 unfold rem64
 rw [if_neg (by omega), Int.tmod_eq_emod_of_nonneg ha]
theorem mul_leS {a b A B : Int} (ha : 0 ≤ a) (hA : a ≤ A) (hb : 0 ≤ b) (hB : b ≤ B) : 0 ≤ a * b ∧ a * b ≤ A * B :=
 ⟨Int.mul_nonneg ha hb, Int.mul_le_mul hA hB hb (Int.le_trans ha hA)⟩
def btwS (a b x : Int) : Bool := decide (a ≤ x ∧ x ≤ b)
theorem btw_iffS {a b x : Int} : btwS a b x = true ↔ a ≤ x ∧ x ≤ b := by simp [btwS]
theorem s42S (x a b : Int) : f39 x a b = some (!btwS a b x) := by unfold f39 btwS; by_cases h1 : x < a <;> by_cases h2 : x > b <;> simp [h1, h2] <;> omega
theorem s34S (xs : List Int) (φ : Int → Option Bool) (p : Int → Bool) (hl : xs.length < 9223372036854775807) (h : ∀ a ∈ xs, φ a = some (p a)) : f38 xs φ = some (xs.any p) :=
 Yes.eq (Yes.bind (Yes.mono (index_is xs φ p hl h) fun _ hr => Yes.some (index_any hr)))
theorem s21S (a b : Int) (xs : List Int) (hl : xs.length < 9223372036854775807) : f17 a b xs = some (xs.all (btwS a b)) := by
 unfold f17
 rw [s34S xs _ (fun x => !btwS a b x) hl fun x _ => s42S x a b]
 simp [List.all_eq_not_any_not]
theorem s24S (x y : Int) : f20 x y = some (if x < y then -1 else if y < x then 1 else 0) := by
 have h : ∀ z, f41 z = some false := fun z => by simp [f41]
 unfold f20
 rw [h, h]
 simp only [Option.bind_some, jn, cond_false]
 by_cases h1 : x < y
 ·simp [h1]
 ·by_cases h2 : y < x
  ·simp [h1, h2]
  ·simp [h1, h2]
abbrev ElS := Int

section
variable {α : Type} (key : α → Int)
def StabS (xs ys : List α) : Prop := ∀ v : Int, xs.filter (fun x => key x == v) = ys.filter (fun x => key x == v)
end
section
variable {α : Type} (key : α → Int)
variable {α : Type} (key : α → Int)
def SrtS (xs : List α) : Prop := xs.Pairwise fun a b => key a ≤ key b
end
section
variable {α : Type} (key : α → Int)
variable {α : Type} (key : α → Int)
variable {α : Type} (key : α → Int)
variable {key}
theorem StabS.refl (xs : List α) : StabS key xs xs := fun _ => rfl
end
section
variable {α : Type} (key : α → Int)
variable {α : Type} (key : α → Int)
variable {α : Type} (key : α → Int)
variable {key}
variable {α : Type} (key : α → Int)
variable {key}
theorem StabS.trans {xs ys zs : List α} (h : StabS key xs ys) (k : StabS key ys zs) : StabS key xs zs := fun v => (h v).trans (k v)
end
section
variable {α : Type} (key : α → Int)
variable {α : Type} (key : α → Int)
variable {α : Type} (key : α → Int)
variable {key}
variable {α : Type} (key : α → Int)
variable {key}
variable {α : Type} (key : α → Int)
variable {key}
theorem StabS.app {a a' b b' : List α} (h : StabS key a a') (k : StabS key b b') : StabS key (a ++ b) (a' ++ b') := fun v => by rw [List.filter_append, List.filter_append, h v, k v]
end
section
variable {α : Type} (key : α → Int)
variable {α : Type} (key : α → Int)
variable {α : Type} (key : α → Int)
variable {key}
variable {α : Type} (key : α → Int)
variable {key}
variable {α : Type} (key : α → Int)
variable {key}
variable {α : Type} (key : α → Int)
variable {key}
theorem StabS.mem {xs ys : List α} (h : StabS key xs ys) {x : α} (hx : x ∈ ys) : x ∈ xs := by
 have h1 : x ∈ ys.filter (fun y => key y == key x) := List.mem_filter.2 ⟨hx, by simp⟩
 rw [← h (key x)] at h1
 exact (List.mem_filter.1 h1).1
end
section
variable {α : Type} (key : α → Int)
variable {α : Type} (key : α → Int)
variable {α : Type} (key : α → Int)
variable {key}
variable {α : Type} (key : α → Int)
variable {key}
variable {α : Type} (key : α → Int)
variable {key}
variable {α : Type} (key : α → Int)
variable {key}
variable {α : Type} (key : α → Int)
variable {key}
theorem StabS.swap {a b : List α} (h : ∀ x ∈ a, ∀ y ∈ b, key y < key x) : StabS key (a ++ b) (b ++ a) := fun v => by
 rw [List.filter_append, List.filter_append]
 by_cases hb : b.filter (fun x => key x == v) = []
 ·rw [hb]; simp
 ·have ha : a.filter (fun x => key x == v) = [] := List.filter_eq_nil_iff.2 fun x hx hk => by
   obtain ⟨y, hy⟩ := List.exists_mem_of_ne_nil _ hb
   obtain ⟨hy1, hy2⟩ := List.mem_filter.1 hy
   have := h x hx y hy1
   simp at hk hy2
   omega
  rw [ha]; simp
end
section
variable {α : Type} (key : α → Int)
variable {α : Type} (key : α → Int)
variable {α : Type} (key : α → Int)
variable {key}
variable {α : Type} (key : α → Int)
variable {key}
variable {α : Type} (key : α → Int)
variable {key}
variable {α : Type} (key : α → Int)
variable {key}
variable {α : Type} (key : α → Int)
variable {key}
variable {α : Type} (key : α → Int)
variable {key}
theorem srt_appS {a b : List α} : SrtS key (a ++ b) ↔ SrtS key a ∧ SrtS key b ∧ ∀ x ∈ a, ∀ y ∈ b, key x ≤ key y := List.pairwise_append
end
section
variable {α : Type} (key : α → Int)
variable {α : Type} (key : α → Int)
variable {α : Type} (key : α → Int)
variable {key}
variable {α : Type} (key : α → Int)
variable {key}
variable {α : Type} (key : α → Int)
variable {key}
variable {α : Type} (key : α → Int)
variable {key}
variable {α : Type} (key : α → Int)
variable {key}
variable {α : Type} (key : α → Int)
variable {key}
variable {α : Type} (key : α → Int)
variable {key}
variable {α : Type}
theorem get_atS {p s : List α} {x : α} {i : Nat} (hi : i = p.length) (h : i < (p ++ x :: s).length) : (p ++ x :: s)[i] = x := by subst hi; simp
end
section
variable {α : Type} (key : α → Int)
variable {α : Type} (key : α → Int)
variable {α : Type} (key : α → Int)
variable {key}
variable {α : Type} (key : α → Int)
variable {key}
variable {α : Type} (key : α → Int)
variable {key}
variable {α : Type} (key : α → Int)
variable {key}
variable {α : Type} (key : α → Int)
variable {key}
variable {α : Type} (key : α → Int)
variable {key}
variable {α : Type} (key : α → Int)
variable {key}
variable {α : Type}
variable {α : Type} (key : α → Int)
variable {key}
variable {α : Type}
theorem set_atS {p s : List α} {x y : α} {i : Nat} (hi : i = p.length) : (p ++ x :: s).set i y = p ++ y :: s := by subst hi; simp
end
section
variable {α : Type} (key : α → Int)
variable {α : Type} (key : α → Int)
variable {α : Type} (key : α → Int)
variable {key}
variable {α : Type} (key : α → Int)
variable {key}
variable {α : Type} (key : α → Int)
variable {key}
variable {α : Type} (key : α → Int)
variable {key}
variable {α : Type} (key : α → Int)
variable {key}
variable {α : Type} (key : α → Int)
variable {key}
variable {α : Type} (key : α → Int)
variable {key}
variable {α : Type}
variable {α : Type} (key : α → Int)
variable {key}
variable {α : Type}
variable {α : Type} (key : α → Int)
variable {key}
variable {α : Type}
variable {β : Type} {Q : β → Prop} {K : List ElS → Option β} {m A B C : List ElS} {u v : ElS} {a b : Int}
theorem get_loS {i : Nat} (hi : i = A.length) (h : i < (A ++ u :: (B ++ v :: C)).length) : (A ++ u :: (B ++ v :: C))[i] = u := get_atS hi h
end
section
variable {α : Type} (key : α → Int)
variable {α : Type} (key : α → Int)
variable {α : Type} (key : α → Int)
variable {key}
variable {α : Type} (key : α → Int)
variable {key}
variable {α : Type} (key : α → Int)
variable {key}
variable {α : Type} (key : α → Int)
variable {key}
variable {α : Type} (key : α → Int)
variable {key}
variable {α : Type} (key : α → Int)
variable {key}
variable {α : Type} (key : α → Int)
variable {key}
variable {α : Type}
variable {α : Type} (key : α → Int)
variable {key}
variable {α : Type}
variable {α : Type} (key : α → Int)
variable {key}
variable {α : Type}
variable {β : Type} {Q : β → Prop} {K : List ElS → Option β} {m A B C : List ElS} {u v : ElS} {a b : Int}
variable {α : Type} (key : α → Int)
variable {key}
variable {α : Type}
variable {β : Type} {Q : β → Prop} {K : List ElS → Option β} {m A B C : List ElS} {u v : ElS} {a b : Int}
theorem get_hiS {i : Nat} (hi : i = A.length + 1 + B.length) (h : i < (A ++ u :: (B ++ v :: C)).length) : (A ++ u :: (B ++ v :: C))[i] = v := by
 have e : A ++ u :: (B ++ v :: C) = (A ++ u :: B) ++ v :: C := by simp
 simp only [e]
 exact get_atS (by simp; omega) _
end
section
variable {α : Type} (key : α → Int)
variable {α : Type} (key : α → Int)
variable {α : Type} (key : α → Int)
variable {key}
variable {α : Type} (key : α → Int)
variable {key}
variable {α : Type} (key : α → Int)
variable {key}
variable {α : Type} (key : α → Int)
variable {key}
variable {α : Type} (key : α → Int)
variable {key}
variable {α : Type} (key : α → Int)
variable {key}
variable {α : Type} (key : α → Int)
variable {key}
variable {α : Type}
variable {α : Type} (key : α → Int)
variable {key}
variable {α : Type}
variable {α : Type} (key : α → Int)
variable {key}
variable {α : Type}
variable {β : Type} {Q : β → Prop} {K : List ElS → Option β} {m A B C : List ElS} {u v : ElS} {a b : Int}
variable {α : Type} (key : α → Int)
variable {key}
variable {α : Type}
variable {β : Type} {Q : β → Prop} {K : List ElS → Option β} {m A B C : List ElS} {u v : ElS} {a b : Int}
variable {α : Type} (key : α → Int)
variable {key}
variable {α : Type}
variable {β : Type} {Q : β → Prop} {K : List ElS → Option β} {m A B C : List ElS} {u v : ElS} {a b : Int}
theorem set_loS {i : Nat} (hi : i = A.length) (y : ElS) : (A ++ u :: (B ++ v :: C)).set i y = A ++ y :: (B ++ v :: C) := set_atS hi
end
section
variable {α : Type} (key : α → Int)
variable {α : Type} (key : α → Int)
variable {α : Type} (key : α → Int)
variable {key}
variable {α : Type} (key : α → Int)
variable {key}
variable {α : Type} (key : α → Int)
variable {key}
variable {α : Type} (key : α → Int)
variable {key}
variable {α : Type} (key : α → Int)
variable {key}
variable {α : Type} (key : α → Int)
variable {key}
variable {α : Type} (key : α → Int)
variable {key}
variable {α : Type}
variable {α : Type} (key : α → Int)
variable {key}
variable {α : Type}
variable {α : Type} (key : α → Int)
variable {key}
variable {α : Type}
variable {β : Type} {Q : β → Prop} {K : List ElS → Option β} {m A B C : List ElS} {u v : ElS} {a b : Int}
variable {α : Type} (key : α → Int)
variable {key}
variable {α : Type}
variable {β : Type} {Q : β → Prop} {K : List ElS → Option β} {m A B C : List ElS} {u v : ElS} {a b : Int}
variable {α : Type} (key : α → Int)
variable {key}
variable {α : Type}
variable {β : Type} {Q : β → Prop} {K : List ElS → Option β} {m A B C : List ElS} {u v : ElS} {a b : Int}
variable {α : Type} (key : α → Int)
variable {key}
variable {α : Type}
variable {β : Type} {Q : β → Prop} {K : List ElS → Option β} {m A B C : List ElS} {u v : ElS} {a b : Int}
theorem set_hiS {i : Nat} (hi : i = A.length + 1 + B.length) (y : ElS) : (A ++ u :: (B ++ v :: C)).set i y = A ++ u :: (B ++ y :: C) := by
 have e : ∀ z, A ++ u :: (B ++ z :: C) = (A ++ u :: B) ++ z :: C := fun z => by simp
 rw [e, e]
 exact set_atS (by simp; omega)
end
section
variable {α : Type} (key : α → Int)
variable {α : Type} (key : α → Int)
variable {α : Type} (key : α → Int)
variable {key}
variable {α : Type} (key : α → Int)
variable {key}
variable {α : Type} (key : α → Int)
variable {key}
variable {α : Type} (key : α → Int)
variable {key}
variable {α : Type} (key : α → Int)
variable {key}
variable {α : Type} (key : α → Int)
variable {key}
variable {α : Type} (key : α → Int)
variable {key}
variable {α : Type}
variable {α : Type} (key : α → Int)
variable {key}
variable {α : Type}
variable {α : Type} (key : α → Int)
variable {key}
variable {α : Type}
variable {β : Type} {Q : β → Prop} {K : List ElS → Option β} {m A B C : List ElS} {u v : ElS} {a b : Int}
variable {α : Type} (key : α → Int)
variable {key}
variable {α : Type}
variable {β : Type} {Q : β → Prop} {K : List ElS → Option β} {m A B C : List ElS} {u v : ElS} {a b : Int}
variable {α : Type} (key : α → Int)
variable {key}
variable {α : Type}
variable {β : Type} {Q : β → Prop} {K : List ElS → Option β} {m A B C : List ElS} {u v : ElS} {a b : Int}
variable {α : Type} (key : α → Int)
variable {key}
variable {α : Type}
variable {β : Type} {Q : β → Prop} {K : List ElS → Option β} {m A B C : List ElS} {u v : ElS} {a b : Int}
variable {α : Type} (key : α → Int)
variable {key}
variable {α : Type}
variable {β : Type} {Q : β → Prop} {K : List ElS → Option β} {m A B C : List ElS} {u v : ElS} {a b : Int}
theorem swapHiS (hm : m = A ++ u :: (B ++ v :: C)) (ha : a = ((A.length + 1 + B.length : Nat) : Int)) (hb : b = (A.length : Int)) (hk : Yes (K (A ++ v :: (B ++ u :: C))) Q) :
  Yes ((idx m b).bind fun y1 => (idx m a).bind fun y2 => (idx m a).bind fun _ => (idx (List.set m (Int.toNat a) y1) b).bind fun _ => K (List.set (List.set m (Int.toNat a) y1) (Int.toNat b) y2)) Q := by
 subst hm
 refine Yes.bind (Yes.idx hb (by simp) (Yes.bind (Yes.idx ha (by simp; omega) (Yes.bind (Yes.idx ha (by simp; omega) (Yes.bind (Yes.idx hb (by simp) ?_)))))))
 subst ha; subst hb
 rw [get_hiS rfl, get_loS rfl, Int.toNat_natCast, Int.toNat_natCast, set_hiS rfl, set_loS rfl]
 exact hk
end
section
variable {α : Type} (key : α → Int)
variable {α : Type} (key : α → Int)
variable {α : Type} (key : α → Int)
variable {key}
variable {α : Type} (key : α → Int)
variable {key}
variable {α : Type} (key : α → Int)
variable {key}
variable {α : Type} (key : α → Int)
variable {key}
variable {α : Type} (key : α → Int)
variable {key}
variable {α : Type} (key : α → Int)
variable {key}
variable {α : Type} (key : α → Int)
variable {key}
variable {α : Type}
variable {α : Type} (key : α → Int)
variable {key}
variable {α : Type}
variable {α : Type} (key : α → Int)
variable {key}
variable {α : Type}
variable {β : Type} {Q : β → Prop} {K : List ElS → Option β} {m A B C : List ElS} {u v : ElS} {a b : Int}
variable {α : Type} (key : α → Int)
variable {key}
variable {α : Type}
variable {β : Type} {Q : β → Prop} {K : List ElS → Option β} {m A B C : List ElS} {u v : ElS} {a b : Int}
variable {α : Type} (key : α → Int)
variable {key}
variable {α : Type}
variable {β : Type} {Q : β → Prop} {K : List ElS → Option β} {m A B C : List ElS} {u v : ElS} {a b : Int}
variable {α : Type} (key : α → Int)
variable {key}
variable {α : Type}
variable {β : Type} {Q : β → Prop} {K : List ElS → Option β} {m A B C : List ElS} {u v : ElS} {a b : Int}
variable {α : Type} (key : α → Int)
variable {key}
variable {α : Type}
variable {β : Type} {Q : β → Prop} {K : List ElS → Option β} {m A B C : List ElS} {u v : ElS} {a b : Int}
variable {α : Type} (key : α → Int)
variable {key}
variable {α : Type}
variable {β : Type} {Q : β → Prop} {K : List ElS → Option β} {m A B C : List ElS} {u v : ElS} {a b : Int}
theorem s68S {φ : ElS → ElS → Option Int} {key : ElS → Int} {xs P X S : List ElS} (hφ : ∀ x y, x ∈ xs → y ∈ xs → ∃ c, φ x y = some c ∧ (c < 0 ↔ key x < key y)) {a b : Int} (hm : xs = P ++ X ++ S) (ha : a = P.length) (hb : b = ((P.length + X.length : Nat) : Int)) (hs : xs.length < 1000000) : Yes (f60 xs a b φ) fun r => ∃ Y, r = P ++ Y ++ S ∧ StabS key X Y ∧ SrtS key Y := by
 have hlen : P.length + X.length + S.length < 1000000 := by rw [hm] at hs; simp at hs; omega
 unfold f60
 subst ha; subst hb
 rw [w64_id (by omega) (by omega)]
 by_cases h0 : X = []
 ·subst h0
  refine Yes.lp (fun s => s.1 = xs ∧ s.2 = (P.length : Int) + 1) (fun _ => 0) ⟨rfl, rfl⟩ (by decide) ?_
  rintro ⟨r, j⟩ k ⟨h1, h2⟩ hk
  simp only at h1 h2
  subst h1; subst h2
  exact Yes.jn (Yes.cond (fun h => absurd h (by simp; omega)) (fun _ => Yes.some ⟨[], by rw [hm], StabS.refl _, List.Pairwise.nil⟩))
 obtain ⟨x0, X0, rfl⟩ := List.exists_cons_of_ne_nil h0
 have hXl : (x0 :: X0).length = X0.length + 1 := rfl
 refine Yes.lp (fun s => ∃ X1 Z Y : List ElS, X0 = X1 ++ Z ∧ s.1 = P ++ Y ++ Z ++ S ∧ Y.length = X1.length + 1 ∧ s.2 = ((P.length + Y.length : Nat) : Int) ∧ StabS key (x0 :: X1) Y ∧ SrtS key Y) (fun s => (P.length + X0.length + 2) - s.2.toNat)
  ⟨[], X0, [x0], rfl, by rw [hm]; simp, rfl, by simp, StabS.refl _, List.pairwise_singleton _ _⟩ (by simp only; omega) ?_
 rintro ⟨r, j⟩ k ⟨X1, Z, Y, hX, h1, hY, h2, hst, hsr⟩ hk
 simp only at h1 h2 hk
 subst h2
 have hXl2 : X0.length = X1.length + Z.length := by rw [hX]; simp
 refine Yes.jn (Yes.cond (fun hlt => Yes.bind ?_) (fun hge => Yes.some ?_))
 rotate_left
 ·have hz : Z = [] := List.length_eq_zero_iff.1 (by simp at hge; omega)
  subst hz
  exact ⟨Y, by rw [h1]; simp, by rw [hX]; simpa using hst, hsr⟩
 have hzl : 0 < Z.length := by simp at hlt; omega
 obtain ⟨z, Z', rfl⟩ := List.exists_cons_of_ne_nil (List.length_pos_iff.1 hzl)
 simp only [List.length_cons] at hXl2
 refine Yes.lp (fun s => ∃ Y1 Y2 : List ElS, Y = Y1 ++ Y2 ∧ s.1 = P ++ Y1 ++ z :: Y2 ++ Z' ++ S ∧ s.2 = ((P.length + Y1.length : Nat) : Int) ∧ ∀ y ∈ Y2, key z < key y) (fun s => s.2.toNat)
  ⟨Y, [], by simp, by rw [h1]; simp, rfl, fun y hy => by cases hy⟩ (by simp only; omega) ?_
 rintro ⟨r2, j⟩ k2 ⟨Y1, Y2, hYe, h3, h4, hY2⟩ hk2
 simp only at h3 h4 hk2
 subst h4
 have hYl : Y.length = Y1.length + Y2.length := by rw [hYe]; simp
 have hr2 : r2.length < 1000000 := by rw [h3]; simp; omega
 have fin : (Y1 = [] ∨ ∃ y Y1', Y1 = Y1' ++ [y] ∧ key y ≤ key z) → Yes (some r2) (fun r => Yes (k (r, w64 (((P.length + Y.length : Nat) : Int) + 1))) fun r => ∃ Y, r = P ++ Y ++ S ∧ StabS key (x0 :: X0) Y ∧ SrtS key Y) := fun hfin => by
  rw [w64_id (by omega) (by omega)]
  refine Yes.some (hk _ ⟨X1 ++ [z], Z', Y1 ++ z :: Y2, by rw [hX]; simp, by rw [h3]; simp, by simp; omega, by simp; omega, ?_, ?_⟩ (by simp only; omega))
  ·have e1 : StabS key (x0 :: (X1 ++ [z])) (Y ++ [z]) := hst.app (StabS.refl [z])
   have e2 : StabS key (Y2 ++ [z]) ([z] ++ Y2) := StabS.swap fun x hx y hy => by rw [List.mem_singleton.1 hy]; exact hY2 x hx
   have e3 : StabS key (Y1 ++ (Y2 ++ [z])) (Y1 ++ ([z] ++ Y2)) := (StabS.refl Y1).app e2
   refine e1.trans ?_
   rw [hYe, List.append_assoc]
   exact e3
  ·rw [hYe] at hsr
   obtain ⟨s1, s2, s3⟩ := srt_appS.1 hsr
   refine srt_appS.2 ⟨s1, List.pairwise_cons.2 ⟨fun y hy => by have := hY2 y hy; omega, s2⟩, fun x hx y hy => ?_⟩
   rcases List.mem_cons.1 hy with rfl | hy
   ·rcases hfin with rfl | ⟨q, Q, rfl, hq⟩
    ·cases hx
    ·obtain ⟨_, _, s5⟩ := srt_appS.1 s1
     rcases List.mem_append.1 hx with h | h
     ·have := s5 x h q (by simp); omega
     ·rw [List.mem_singleton.1 h]; exact hq
   ·exact s3 x hx y hy
 refine Yes.jn (Yes.bind (Yes.cond (fun hgt => ?_) (fun hng => Yes.some (Yes.cond (fun h => nomatch h) (fun _ => fin (.inl ?_))))))
 rotate_left
 ·exact List.length_eq_zero_iff.1 (by simp at hng; omega)
 have hY1 : 0 < Y1.length := by simp at hgt; omega
 obtain ⟨y, Y1', hY1e⟩ : ∃ y Y1', Y1 = Y1' ++ [y] := by
  have hne : Y1 ≠ [] := List.length_pos_iff.1 hY1
  exact ⟨Y1.getLast hne, Y1.dropLast, (List.dropLast_concat_getLast hne).symm⟩
 have hY1l : Y1.length = Y1'.length + 1 := by rw [hY1e]; simp
 have e : r2 = (P ++ Y1') ++ y :: ([] ++ z :: (Y2 ++ Z' ++ S)) := by rw [h3, hY1e]; simp
 have hA : (P ++ Y1').length = P.length + Y1'.length := by simp
 rw [w64_id (n := ((P.length + Y1.length : Nat) : Int) - 1) (by omega) (by omega)]
 have hi1 : P.length + Y1.length < r2.length := by rw [h3]; simp
 have hi0 : P.length + Y1'.length < r2.length := by omega
 refine Yes.bind (Yes.idx (n := P.length + Y1.length) rfl hi1 (Yes.bind (Yes.idx (n := P.length + Y1'.length) (by omega) hi0 ?_)))
 have g1 : r2[P.length + Y1.length] = z := by simp only [e]; exact get_hiS (by rw [hA]; simp; omega) _
 have g0 : r2[P.length + Y1'.length] = y := by simp only [e]; exact get_loS (by rw [hA]) _
 rw [g1, g0]
 obtain ⟨c, hφc, hcl⟩ := hφ z y (by rw [hm, hX]; simp) (by rw [hm]; have := hst.mem (x := y) (by rw [hYe, hY1e]; simp); rw [hX]; simp at this ⊢; grind)
 refine Yes.bind (Yes.of hφc (Yes.some (Yes.cond (fun hc => ?_) (fun hc => fin (.inr ⟨y, Y1', hY1e, ?_⟩)))))
 rotate_left
 ·simp at hc; omega
 have hc : key z < key y := by simp at hc; omega
 refine Yes.jn (Yes.bind (swapHiS e (by rw [hA]; simp; omega) (by rw [hA]; omega) (Yes.some ?_)))
 refine hk2 _ ⟨Y1', y :: Y2, by rw [hYe, hY1e]; simp, by simp, by omega, fun q hq => ?_⟩ (by simp only; omega)
 rcases List.mem_cons.1 hq with rfl | hq
 ·exact hc
 ·exact hY2 q hq
end
section
variable {α : Type} (key : α → Int)
variable {α : Type} (key : α → Int)
variable {α : Type} (key : α → Int)
variable {key}
variable {α : Type} (key : α → Int)
variable {key}
variable {α : Type} (key : α → Int)
variable {key}
variable {α : Type} (key : α → Int)
variable {key}
variable {α : Type} (key : α → Int)
variable {key}
variable {α : Type} (key : α → Int)
variable {key}
variable {α : Type} (key : α → Int)
variable {key}
variable {α : Type}
variable {α : Type} (key : α → Int)
variable {key}
variable {α : Type}
variable {α : Type} (key : α → Int)
variable {key}
variable {α : Type}
variable {β : Type} {Q : β → Prop} {K : List ElS → Option β} {m A B C : List ElS} {u v : ElS} {a b : Int}
variable {α : Type} (key : α → Int)
variable {key}
variable {α : Type}
variable {β : Type} {Q : β → Prop} {K : List ElS → Option β} {m A B C : List ElS} {u v : ElS} {a b : Int}
variable {α : Type} (key : α → Int)
variable {key}
variable {α : Type}
variable {β : Type} {Q : β → Prop} {K : List ElS → Option β} {m A B C : List ElS} {u v : ElS} {a b : Int}
variable {α : Type} (key : α → Int)
variable {key}
variable {α : Type}
variable {β : Type} {Q : β → Prop} {K : List ElS → Option β} {m A B C : List ElS} {u v : ElS} {a b : Int}
variable {α : Type} (key : α → Int)
variable {key}
variable {α : Type}
variable {β : Type} {Q : β → Prop} {K : List ElS → Option β} {m A B C : List ElS} {u v : ElS} {a b : Int}
variable {α : Type} (key : α → Int)
variable {key}
variable {α : Type}
variable {β : Type} {Q : β → Prop} {K : List ElS → Option β} {m A B C : List ElS} {u v : ElS} {a b : Int}
def rngS (n : Nat) : List Int := (List.range n).map fun i : Nat => (i : Int)
end
section
variable {α : Type} (key : α → Int)
variable {α : Type} (key : α → Int)
variable {α : Type} (key : α → Int)
variable {key}
variable {α : Type} (key : α → Int)
variable {key}
variable {α : Type} (key : α → Int)
variable {key}
variable {α : Type} (key : α → Int)
variable {key}
variable {α : Type} (key : α → Int)
variable {key}
variable {α : Type} (key : α → Int)
variable {key}
variable {α : Type} (key : α → Int)
variable {key}
variable {α : Type}
variable {α : Type} (key : α → Int)
variable {key}
variable {α : Type}
variable {α : Type} (key : α → Int)
variable {key}
variable {α : Type}
variable {β : Type} {Q : β → Prop} {K : List ElS → Option β} {m A B C : List ElS} {u v : ElS} {a b : Int}
variable {α : Type} (key : α → Int)
variable {key}
variable {α : Type}
variable {β : Type} {Q : β → Prop} {K : List ElS → Option β} {m A B C : List ElS} {u v : ElS} {a b : Int}
variable {α : Type} (key : α → Int)
variable {key}
variable {α : Type}
variable {β : Type} {Q : β → Prop} {K : List ElS → Option β} {m A B C : List ElS} {u v : ElS} {a b : Int}
variable {α : Type} (key : α → Int)
variable {key}
variable {α : Type}
variable {β : Type} {Q : β → Prop} {K : List ElS → Option β} {m A B C : List ElS} {u v : ElS} {a b : Int}
variable {α : Type} (key : α → Int)
variable {key}
variable {α : Type}
variable {β : Type} {Q : β → Prop} {K : List ElS → Option β} {m A B C : List ElS} {u v : ElS} {a b : Int}
variable {α : Type} (key : α → Int)
variable {key}
variable {α : Type}
variable {β : Type} {Q : β → Prop} {K : List ElS → Option β} {m A B C : List ElS} {u v : ElS} {a b : Int}
theorem rng_lenS (n : Nat) : (rngS n).length = n := by simp [rngS]
end
section
variable {α : Type} (key : α → Int)
variable {α : Type} (key : α → Int)
variable {α : Type} (key : α → Int)
variable {key}
variable {α : Type} (key : α → Int)
variable {key}
variable {α : Type} (key : α → Int)
variable {key}
variable {α : Type} (key : α → Int)
variable {key}
variable {α : Type} (key : α → Int)
variable {key}
variable {α : Type} (key : α → Int)
variable {key}
variable {α : Type} (key : α → Int)
variable {key}
variable {α : Type}
variable {α : Type} (key : α → Int)
variable {key}
variable {α : Type}
variable {α : Type} (key : α → Int)
variable {key}
variable {α : Type}
variable {β : Type} {Q : β → Prop} {K : List ElS → Option β} {m A B C : List ElS} {u v : ElS} {a b : Int}
variable {α : Type} (key : α → Int)
variable {key}
variable {α : Type}
variable {β : Type} {Q : β → Prop} {K : List ElS → Option β} {m A B C : List ElS} {u v : ElS} {a b : Int}
variable {α : Type} (key : α → Int)
variable {key}
variable {α : Type}
variable {β : Type} {Q : β → Prop} {K : List ElS → Option β} {m A B C : List ElS} {u v : ElS} {a b : Int}
variable {α : Type} (key : α → Int)
variable {key}
variable {α : Type}
variable {β : Type} {Q : β → Prop} {K : List ElS → Option β} {m A B C : List ElS} {u v : ElS} {a b : Int}
variable {α : Type} (key : α → Int)
variable {key}
variable {α : Type}
variable {β : Type} {Q : β → Prop} {K : List ElS → Option β} {m A B C : List ElS} {u v : ElS} {a b : Int}
variable {α : Type} (key : α → Int)
variable {key}
variable {α : Type}
variable {β : Type} {Q : β → Prop} {K : List ElS → Option β} {m A B C : List ElS} {u v : ElS} {a b : Int}
theorem mem_rngS {n : Nat} {x : Int} : x ∈ rngS n ↔ 0 ≤ x ∧ x < (n : Int) := by
 unfold rngS
 rw [List.mem_map]
 constructor
 ·rintro ⟨i, hi, rfl⟩; have := List.mem_range.1 hi; omega
 ·intro h; exact ⟨x.toNat, List.mem_range.2 (by omega), by omega⟩
end
section
variable {α : Type} (key : α → Int)
variable {α : Type} (key : α → Int)
variable {α : Type} (key : α → Int)
variable {key}
variable {α : Type} (key : α → Int)
variable {key}
variable {α : Type} (key : α → Int)
variable {key}
variable {α : Type} (key : α → Int)
variable {key}
variable {α : Type} (key : α → Int)
variable {key}
variable {α : Type} (key : α → Int)
variable {key}
variable {α : Type} (key : α → Int)
variable {key}
variable {α : Type}
variable {α : Type} (key : α → Int)
variable {key}
variable {α : Type}
variable {α : Type} (key : α → Int)
variable {key}
variable {α : Type}
variable {β : Type} {Q : β → Prop} {K : List ElS → Option β} {m A B C : List ElS} {u v : ElS} {a b : Int}
variable {α : Type} (key : α → Int)
variable {key}
variable {α : Type}
variable {β : Type} {Q : β → Prop} {K : List ElS → Option β} {m A B C : List ElS} {u v : ElS} {a b : Int}
variable {α : Type} (key : α → Int)
variable {key}
variable {α : Type}
variable {β : Type} {Q : β → Prop} {K : List ElS → Option β} {m A B C : List ElS} {u v : ElS} {a b : Int}
variable {α : Type} (key : α → Int)
variable {key}
variable {α : Type}
variable {β : Type} {Q : β → Prop} {K : List ElS → Option β} {m A B C : List ElS} {u v : ElS} {a b : Int}
variable {α : Type} (key : α → Int)
variable {key}
variable {α : Type}
variable {β : Type} {Q : β → Prop} {K : List ElS → Option β} {m A B C : List ElS} {u v : ElS} {a b : Int}
variable {α : Type} (key : α → Int)
variable {key}
variable {α : Type}
variable {β : Type} {Q : β → Prop} {K : List ElS → Option β} {m A B C : List ElS} {u v : ElS} {a b : Int}
theorem rng_ascS (n : Nat) : (rngS n).Pairwise (· < ·) := by
 unfold rngS
 rw [List.pairwise_map]
 exact List.pairwise_lt_range.imp fun h => by omega
end
section
variable {α : Type} (key : α → Int)
variable {α : Type} (key : α → Int)
variable {α : Type} (key : α → Int)
variable {key}
variable {α : Type} (key : α → Int)
variable {key}
variable {α : Type} (key : α → Int)
variable {key}
variable {α : Type} (key : α → Int)
variable {key}
variable {α : Type} (key : α → Int)
variable {key}
variable {α : Type} (key : α → Int)
variable {key}
variable {α : Type} (key : α → Int)
variable {key}
variable {α : Type}
variable {α : Type} (key : α → Int)
variable {key}
variable {α : Type}
variable {α : Type} (key : α → Int)
variable {key}
variable {α : Type}
variable {β : Type} {Q : β → Prop} {K : List ElS → Option β} {m A B C : List ElS} {u v : ElS} {a b : Int}
variable {α : Type} (key : α → Int)
variable {key}
variable {α : Type}
variable {β : Type} {Q : β → Prop} {K : List ElS → Option β} {m A B C : List ElS} {u v : ElS} {a b : Int}
variable {α : Type} (key : α → Int)
variable {key}
variable {α : Type}
variable {β : Type} {Q : β → Prop} {K : List ElS → Option β} {m A B C : List ElS} {u v : ElS} {a b : Int}
variable {α : Type} (key : α → Int)
variable {key}
variable {α : Type}
variable {β : Type} {Q : β → Prop} {K : List ElS → Option β} {m A B C : List ElS} {u v : ElS} {a b : Int}
variable {α : Type} (key : α → Int)
variable {key}
variable {α : Type}
variable {β : Type} {Q : β → Prop} {K : List ElS → Option β} {m A B C : List ElS} {u v : ElS} {a b : Int}
variable {α : Type} (key : α → Int)
variable {key}
variable {α : Type}
variable {β : Type} {Q : β → Prop} {K : List ElS → Option β} {m A B C : List ElS} {u v : ElS} {a b : Int}
theorem rng_getS {n i : Nat} (h : i < (rngS n).length) : (rngS n)[i] = (i : Int) := by simp [rngS]
end
section
variable {α : Type} (key : α → Int)
variable {α : Type} (key : α → Int)
variable {α : Type} (key : α → Int)
variable {key}
variable {α : Type} (key : α → Int)
variable {key}
variable {α : Type} (key : α → Int)
variable {key}
variable {α : Type} (key : α → Int)
variable {key}
variable {α : Type} (key : α → Int)
variable {key}
variable {α : Type} (key : α → Int)
variable {key}
variable {α : Type} (key : α → Int)
variable {key}
variable {α : Type}
variable {α : Type} (key : α → Int)
variable {key}
variable {α : Type}
variable {α : Type} (key : α → Int)
variable {key}
variable {α : Type}
variable {β : Type} {Q : β → Prop} {K : List ElS → Option β} {m A B C : List ElS} {u v : ElS} {a b : Int}
variable {α : Type} (key : α → Int)
variable {key}
variable {α : Type}
variable {β : Type} {Q : β → Prop} {K : List ElS → Option β} {m A B C : List ElS} {u v : ElS} {a b : Int}
variable {α : Type} (key : α → Int)
variable {key}
variable {α : Type}
variable {β : Type} {Q : β → Prop} {K : List ElS → Option β} {m A B C : List ElS} {u v : ElS} {a b : Int}
variable {α : Type} (key : α → Int)
variable {key}
variable {α : Type}
variable {β : Type} {Q : β → Prop} {K : List ElS → Option β} {m A B C : List ElS} {u v : ElS} {a b : Int}
variable {α : Type} (key : α → Int)
variable {key}
variable {α : Type}
variable {β : Type} {Q : β → Prop} {K : List ElS → Option β} {m A B C : List ElS} {u v : ElS} {a b : Int}
variable {α : Type} (key : α → Int)
variable {key}
variable {α : Type}
variable {β : Type} {Q : β → Prop} {K : List ElS → Option β} {m A B C : List ElS} {u v : ElS} {a b : Int}
variable {key : Int → Int} {n : Nat} {o : List Int}
def precS (key : Int → Int) (j i : Int) : Prop := key j < key i ∨ key j = key i ∧ j < i
end
section
variable {α : Type} (key : α → Int)
variable {α : Type} (key : α → Int)
variable {α : Type} (key : α → Int)
variable {key}
variable {α : Type} (key : α → Int)
variable {key}
variable {α : Type} (key : α → Int)
variable {key}
variable {α : Type} (key : α → Int)
variable {key}
variable {α : Type} (key : α → Int)
variable {key}
variable {α : Type} (key : α → Int)
variable {key}
variable {α : Type} (key : α → Int)
variable {key}
variable {α : Type}
variable {α : Type} (key : α → Int)
variable {key}
variable {α : Type}
variable {α : Type} (key : α → Int)
variable {key}
variable {α : Type}
variable {β : Type} {Q : β → Prop} {K : List ElS → Option β} {m A B C : List ElS} {u v : ElS} {a b : Int}
variable {α : Type} (key : α → Int)
variable {key}
variable {α : Type}
variable {β : Type} {Q : β → Prop} {K : List ElS → Option β} {m A B C : List ElS} {u v : ElS} {a b : Int}
variable {α : Type} (key : α → Int)
variable {key}
variable {α : Type}
variable {β : Type} {Q : β → Prop} {K : List ElS → Option β} {m A B C : List ElS} {u v : ElS} {a b : Int}
variable {α : Type} (key : α → Int)
variable {key}
variable {α : Type}
variable {β : Type} {Q : β → Prop} {K : List ElS → Option β} {m A B C : List ElS} {u v : ElS} {a b : Int}
variable {α : Type} (key : α → Int)
variable {key}
variable {α : Type}
variable {β : Type} {Q : β → Prop} {K : List ElS → Option β} {m A B C : List ElS} {u v : ElS} {a b : Int}
variable {α : Type} (key : α → Int)
variable {key}
variable {α : Type}
variable {β : Type} {Q : β → Prop} {K : List ElS → Option β} {m A B C : List ElS} {u v : ElS} {a b : Int}
variable {key : Int → Int} {n : Nat} {o : List Int}
variable {key : Int → Int} {n : Nat} {o : List Int}
noncomputable def rankS (key : Int → Int) (n : Nat) (i : Int) : Nat := (rngS n).countP fun j => decide (precS key j i)
end
section
variable {α : Type} (key : α → Int)
variable {α : Type} (key : α → Int)
variable {α : Type} (key : α → Int)
variable {key}
variable {α : Type} (key : α → Int)
variable {key}
variable {α : Type} (key : α → Int)
variable {key}
variable {α : Type} (key : α → Int)
variable {key}
variable {α : Type} (key : α → Int)
variable {key}
variable {α : Type} (key : α → Int)
variable {key}
variable {α : Type} (key : α → Int)
variable {key}
variable {α : Type}
variable {α : Type} (key : α → Int)
variable {key}
variable {α : Type}
variable {α : Type} (key : α → Int)
variable {key}
variable {α : Type}
variable {β : Type} {Q : β → Prop} {K : List ElS → Option β} {m A B C : List ElS} {u v : ElS} {a b : Int}
variable {α : Type} (key : α → Int)
variable {key}
variable {α : Type}
variable {β : Type} {Q : β → Prop} {K : List ElS → Option β} {m A B C : List ElS} {u v : ElS} {a b : Int}
variable {α : Type} (key : α → Int)
variable {key}
variable {α : Type}
variable {β : Type} {Q : β → Prop} {K : List ElS → Option β} {m A B C : List ElS} {u v : ElS} {a b : Int}
variable {α : Type} (key : α → Int)
variable {key}
variable {α : Type}
variable {β : Type} {Q : β → Prop} {K : List ElS → Option β} {m A B C : List ElS} {u v : ElS} {a b : Int}
variable {α : Type} (key : α → Int)
variable {key}
variable {α : Type}
variable {β : Type} {Q : β → Prop} {K : List ElS → Option β} {m A B C : List ElS} {u v : ElS} {a b : Int}
variable {α : Type} (key : α → Int)
variable {key}
variable {α : Type}
variable {β : Type} {Q : β → Prop} {K : List ElS → Option β} {m A B C : List ElS} {u v : ElS} {a b : Int}
variable {key : Int → Int} {n : Nat} {o : List Int}
variable {key : Int → Int} {n : Nat} {o : List Int}
variable {key : Int → Int} {n : Nat} {o : List Int}
theorem ord_permS (h : StabS key (rngS n) o) : (rngS n).Perm o := by
 rw [List.perm_iff_count]
 intro a
 have h1 := congrArg (List.count a) (h (key a))
 rwa [List.count_filter (by simp), List.count_filter (by simp)] at h1
end
section
variable {α : Type} (key : α → Int)
variable {α : Type} (key : α → Int)
variable {α : Type} (key : α → Int)
variable {key}
variable {α : Type} (key : α → Int)
variable {key}
variable {α : Type} (key : α → Int)
variable {key}
variable {α : Type} (key : α → Int)
variable {key}
variable {α : Type} (key : α → Int)
variable {key}
variable {α : Type} (key : α → Int)
variable {key}
variable {α : Type} (key : α → Int)
variable {key}
variable {α : Type}
variable {α : Type} (key : α → Int)
variable {key}
variable {α : Type}
variable {α : Type} (key : α → Int)
variable {key}
variable {α : Type}
variable {β : Type} {Q : β → Prop} {K : List ElS → Option β} {m A B C : List ElS} {u v : ElS} {a b : Int}
variable {α : Type} (key : α → Int)
variable {key}
variable {α : Type}
variable {β : Type} {Q : β → Prop} {K : List ElS → Option β} {m A B C : List ElS} {u v : ElS} {a b : Int}
variable {α : Type} (key : α → Int)
variable {key}
variable {α : Type}
variable {β : Type} {Q : β → Prop} {K : List ElS → Option β} {m A B C : List ElS} {u v : ElS} {a b : Int}
variable {α : Type} (key : α → Int)
variable {key}
variable {α : Type}
variable {β : Type} {Q : β → Prop} {K : List ElS → Option β} {m A B C : List ElS} {u v : ElS} {a b : Int}
variable {α : Type} (key : α → Int)
variable {key}
variable {α : Type}
variable {β : Type} {Q : β → Prop} {K : List ElS → Option β} {m A B C : List ElS} {u v : ElS} {a b : Int}
variable {α : Type} (key : α → Int)
variable {key}
variable {α : Type}
variable {β : Type} {Q : β → Prop} {K : List ElS → Option β} {m A B C : List ElS} {u v : ElS} {a b : Int}
variable {key : Int → Int} {n : Nat} {o : List Int}
variable {key : Int → Int} {n : Nat} {o : List Int}
variable {key : Int → Int} {n : Nat} {o : List Int}
variable {key : Int → Int} {n : Nat} {o : List Int}
theorem ord_precS (h : StabS key (rngS n) o) (hs : SrtS key o) : o.Pairwise (precS key) := by
 rw [List.pairwise_iff_forall_sublist]
 intro a b hab
 have h1 : key a ≤ key b := by
  have := List.pairwise_iff_forall_sublist.1 hs hab
  exact this
 rcases Int.lt_or_eq_of_le h1 with h2 | h2
 ·exact .inl h2
 ·refine .inr ⟨h2, ?_⟩
  have h3 := hab.filter (fun x => key x == key a)
  rw [← h (key a)] at h3
  have h4 : [a, b].filter (fun x => key x == key a) = [a, b] := by simp [h2]
  rw [h4] at h3
  exact List.pairwise_iff_forall_sublist.1 (rng_ascS n) (h3.trans List.filter_sublist)
end
section
variable {α : Type} (key : α → Int)
variable {α : Type} (key : α → Int)
variable {α : Type} (key : α → Int)
variable {key}
variable {α : Type} (key : α → Int)
variable {key}
variable {α : Type} (key : α → Int)
variable {key}
variable {α : Type} (key : α → Int)
variable {key}
variable {α : Type} (key : α → Int)
variable {key}
variable {α : Type} (key : α → Int)
variable {key}
variable {α : Type} (key : α → Int)
variable {key}
variable {α : Type}
variable {α : Type} (key : α → Int)
variable {key}
variable {α : Type}
variable {α : Type} (key : α → Int)
variable {key}
variable {α : Type}
variable {β : Type} {Q : β → Prop} {K : List ElS → Option β} {m A B C : List ElS} {u v : ElS} {a b : Int}
variable {α : Type} (key : α → Int)
variable {key}
variable {α : Type}
variable {β : Type} {Q : β → Prop} {K : List ElS → Option β} {m A B C : List ElS} {u v : ElS} {a b : Int}
variable {α : Type} (key : α → Int)
variable {key}
variable {α : Type}
variable {β : Type} {Q : β → Prop} {K : List ElS → Option β} {m A B C : List ElS} {u v : ElS} {a b : Int}
variable {α : Type} (key : α → Int)
variable {key}
variable {α : Type}
variable {β : Type} {Q : β → Prop} {K : List ElS → Option β} {m A B C : List ElS} {u v : ElS} {a b : Int}
variable {α : Type} (key : α → Int)
variable {key}
variable {α : Type}
variable {β : Type} {Q : β → Prop} {K : List ElS → Option β} {m A B C : List ElS} {u v : ElS} {a b : Int}
variable {α : Type} (key : α → Int)
variable {key}
variable {α : Type}
variable {β : Type} {Q : β → Prop} {K : List ElS → Option β} {m A B C : List ElS} {u v : ElS} {a b : Int}
variable {key : Int → Int} {n : Nat} {o : List Int}
variable {key : Int → Int} {n : Nat} {o : List Int}
variable {key : Int → Int} {n : Nat} {o : List Int}
variable {key : Int → Int} {n : Nat} {o : List Int}
variable {key : Int → Int} {n : Nat} {o : List Int}
theorem prec_irrS (i : Int) : ¬ precS key i i := fun h => by rcases h with h | h <;> omega
end
section
variable {α : Type} (key : α → Int)
variable {α : Type} (key : α → Int)
variable {α : Type} (key : α → Int)
variable {key}
variable {α : Type} (key : α → Int)
variable {key}
variable {α : Type} (key : α → Int)
variable {key}
variable {α : Type} (key : α → Int)
variable {key}
variable {α : Type} (key : α → Int)
variable {key}
variable {α : Type} (key : α → Int)
variable {key}
variable {α : Type} (key : α → Int)
variable {key}
variable {α : Type}
variable {α : Type} (key : α → Int)
variable {key}
variable {α : Type}
variable {α : Type} (key : α → Int)
variable {key}
variable {α : Type}
variable {β : Type} {Q : β → Prop} {K : List ElS → Option β} {m A B C : List ElS} {u v : ElS} {a b : Int}
variable {α : Type} (key : α → Int)
variable {key}
variable {α : Type}
variable {β : Type} {Q : β → Prop} {K : List ElS → Option β} {m A B C : List ElS} {u v : ElS} {a b : Int}
variable {α : Type} (key : α → Int)
variable {key}
variable {α : Type}
variable {β : Type} {Q : β → Prop} {K : List ElS → Option β} {m A B C : List ElS} {u v : ElS} {a b : Int}
variable {α : Type} (key : α → Int)
variable {key}
variable {α : Type}
variable {β : Type} {Q : β → Prop} {K : List ElS → Option β} {m A B C : List ElS} {u v : ElS} {a b : Int}
variable {α : Type} (key : α → Int)
variable {key}
variable {α : Type}
variable {β : Type} {Q : β → Prop} {K : List ElS → Option β} {m A B C : List ElS} {u v : ElS} {a b : Int}
variable {α : Type} (key : α → Int)
variable {key}
variable {α : Type}
variable {β : Type} {Q : β → Prop} {K : List ElS → Option β} {m A B C : List ElS} {u v : ElS} {a b : Int}
variable {key : Int → Int} {n : Nat} {o : List Int}
variable {key : Int → Int} {n : Nat} {o : List Int}
variable {key : Int → Int} {n : Nat} {o : List Int}
variable {key : Int → Int} {n : Nat} {o : List Int}
variable {key : Int → Int} {n : Nat} {o : List Int}
variable {key : Int → Int} {n : Nat} {o : List Int}
theorem prec_asymS {i j : Int} (h : precS key i j) : ¬ precS key j i := fun k => by rcases h with h | h <;> rcases k with k | k <;> omega
end
section
variable {α : Type} (key : α → Int)
variable {α : Type} (key : α → Int)
variable {α : Type} (key : α → Int)
variable {key}
variable {α : Type} (key : α → Int)
variable {key}
variable {α : Type} (key : α → Int)
variable {key}
variable {α : Type} (key : α → Int)
variable {key}
variable {α : Type} (key : α → Int)
variable {key}
variable {α : Type} (key : α → Int)
variable {key}
variable {α : Type} (key : α → Int)
variable {key}
variable {α : Type}
variable {α : Type} (key : α → Int)
variable {key}
variable {α : Type}
variable {α : Type} (key : α → Int)
variable {key}
variable {α : Type}
variable {β : Type} {Q : β → Prop} {K : List ElS → Option β} {m A B C : List ElS} {u v : ElS} {a b : Int}
variable {α : Type} (key : α → Int)
variable {key}
variable {α : Type}
variable {β : Type} {Q : β → Prop} {K : List ElS → Option β} {m A B C : List ElS} {u v : ElS} {a b : Int}
variable {α : Type} (key : α → Int)
variable {key}
variable {α : Type}
variable {β : Type} {Q : β → Prop} {K : List ElS → Option β} {m A B C : List ElS} {u v : ElS} {a b : Int}
variable {α : Type} (key : α → Int)
variable {key}
variable {α : Type}
variable {β : Type} {Q : β → Prop} {K : List ElS → Option β} {m A B C : List ElS} {u v : ElS} {a b : Int}
variable {α : Type} (key : α → Int)
variable {key}
variable {α : Type}
variable {β : Type} {Q : β → Prop} {K : List ElS → Option β} {m A B C : List ElS} {u v : ElS} {a b : Int}
variable {α : Type} (key : α → Int)
variable {key}
variable {α : Type}
variable {β : Type} {Q : β → Prop} {K : List ElS → Option β} {m A B C : List ElS} {u v : ElS} {a b : Int}
variable {key : Int → Int} {n : Nat} {o : List Int}
variable {key : Int → Int} {n : Nat} {o : List Int}
variable {key : Int → Int} {n : Nat} {o : List Int}
variable {key : Int → Int} {n : Nat} {o : List Int}
variable {key : Int → Int} {n : Nat} {o : List Int}
variable {key : Int → Int} {n : Nat} {o : List Int}
variable {key : Int → Int} {n : Nat} {o : List Int}
theorem ord_rankS (h : StabS key (rngS n) o) (hs : SrtS key o) {A B : List Int} {i : Int} (ho : o = A ++ i :: B) : rankS key n i = A.length := by
 unfold rankS
 rw [(ord_permS h).countP_eq]
 have hp := ord_precS h hs
 rw [ho] at hp ⊢
 obtain ⟨_, h2, h3⟩ := List.pairwise_append.1 hp
 obtain ⟨h4, _⟩ := List.pairwise_cons.1 h2
 rw [List.countP_append, List.countP_cons]
 have e1 : A.countP (fun j => decide (precS key j i)) = A.length := List.countP_eq_length.2 fun a ha => by simpa using h3 a ha i (by simp)
 have e2 : B.countP (fun j => decide (precS key j i)) = 0 := List.countP_eq_zero.2 fun b hb => by simpa using prec_asymS (h4 b hb)
 rw [e1, e2]
 simp [prec_irrS i]
end
section
variable {α : Type} (key : α → Int)
variable {α : Type} (key : α → Int)
variable {α : Type} (key : α → Int)
variable {key}
variable {α : Type} (key : α → Int)
variable {key}
variable {α : Type} (key : α → Int)
variable {key}
variable {α : Type} (key : α → Int)
variable {key}
variable {α : Type} (key : α → Int)
variable {key}
variable {α : Type} (key : α → Int)
variable {key}
variable {α : Type} (key : α → Int)
variable {key}
variable {α : Type}
variable {α : Type} (key : α → Int)
variable {key}
variable {α : Type}
variable {α : Type} (key : α → Int)
variable {key}
variable {α : Type}
variable {β : Type} {Q : β → Prop} {K : List ElS → Option β} {m A B C : List ElS} {u v : ElS} {a b : Int}
variable {α : Type} (key : α → Int)
variable {key}
variable {α : Type}
variable {β : Type} {Q : β → Prop} {K : List ElS → Option β} {m A B C : List ElS} {u v : ElS} {a b : Int}
variable {α : Type} (key : α → Int)
variable {key}
variable {α : Type}
variable {β : Type} {Q : β → Prop} {K : List ElS → Option β} {m A B C : List ElS} {u v : ElS} {a b : Int}
variable {α : Type} (key : α → Int)
variable {key}
variable {α : Type}
variable {β : Type} {Q : β → Prop} {K : List ElS → Option β} {m A B C : List ElS} {u v : ElS} {a b : Int}
variable {α : Type} (key : α → Int)
variable {key}
variable {α : Type}
variable {β : Type} {Q : β → Prop} {K : List ElS → Option β} {m A B C : List ElS} {u v : ElS} {a b : Int}
variable {α : Type} (key : α → Int)
variable {key}
variable {α : Type}
variable {β : Type} {Q : β → Prop} {K : List ElS → Option β} {m A B C : List ElS} {u v : ElS} {a b : Int}
variable {key : Int → Int} {n : Nat} {o : List Int}
variable {key : Int → Int} {n : Nat} {o : List Int}
variable {key : Int → Int} {n : Nat} {o : List Int}
variable {key : Int → Int} {n : Nat} {o : List Int}
variable {key : Int → Int} {n : Nat} {o : List Int}
variable {key : Int → Int} {n : Nat} {o : List Int}
variable {key : Int → Int} {n : Nat} {o : List Int}
variable {key : Int → Int} {n : Nat} {o : List Int}
theorem ord_nodupS (h : StabS key (rngS n) o) : o.Nodup := by
 have : (rngS n).Nodup := (rng_ascS n).imp fun h => by omega
 exact (ord_permS h).nodup_iff.1 this
end
section
variable {α : Type} (key : α → Int)
variable {α : Type} (key : α → Int)
variable {α : Type} (key : α → Int)
variable {key}
variable {α : Type} (key : α → Int)
variable {key}
variable {α : Type} (key : α → Int)
variable {key}
variable {α : Type} (key : α → Int)
variable {key}
variable {α : Type} (key : α → Int)
variable {key}
variable {α : Type} (key : α → Int)
variable {key}
variable {α : Type} (key : α → Int)
variable {key}
variable {α : Type}
variable {α : Type} (key : α → Int)
variable {key}
variable {α : Type}
variable {α : Type} (key : α → Int)
variable {key}
variable {α : Type}
variable {β : Type} {Q : β → Prop} {K : List ElS → Option β} {m A B C : List ElS} {u v : ElS} {a b : Int}
variable {α : Type} (key : α → Int)
variable {key}
variable {α : Type}
variable {β : Type} {Q : β → Prop} {K : List ElS → Option β} {m A B C : List ElS} {u v : ElS} {a b : Int}
variable {α : Type} (key : α → Int)
variable {key}
variable {α : Type}
variable {β : Type} {Q : β → Prop} {K : List ElS → Option β} {m A B C : List ElS} {u v : ElS} {a b : Int}
variable {α : Type} (key : α → Int)
variable {key}
variable {α : Type}
variable {β : Type} {Q : β → Prop} {K : List ElS → Option β} {m A B C : List ElS} {u v : ElS} {a b : Int}
variable {α : Type} (key : α → Int)
variable {key}
variable {α : Type}
variable {β : Type} {Q : β → Prop} {K : List ElS → Option β} {m A B C : List ElS} {u v : ElS} {a b : Int}
variable {α : Type} (key : α → Int)
variable {key}
variable {α : Type}
variable {β : Type} {Q : β → Prop} {K : List ElS → Option β} {m A B C : List ElS} {u v : ElS} {a b : Int}
variable {key : Int → Int} {n : Nat} {o : List Int}
variable {key : Int → Int} {n : Nat} {o : List Int}
variable {key : Int → Int} {n : Nat} {o : List Int}
variable {key : Int → Int} {n : Nat} {o : List Int}
variable {key : Int → Int} {n : Nat} {o : List Int}
variable {key : Int → Int} {n : Nat} {o : List Int}
variable {key : Int → Int} {n : Nat} {o : List Int}
variable {key : Int → Int} {n : Nat} {o : List Int}
variable {key : Int → Int} {n : Nat} {o : List Int}
theorem ord_takeS (h : StabS key (rngS n) o) (hs : SrtS key o) {i : Int} (hi : 0 ≤ i ∧ i < (n : Int)) (k : Nat) : (o.take k).count i = if rankS key n i < k then 1 else 0 := by
 have hm : i ∈ o := (ord_permS h).mem_iff.1 (mem_rngS.2 hi)
 obtain ⟨A, B, ho⟩ := List.append_of_mem hm
 rw [ord_rankS h hs ho]
 have hn := ord_nodupS h
 rw [ho] at hn ⊢
 obtain ⟨_, h2, h3⟩ := List.nodup_append.1 hn
 have hA : i ∉ A := fun ha => h3 i ha i (by simp) rfl
 have hB : i ∉ B := (List.nodup_cons.1 h2).1
 by_cases hk : A.length < k
 ·rw [if_pos hk, List.take_append, List.take_of_length_le (by omega)]
  obtain ⟨m, hm⟩ : ∃ m, k - A.length = m + 1 := ⟨k - A.length - 1, by omega⟩
  rw [hm, List.take_succ_cons, List.count_append, List.count_cons_self, List.count_eq_zero.2 hA, List.count_eq_zero.2 fun hb => hB (List.mem_of_mem_take hb)]
 ·rw [if_neg hk, List.take_append_of_le_length (by omega)]
  exact List.count_eq_zero.2 fun ha => hA (List.mem_of_mem_take ha)
end
section
variable {α : Type} (key : α → Int)
variable {α : Type} (key : α → Int)
variable {α : Type} (key : α → Int)
variable {key}
variable {α : Type} (key : α → Int)
variable {key}
variable {α : Type} (key : α → Int)
variable {key}
variable {α : Type} (key : α → Int)
variable {key}
variable {α : Type} (key : α → Int)
variable {key}
variable {α : Type} (key : α → Int)
variable {key}
variable {α : Type} (key : α → Int)
variable {key}
variable {α : Type}
variable {α : Type} (key : α → Int)
variable {key}
variable {α : Type}
variable {α : Type} (key : α → Int)
variable {key}
variable {α : Type}
variable {β : Type} {Q : β → Prop} {K : List ElS → Option β} {m A B C : List ElS} {u v : ElS} {a b : Int}
variable {α : Type} (key : α → Int)
variable {key}
variable {α : Type}
variable {β : Type} {Q : β → Prop} {K : List ElS → Option β} {m A B C : List ElS} {u v : ElS} {a b : Int}
variable {α : Type} (key : α → Int)
variable {key}
variable {α : Type}
variable {β : Type} {Q : β → Prop} {K : List ElS → Option β} {m A B C : List ElS} {u v : ElS} {a b : Int}
variable {α : Type} (key : α → Int)
variable {key}
variable {α : Type}
variable {β : Type} {Q : β → Prop} {K : List ElS → Option β} {m A B C : List ElS} {u v : ElS} {a b : Int}
variable {α : Type} (key : α → Int)
variable {key}
variable {α : Type}
variable {β : Type} {Q : β → Prop} {K : List ElS → Option β} {m A B C : List ElS} {u v : ElS} {a b : Int}
variable {α : Type} (key : α → Int)
variable {key}
variable {α : Type}
variable {β : Type} {Q : β → Prop} {K : List ElS → Option β} {m A B C : List ElS} {u v : ElS} {a b : Int}
variable {key : Int → Int} {n : Nat} {o : List Int}
variable {key : Int → Int} {n : Nat} {o : List Int}
variable {key : Int → Int} {n : Nat} {o : List Int}
variable {key : Int → Int} {n : Nat} {o : List Int}
variable {key : Int → Int} {n : Nat} {o : List Int}
variable {key : Int → Int} {n : Nat} {o : List Int}
variable {key : Int → Int} {n : Nat} {o : List Int}
variable {key : Int → Int} {n : Nat} {o : List Int}
variable {key : Int → Int} {n : Nat} {o : List Int}
variable {key : Int → Int} {n : Nat} {o : List Int}
def quoSS (m : Int) (ps : List Int) (i : Int) : Int := m * ps.getD i.toNat 0 / ps.sum
end
section
variable {α : Type} (key : α → Int)
variable {α : Type} (key : α → Int)
variable {α : Type} (key : α → Int)
variable {key}
variable {α : Type} (key : α → Int)
variable {key}
variable {α : Type} (key : α → Int)
variable {key}
variable {α : Type} (key : α → Int)
variable {key}
variable {α : Type} (key : α → Int)
variable {key}
variable {α : Type} (key : α → Int)
variable {key}
variable {α : Type} (key : α → Int)
variable {key}
variable {α : Type}
variable {α : Type} (key : α → Int)
variable {key}
variable {α : Type}
variable {α : Type} (key : α → Int)
variable {key}
variable {α : Type}
variable {β : Type} {Q : β → Prop} {K : List ElS → Option β} {m A B C : List ElS} {u v : ElS} {a b : Int}
variable {α : Type} (key : α → Int)
variable {key}
variable {α : Type}
variable {β : Type} {Q : β → Prop} {K : List ElS → Option β} {m A B C : List ElS} {u v : ElS} {a b : Int}
variable {α : Type} (key : α → Int)
variable {key}
variable {α : Type}
variable {β : Type} {Q : β → Prop} {K : List ElS → Option β} {m A B C : List ElS} {u v : ElS} {a b : Int}
variable {α : Type} (key : α → Int)
variable {key}
variable {α : Type}
variable {β : Type} {Q : β → Prop} {K : List ElS → Option β} {m A B C : List ElS} {u v : ElS} {a b : Int}
variable {α : Type} (key : α → Int)
variable {key}
variable {α : Type}
variable {β : Type} {Q : β → Prop} {K : List ElS → Option β} {m A B C : List ElS} {u v : ElS} {a b : Int}
variable {α : Type} (key : α → Int)
variable {key}
variable {α : Type}
variable {β : Type} {Q : β → Prop} {K : List ElS → Option β} {m A B C : List ElS} {u v : ElS} {a b : Int}
variable {key : Int → Int} {n : Nat} {o : List Int}
variable {key : Int → Int} {n : Nat} {o : List Int}
variable {key : Int → Int} {n : Nat} {o : List Int}
variable {key : Int → Int} {n : Nat} {o : List Int}
variable {key : Int → Int} {n : Nat} {o : List Int}
variable {key : Int → Int} {n : Nat} {o : List Int}
variable {key : Int → Int} {n : Nat} {o : List Int}
variable {key : Int → Int} {n : Nat} {o : List Int}
variable {key : Int → Int} {n : Nat} {o : List Int}
variable {key : Int → Int} {n : Nat} {o : List Int}
variable {key : Int → Int} {n : Nat} {o : List Int}
def remSS (m : Int) (ps : List Int) (i : Int) : Int := m * ps.getD i.toNat 0 % ps.sum
end
section
variable {α : Type} (key : α → Int)
variable {α : Type} (key : α → Int)
variable {α : Type} (key : α → Int)
variable {key}
variable {α : Type} (key : α → Int)
variable {key}
variable {α : Type} (key : α → Int)
variable {key}
variable {α : Type} (key : α → Int)
variable {key}
variable {α : Type} (key : α → Int)
variable {key}
variable {α : Type} (key : α → Int)
variable {key}
variable {α : Type} (key : α → Int)
variable {key}
variable {α : Type}
variable {α : Type} (key : α → Int)
variable {key}
variable {α : Type}
variable {α : Type} (key : α → Int)
variable {key}
variable {α : Type}
variable {β : Type} {Q : β → Prop} {K : List ElS → Option β} {m A B C : List ElS} {u v : ElS} {a b : Int}
variable {α : Type} (key : α → Int)
variable {key}
variable {α : Type}
variable {β : Type} {Q : β → Prop} {K : List ElS → Option β} {m A B C : List ElS} {u v : ElS} {a b : Int}
variable {α : Type} (key : α → Int)
variable {key}
variable {α : Type}
variable {β : Type} {Q : β → Prop} {K : List ElS → Option β} {m A B C : List ElS} {u v : ElS} {a b : Int}
variable {α : Type} (key : α → Int)
variable {key}
variable {α : Type}
variable {β : Type} {Q : β → Prop} {K : List ElS → Option β} {m A B C : List ElS} {u v : ElS} {a b : Int}
variable {α : Type} (key : α → Int)
variable {key}
variable {α : Type}
variable {β : Type} {Q : β → Prop} {K : List ElS → Option β} {m A B C : List ElS} {u v : ElS} {a b : Int}
variable {α : Type} (key : α → Int)
variable {key}
variable {α : Type}
variable {β : Type} {Q : β → Prop} {K : List ElS → Option β} {m A B C : List ElS} {u v : ElS} {a b : Int}
variable {key : Int → Int} {n : Nat} {o : List Int}
variable {key : Int → Int} {n : Nat} {o : List Int}
variable {key : Int → Int} {n : Nat} {o : List Int}
variable {key : Int → Int} {n : Nat} {o : List Int}
variable {key : Int → Int} {n : Nat} {o : List Int}
variable {key : Int → Int} {n : Nat} {o : List Int}
variable {key : Int → Int} {n : Nat} {o : List Int}
variable {key : Int → Int} {n : Nat} {o : List Int}
variable {key : Int → Int} {n : Nat} {o : List Int}
variable {key : Int → Int} {n : Nat} {o : List Int}
variable {key : Int → Int} {n : Nat} {o : List Int}
variable {key : Int → Int} {n : Nat} {o : List Int}
def keySS (m : Int) (ps : List Int) (i : Int) : Int := - remSS m ps i
end
end Go.Proofs.YticdblhibbaojaaDoor
