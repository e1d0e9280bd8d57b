/- What a reader of texts needs of package variables; the library's Cut, Split, LastIndexByte, Atoi as contracts. No program is named here. -/
import Derived.Test.YtmebkoemfjlbcaaGreatDoorIt
import Derived.Shelf.Strconv.AtoiAll
import Derived.Shelf.Strings.Cut
import Derived.Shelf.Strings.Split
import Derived.Shelf.Strings.LastIndex
namespace Go.Proofs.YtmebkoemfjlbcaaGreatDoor
open Go.RowKit
def Sv (b : Nat) (φ : Value → Prop) (m : Nat → Nat) (w : World) : Prop := b < w.heap.size ∧ 1 ≤ m b ∧ ∃ v, w.cell? ⟨b, 0, none⟩ = some v ∧ φ v
theorem Sv.ch {b : Nat} {φ : Value → Prop} {m m' : Nat → Nat} {w w' : World} (h : Sv b φ m w) (k : Ch m w m' w') : Sv b φ m' w' := by
 obtain ⟨h1, h2, v, h3, h4⟩ := h
 exact ⟨Nat.lt_of_lt_of_le h1 k.size, Nat.le_trans h2 (k.marks b h1), v, (k.cells b h1 0 h2).trans h3, h4⟩
def O0 (v : Value) : Prop := ∃ n, v = .int .i64 n
def Lw (v : Value) : Prop := v = .nilIface ∨ ∃ te pe, v = .iface te pe
structure Fa (bM bP bS bR : Nat) (m : Nat → Nat) (w : World) : Prop where
 tab : Uw bP m w
 max : Sv bM O0 m w
 syn : Sv bS Lw m w
 rng : Sv bR Lw m w
theorem Fa.ch {bM bP bS bR : Nat} {m m' : Nat → Nat} {w w' : World} (h : Fa bM bP bS bR m w) (k : Ch m w m' w') : Fa bM bP bS bR m' w' := ⟨h.tab.ch k, h.max.ch k, h.syn.ch k, h.rng.ch k⟩

/-! ### Uz forms -/
def Y1 (c : UInt8) : List UInt8 → Option (List UInt8 × List UInt8)
 | [] => none
 | b :: l => bif b == c then some ([], l) else (Y1 c l).map fun p => (b :: p.1, p.2)
def J5 (c : UInt8) : List UInt8 → List (List UInt8)
 | [] => [[]]
 | b :: l => bif b == c then [] :: J5 c l else match J5 c l with
  | [] => [[b]]
  | u :: us => (b :: u) :: us
theorem B3 (c b : UInt8) (l : List UInt8) : Y1 c (b :: l) = bif b == c then some ([], l) else (Y1 c l).map fun p => (b :: p.1, p.2) := rfl
theorem Ce (c b : UInt8) (l : List UInt8) : J5 c (b :: l) = bif b == c then [] :: J5 c l else match J5 c l with
  | [] => [[b]]
  | u :: us => (b :: u) :: us := rfl
theorem Xe (c : UInt8) : ∀ l, Lib.index l [c] = match Y1 c l with
  | none => -1
  | some p => (p.1.length : Int)
 | [] => rfl
 | b :: l => by
  unfold Lib.index
  have hp : ([c].isPrefixOf (b :: l)) = (c == b) := by simp [List.isPrefixOf]
  rw [hp, Xe c l, B3]
  by_cases hb : b = c
  ·subst hb; simp
  ·have h1 : (b == c) = false := by simpa using hb
   have h2 : (c == b) = false := by simpa using fun h => hb h.symm
   rw [h1, h2]
   cases hc : Y1 c l with
   | none => simp
   | some p =>
    simp only [cond_false, Option.map_some, List.length_cons, Bool.false_eq_true, if_false]
    have : ¬ ((p.1.length : Int) == -1) = true := by simp
    rw [if_neg this]; push_cast; rfl
theorem Uj {c : UInt8} : ∀ {l : List UInt8} {p : List UInt8 × List UInt8}, Y1 c l = some p → l = p.1 ++ c :: p.2 ∧ c ∉ p.1
 | [], p, h => by cases h
 | b :: l, p, h => by
  unfold Y1 at h
  by_cases hb : b = c
  ·subst hb; simp at h; subst h; simp
  ·have h1 : (b == c) = false := by simpa using hb
   rw [h1] at h
   simp only [cond_false] at h
   cases hc : Y1 c l with
   | none => rw [hc] at h; cases h
   | some q =>
    rw [hc] at h; injection h with h; subst h
    obtain ⟨h2, h3⟩ := Uj hc
    refine ⟨by rw [h2]; rfl, ?_⟩
    simp only [List.mem_cons, not_or]
    exact ⟨fun h => hb h.symm, h3⟩
theorem Bz {c : UInt8} : ∀ {l : List UInt8}, Y1 c l = none → c ∉ l
 | [], _ => by simp
 | b :: l, h => by
  unfold Y1 at h
  by_cases hb : b = c
  ·subst hb; simp at h
  ·have h1 : (b == c) = false := by simpa using hb
   rw [h1] at h
   simp only [cond_false, Option.map_eq_none_iff] at h
   simp only [List.mem_cons, not_or]
   exact ⟨fun h => hb h.symm, Bz h⟩
theorem Ny (c : UInt8) (l : List UInt8) : Lib.cut l [c] = match Y1 c l with
  | none => (l, [], false)
  | some p => (p.1, p.2, true) := by
 unfold Lib.cut
 rw [Xe]
 cases hc : Y1 c l with
 | none => simp
 | some p =>
  obtain ⟨h1, _⟩ := Uj hc
  simp only [Int.natCast_nonneg, if_true, Int.toNat_natCast, List.length_singleton]
  rw [h1]
  simp
theorem Vc (c : UInt8) : ∀ l, J5 c l = match Y1 c l with
  | none => [l]
  | some p => p.1 :: J5 c p.2
 | [] => rfl
 | b :: l => by
  rw [Ce, B3]
  by_cases hb : b = c
  ·subst hb; simp
  ·have h1 : (b == c) = false := by simpa using hb
   rw [h1, Vc c l]
   cases hc : Y1 c l with
   | none => simp
   | some p => simp
theorem Vf (c : UInt8) : ∀ (k : Nat) (l : List UInt8), l.count c = k → Lib.splitK [c] 0 k l = J5 c l
 | 0, l, h => by
  have hn : c ∉ l := by simpa using List.count_eq_zero.1 h
  rw [Vc]
  cases hc : Y1 c l with
  | none => rfl
  | some p => obtain ⟨h1, _⟩ := Uj hc; rw [h1] at hn; simp at hn
 | k + 1, l, h => by
  rw [Vc]
  unfold Lib.splitK
  rw [Xe]
  cases hc : Y1 c l with
  | none =>
   have := Bz hc
   rw [List.count_eq_zero_of_not_mem this] at h; cases h
  | some p =>
   obtain ⟨h1, h2⟩ := Uj hc
   have hk : p.2.count c = k := by
    rw [h1, List.count_append, List.count_eq_zero_of_not_mem h2, List.count_cons] at h
    simp at h; omega
   have hneg : ¬ ((p.1.length : Int) == -1) = true := by simp
   simp only [if_neg hneg, Int.toNat_natCast, Nat.add_zero, List.length_singleton]
   rw [show l.take p.1.length = p.1 by rw [h1]; simp, show l.drop (p.1.length + 1) = p.2 by rw [h1]; simp, Vf c k p.2 hk]
end Go.Proofs.YtmebkoemfjlbcaaGreatDoor
