/- Plain laws: a round with damages. -/
import Derived.Test.YtpiaipiehjcflaaLawC
set_option maxRecDepth 8000
namespace Go.Proofs.Ytpiaipiehjcflaa
open Go.RowKit

/-- The places of broken warps, as a map. -/
def Br (m : Nat) (br : List (Int × Bool)) (B : Nat → Bool) : Prop := (∀ q ∈ br, ∃ w : Nat, q.1 = (w : Int) ∧ w < m ∧ B w = true) ∧ ∀ w, B w = true → ∃ q ∈ br, q.1 = (w : Int)
theorem mset_mem {br : List (Int × Bool)} {k : Int} {v : Bool} {q : Int × Bool} (h : q ∈ mset br k v) : q = (k, v) ∨ q ∈ br := by
  induction br with
  | nil => simp [mset] at h; exact .inl h
  | cons p m ih =>
    unfold mset at h
    split at h
    · rcases List.mem_cons.1 h with rfl | h
      · exact .inl rfl
      · exact .inr (List.mem_cons_of_mem _ h)
    · rcases List.mem_cons.1 h with rfl | h
      · exact .inr List.mem_cons_self
      · rcases ih h with h | h
        · exact .inl h
        · exact .inr (List.mem_cons_of_mem _ h)
theorem mset_key {br : List (Int × Bool)} {k : Int} {v : Bool} : ∃ q ∈ mset br k v, q.1 = k := by
  induction br with
  | nil => exact ⟨(k, v), by simp [mset], rfl⟩
  | cons p m ih =>
    unfold mset
    split
    · exact ⟨(k, v), List.mem_cons_self, rfl⟩
    · obtain ⟨q, hq, e⟩ := ih; exact ⟨q, List.mem_cons_of_mem _ hq, e⟩
theorem mset_old {br : List (Int × Bool)} {k : Int} {v : Bool} {q : Int × Bool} (h : q ∈ br) : ∃ q' ∈ mset br k v, q'.1 = q.1 := by
  induction br with
  | nil => cases h
  | cons p m ih =>
    unfold mset
    split
    · rename_i hp
      rcases List.mem_cons.1 h with rfl | h
      · exact ⟨_, List.mem_cons_self, hp.symm⟩
      · exact ⟨q, List.mem_cons_of_mem _ h, rfl⟩
    · rcases List.mem_cons.1 h with rfl | h
      · exact ⟨_, List.mem_cons_self, rfl⟩
      · obtain ⟨q', hq', e⟩ := ih h; exact ⟨q', List.mem_cons_of_mem _ hq', e⟩
theorem mset_len (br : List (Int × Bool)) (k : Int) (v : Bool) : (mset br k v).length ≤ br.length + 1 := by
  induction br with
  | nil => simp [mset]
  | cons p m ih => unfold mset; split <;> simp <;> omega
/-- What a damage does to the points. -/
def actT (l : FaultLoom) (d : FaultDamage) (t : Nat → Nat → Bool) : Nat → Nat → Bool :=
  if d.Kind = 1 then act1 d.Pick.toNat d.Hook.toNat t else if d.Kind = 2 then act2 d.Hook.toNat d.Up t else if d.Kind = 3 then act3 l.Design.Hooks.toNat d.Pick.toNat t
  else if d.Kind = 4 then act4 d.Pick.toNat ((d.Pick.toNat + 1) % l.Design.Rows.length) t else t
def actB (d : FaultDamage) (B : Nat → Bool) : Nat → Bool := if d.Kind = 5 then fun w => decide (w = d.Warp.toNat) || B w else B
/-- What a valid damage is like. -/
theorem dmg_is {l : FaultLoom} {d : FaultDamage} (h : dmg l d = true) :
    (d.Kind = 1 ∧ (0 ≤ d.Pick ∧ d.Pick < l.Design.Rows.length) ∧ 0 ≤ d.Hook ∧ d.Hook < l.Design.Hooks) ∨ (d.Kind = 2 ∧ 0 ≤ d.Hook ∧ d.Hook < l.Design.Hooks) ∨
    ((d.Kind = 3 ∨ d.Kind = 4) ∧ 0 ≤ d.Pick ∧ d.Pick < l.Design.Rows.length) ∨ (d.Kind = 5 ∧ 0 ≤ d.Warp ∧ d.Warp < l.Harness.Warps.length) := by
  unfold dmg btw at h
  split at h
  · rename_i k; simp at h; exact .inl ⟨k, by omega, by omega⟩
  split at h
  · rename_i k; simp at h; exact .inr (.inl ⟨k, by omega⟩)
  split at h
  · rename_i k; simp at h; exact .inr (.inr (.inl ⟨k, by omega⟩))
  split at h
  · rename_i k; simp at h; exact .inr (.inr (.inr ⟨k, by omega⟩))
  · cases h
theorem sfchg {l : FaultLoom} (g : Good l) {d : FaultDamage} (hd : dmg l d = true) {rows : List Int} {br : List (Int × Bool)} {t : Nat → Nat → Bool} {B : Nat → Bool}
    (ht : Tb l.Design.Hooks.toNat l.Design.Rows.length rows t) (hb : Br l.Harness.Warps.length br B) :
    Yes (fchg d.Kind ⟨l⟩ d rows br) fun r => Tb l.Design.Hooks.toNat l.Design.Rows.length r.1 (actT l d t) ∧ Br l.Harness.Warps.length r.2 (actB d B) ∧ r.2.length ≤ br.length + 1 := by
  have h1 := g.h1
  have h24 := g.h24
  have r1 := g.r1
  have mp : ∀ {x : Option (List Int)} {Q : List Int → Prop}, Yes x Q → Yes (x.map fun r => (r, br)) fun r => Q r.1 ∧ r.2 = br := fun ⟨a, ha, hq⟩ => ⟨(a, br), by rw [ha]; rfl, hq, rfl⟩
  unfold fchg actT actB
  rcases dmg_is hd with ⟨k, hp, hh⟩ | ⟨k, hh⟩ | ⟨k | k, hp⟩ | ⟨k, hw⟩
  · simp only [k]
    exact (mp (s97 (by omega) ht ⟨l⟩ (p := d.Pick.toNat) (h := d.Hook.toNat) (by omega) (by omega) (by omega) (by omega))).mono fun r hr => ⟨hr.1, by rw [hr.2]; exact hb, by rw [hr.2]; omega⟩
  · simp only [k]
    exact (mp (s98 (by omega) ht (by omega) ⟨l⟩ (h := d.Hook.toNat) (by omega) (by omega))).mono fun r hr => ⟨hr.1, by rw [hr.2]; exact hb, by rw [hr.2]; omega⟩
  · simp only [k]
    exact (mp (s99 (by omega) ht l (by omega) (p := d.Pick.toNat) (by omega) (by omega))).mono fun r hr => ⟨hr.1, by rw [hr.2]; exact hb, by rw [hr.2]; omega⟩
  · simp only [k]
    exact (mp (s100 ht (by omega) ⟨l⟩ (p := d.Pick.toNat) (by omega) (by omega))).mono fun r hr => ⟨hr.1, by rw [hr.2]; exact hb, by rw [hr.2]; omega⟩
  · simp only [k]
    refine ⟨(rows, mset br d.Warp true), rfl, ht, ⟨fun q hq => ?_, fun w hw' => ?_⟩, mset_len _ _ _⟩
    · rcases mset_mem hq with rfl | hq
      · exact ⟨d.Warp.toNat, by simp only; omega, by omega, by simp⟩
      · obtain ⟨w, e, hlt, hB⟩ := hb.1 q hq
        exact ⟨w, e, hlt, by simp [hB]⟩
    · simp only [if_true, Bool.or_eq_true, decide_eq_true_eq] at hw'
      rcases hw' with rfl | hw'
      · obtain ⟨q, hq, e⟩ := mset_key (br := br) (k := d.Warp) (v := true)
        exact ⟨q, hq, by rw [e]; omega⟩
      · obtain ⟨q, hq, e⟩ := hb.2 w hw'
        obtain ⟨q', hq', e'⟩ := mset_old (k := d.Warp) (v := true) hq
        exact ⟨q', hq', e'.trans e⟩
end Go.Proofs.Ytpiaipiehjcflaa
