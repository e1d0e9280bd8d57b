/- A run that begins too soon behind the one before it on its loom: the two programs agree. -/
import Derived.Test.YtnfjhdagbknlbaaLawI
set_option maxRecDepth 8000
namespace Go.Proofs.Ytnfjhdagbknlbaa
open Go.RowKit
open Classical

def freeR (m : LoomMill) (l : List LoomOrder) (x : LoomRun) (o : Int) : Int := if (od l x.Order).Chain = (od l o).Chain then endR l x else endR l x + m.Change
theorem end_bound {m : LoomMill} {l : List LoomOrder} (g : Good m l) {x : LoomRun} (hx : inR m l x) : 1 ≤ endR l x ∧ endR l x ≤ 400 := by
 obtain ⟨⟨a1, a2⟩, _, c1, c2⟩ := hx
 have ho := g.o _ (od_mem a1 a2)
 unfold endR; omega
theorem s69 {m : LoomMill} {l : List LoomOrder} (g : Good m l) {x : LoomRun} (hx : inR m l x) {o : Int} (h0 : 0 ≤ o) (h1 : o < l.length) : f69 ⟨m, l⟩ x o = some (freeR m l x o) := by
 have hb := end_bound g hx
 have hc := g.c
 unfold f69
 simp only [jn]
 rw [idx_od hx.1.1 hx.1.2, idx_od h0 h1, s73 g hx]
 simp only [Option.bind_some]
 unfold freeR
 rw [w64_id (by omega) (by omega)]
 by_cases h : (od l x.Order).Chain = (od l o).Chain
 ·simp [h]
 ·have : ((od l x.Order).Chain == (od l o).Chain) = false := by simp [h]
  simp [this, h]
theorem s77 {m : LoomMill} {l : List LoomOrder} (g : Good m l) {x y : LoomRun} (hx : inR m l x) (hy : inR m l y) : f77 m l x y = some (freeR m l x y.Order) := by
 have hb := end_bound g hx
 have hc := g.c
 unfold f77
 rw [idx_od hx.1.1 hx.1.2, idx_od hy.1.1 hy.1.2]
 simp only [Option.bind_some]
 have : w64 (x.From + (od l x.Order).Woven) = endR l x := w64_id (by have : endR l x = x.From + (od l x.Order).Woven := rfl; omega) (by have : endR l x = x.From + (od l x.Order).Woven := rfl; omega)
 rw [this, w64_id (by omega) (by omega)]
 unfold freeR
 by_cases h : (od l x.Order).Chain = (od l y.Order).Chain
 ·have : ((od l x.Order).Chain != (od l y.Order).Chain) = false := by simp [h]
  simp [this, h]
 ·have : ((od l x.Order).Chain != (od l y.Order).Chain) = true := by simp [h]
  simp [this, h]
def pre (r : List LoomRun) (j i : Nat) : Prop := (rn r j).Loom = (rn r i).Loom ∧ bef (rn r j) (rn r i)
def prev (r : List LoomRun) (j i : Nat) : Prop := pre r j i ∧ ∀ j', j' < r.length → pre r j' i → ¬ bef (rn r j) (rn r j')
def soonP (m : LoomMill) (l : List LoomOrder) (r : List LoomRun) (i : Nat) : Prop := ∃ j, j < r.length ∧ prev r j i ∧ (rn r i).From < freeR m l (rn r j) (rn r i).Order
theorem bef_irr {x : LoomRun} : ¬ bef x x := by unfold bef; omega
theorem bef_trans {x y z : LoomRun} (h : bef x y) (k : bef y z) : bef x z := by unfold bef at *; omega
theorem bef_or {x y : LoomRun} (h : x.Order ≠ y.Order) : bef x y ∨ bef y x := by unfold bef; omega
theorem Runs.ne {m : LoomMill} {l : List LoomOrder} {r : List LoomRun} (R : Runs m l r) {i j : Nat} (hi : i < r.length) (hj : j < r.length) (h : i ≠ j) : (rn r i).Order ≠ (rn r j).Order := by
 rcases Nat.lt_or_gt_of_ne h with h | h
 ·have := R.up i j h hj; omega
 ·have := R.up j i h hi; omega
theorem prev_one {m : LoomMill} {l : List LoomOrder} {r : List LoomRun} (R : Runs m l r) {i j n : Nat} (hj : j < r.length) (hn : n < r.length) (h : prev r j i) (k : prev r n i) : j = n := by
 by_cases he : j = n
 ·exact he
 ·rcases bef_or (R.ne hj hn he) with a | a
  ·exact absurd a (h.2 n hn k.1)
  ·exact absurd a (k.2 j hj h.1)
theorem Yes.bindv {α β : Type} {x : Option α} {f : α → Option β} {Q : β → Prop} (a : α) (h : x = Option.some a) (k : Yes (f a) Q) : Yes (Option.bind x f) Q := by rw [h]; exact k
theorem s92 {m : LoomMill} {l : List LoomOrder} {r : List LoomRun} (R : Runs m l r) {i : Nat} (hi : i < r.length) : Yes (f92 r (i : Int)) fun s => (s = -1 ∧ ∀ j, j < r.length → ¬ pre r j i) ∨ ∃ n : Nat, s = n ∧ n < r.length ∧ prev r n i := by
 have hr := R.r7
 unfold f92
 refine Yes.bind ?_
 refine Yes.lp (fun s => ∃ k : Nat, s.2 = k ∧ k ≤ r.length ∧ ((s.1 = -1 ∧ ∀ j, j < k → ¬ pre r j i) ∨ ∃ n : Nat, s.1 = n ∧ n < r.length ∧ pre r n i ∧ ∀ j, j < k → pre r j i → ¬ bef (rn r n) (rn r j))) (fun s => r.length - s.2.toNat) ⟨0, rfl, by omega, .inl ⟨rfl, by omega⟩⟩ (by simp; omega) ?_
 rintro ⟨s, j⟩ K ⟨k, hk, hk7, hI⟩ hK
 simp only at hk hI hK
 subst hk
 refine Yes.jn (Yes.cond (fun h => ?_) (fun h => Yes.some (Yes.some ?_)))
 ·have hk : k < r.length := by simp at h; omega
  refine Yes.bind (Yes.bindv (decide (pre r k i ∧ (s = -1 ∨ bef (rn r s.toNat) (rn r k)))) ?_ ?_)
  ·by_cases hki : k = i
   ·subst hki
    have : ((k : Int) != (k : Int)) = false := by simp
    rw [this]
    have : ¬ (pre r k k ∧ (s = -1 ∨ bef (rn r s.toNat) (rn r k))) := fun h => bef_irr h.1.2
    simp [this]
   ·have : ((k : Int) != (i : Int)) = true := by simp; omega
    rw [this, idx_rn hk, idx_rn hi]
    simp only [cond_true, Option.bind_some, s76]
    by_cases hl : (rn r k).Loom = (rn r i).Loom
    ·by_cases hb : bef (rn r k) (rn r i)
     ·have hp : pre r k i := ⟨hl, hb⟩
      rcases hI with ⟨rfl, _⟩ | ⟨n, rfl, hn, _, _⟩
      ·simp [hl, hb, hp]
      ·have h0 : decide ((n : Int) < 0) = false := by simp
       have h1 : ¬ ((n : Int) = -1) := by omega
       rw [idx_rn hn, h0]
       simp [hl, hb, hp, h1]
     ·have hp : ¬ pre r k i := fun h => hb h.2
      simp [hl, hb, hp]
    ·have hp : ¬ pre r k i := fun h => hl h.1
     have : ((rn r k).Loom == (rn r i).Loom) = false := by simp [hl]
     simp [this, hp]
  ·refine Yes.cond (fun hc => Yes.some (hK _ ?_ ?_)) (fun hc => Yes.some (hK _ ?_ ?_))
   ·obtain ⟨hp, hs⟩ := of_decide_eq_true hc
    refine ⟨k + 1, by rw [w64_succ (by omega)], by omega, .inr ⟨k, rfl, hk, hp, fun j hj hpj hb => ?_⟩⟩
    rcases hI with ⟨_, h2⟩ | ⟨n, rfl, hn, _, h2⟩
    ·rcases Nat.lt_succ_iff_lt_or_eq.1 hj with h3 | rfl
     ·exact h2 j h3 hpj
     ·exact bef_irr hb
    ·rcases Nat.lt_succ_iff_lt_or_eq.1 hj with h3 | rfl
     ·rcases hs with hs | hs
      ·omega
      ·exact h2 j h3 hpj (bef_trans (by simpa using hs) hb)
     ·exact bef_irr hb
   ·simp only [w64_succ (show k < 4611686018427387904 by omega)]; simp; omega
   ·have hc := of_decide_eq_false hc
    refine ⟨k + 1, by rw [w64_succ (by omega)], by omega, ?_⟩
    rcases hI with ⟨rfl, h2⟩ | ⟨n, rfl, hn, hpn, h2⟩
    ·refine .inl ⟨rfl, fun j hj hpj => ?_⟩
     rcases Nat.lt_succ_iff_lt_or_eq.1 hj with h3 | rfl
     ·exact h2 j h3 hpj
     ·exact hc ⟨hpj, .inl rfl⟩
    ·refine .inr ⟨n, rfl, hn, hpn, fun j hj hpj hb => ?_⟩
     rcases Nat.lt_succ_iff_lt_or_eq.1 hj with h3 | rfl
     ·exact h2 j h3 hpj hb
     ·exact hc ⟨hpj, .inr (by simpa using hb)⟩
   ·simp only [w64_succ (show k < 4611686018427387904 by omega)]; simp; omega
 ·have hk : k = r.length := by simp at h; omega
  subst hk
  rcases hI with ⟨rfl, h2⟩ | ⟨n, rfl, hn, hpn, h2⟩
  ·exact .inl ⟨rfl, h2⟩
  ·exact .inr ⟨n, rfl, hn, hpn, h2⟩
theorem s74 {m : LoomMill} {l : List LoomOrder} {r : List LoomRun} (g : Good m l) (R : Runs m l r) {i : Nat} (hi : i < r.length) : f74 m l r (i : Int) = some (decide (soonP m l r i)) := by
 refine Yes.eq ?_
 unfold f74
 refine Yes.bind ((s92 R hi).mono fun s hs => ?_)
 rcases hs with ⟨rfl, h⟩ | ⟨n, rfl, hn, h⟩
 ·have hs : ¬ soonP m l r i := fun ⟨j, hj, hp, _⟩ => h j hj hp.1
  refine Yes.bind (Yes.cond (fun h => by simp at h) (fun _ => Yes.some (Yes.some (by simp [hs]))))
 ·refine Yes.bind (Yes.cond (fun _ => ?_) (fun h => by simp at h))
  rw [idx_rn hi, idx_rn hn]
  simp only [Option.bind_some]
  rw [s77 g (R.inR n hn) (R.inR i hi)]
  refine Yes.some (Yes.some ?_)
  rw [decide_eq_decide]
  exact ⟨fun h2 => ⟨n, hn, h, h2⟩, fun ⟨j, hj, hp, h2⟩ => by rw [prev_one R hj hn hp h] at h2; exact h2⟩
end Go.Proofs.Ytnfjhdagbknlbaa
