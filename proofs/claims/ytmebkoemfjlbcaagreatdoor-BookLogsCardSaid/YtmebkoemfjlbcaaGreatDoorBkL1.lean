/- Logs of chapter 13: records both ways. -/
import Derived.Test.YtmebkoemfjlbcaaGreatDoorBkR3
set_option maxRecDepth 100000
set_option maxHeartbeats 4000000
namespace Go.Proofs.YtmebkoemfjlbcaaGreatDoor
open Go.RowKit
def bef (p c : Z2) : Bool := decide (p.Day < c.Day) || (p.Day == c.Day && decide (p.Loom < c.Loom))
theorem Ns {p c : Z2} : bef p c = true ↔ ltC p c := by
 unfold bef ltC
 simp
theorem s89b (a b : Z2) : ∃ z, f89 a b = some z ∧ decide (z ≥ (0 : Int)) = !bef a b := by
 obtain ⟨z, h1, h2⟩ := Rr a b
 refine ⟨z, h1, ?_⟩
 rw [← Ns] at h2
 cases h : bef a b with
 | true => rw [h] at h2; simp at h2; simp; omega
 | false => rw [h] at h2; simp at h2; simp; omega
theorem s93b (a b : Z2) : f93 a b = some (bef a b) := by
 refine Yes.eq ?_
 unfold f93 bef
 refine Yes.bind (Yes.cond (fun h => Yes.some (Yes.some ?_)) (fun h => Yes.cond (fun h2 => Yes.some (Yes.some ?_)) (fun h2 => Yes.some (Yes.some ?_))))
 ·have h := of_decide_eq_true h
  rw [decide_eq_true (by omega : a.Day < b.Day)]; rfl
 ·have h := of_decide_eq_false h
  have h2 : b.Day = a.Day := by simpa using h2
  rw [decide_eq_false (by omega : ¬ a.Day < b.Day), h2]; simp
 ·have h := of_decide_eq_false h
  have h2 : ¬ b.Day = a.Day := by simpa using h2
  rw [decide_eq_false (by omega : ¬ a.Day < b.Day)]
  have : (a.Day == b.Day) = false := by simp; omega
  rw [this]; rfl
theorem N2 {a b x : Int} : Yd a b x = true ↔ a ≤ x ∧ x ≤ b := P4
theorem Fu {c : Z2} : vB c = true ↔ (0 ≤ c.Day ∧ c.Day ≤ 65535) ∧ (0 ≤ c.Loom ∧ c.Loom ≤ 15) ∧ (0 ≤ c.Chain ∧ c.Chain ≤ 7) ∧ (0 ≤ c.Tie ∧ c.Tie ≤ 7) ∧ 1 ≤ c.Picks ∧ c.Picks ≤ 60 := by
 unfold vB
 simp only [Bool.and_eq_true, N2]
def J6 (c : Z2) : List UInt8 := [u8w (c.Day / 256), u8w c.Day, u8w c.Loom, u8w c.Chain, u8w c.Tie, u8w c.Picks, sm6 (u8w (c.Day / 256)) (u8w c.Day) (u8w c.Loom) (u8w c.Chain) (u8w c.Tie) (u8w c.Picks), pl6 (u8w (c.Day / 256)) (u8w c.Day) (u8w c.Loom) (u8w c.Chain) (u8w c.Tie) (u8w c.Picks)]
theorem Yc (c : Z2) : (J6 c).length = 8 := rfl
theorem s90v {c : Z2} (h : vB c = true) : f90 c = some ⟨(J6 c).toArray, rfl⟩ := by
 obtain ⟨h1, _⟩ := Fu.1 h
 refine Yes.eq ?_
 unfold f90
 have e1 : Kz c.Day 8 = some (c.Day / 256) := by
  unfold Kz
  rw [if_neg (by omega)]
  show some (c.Day.fdiv 256) = _
  rw [Int.fdiv_eq_ediv_of_nonneg _ (by omega)]
 exact Gm _ e1 (Gm _ (O5 _ _ _ _ _ _ _ _) (Yes.some rfl))
theorem s46v {c : Z2} (h : vB c = true) : f46 c = some (J6 c) := by
 obtain ⟨h1, _⟩ := Fu.1 h
 refine Yes.eq ?_
 unfold f46
 have e1 : U2 c.Day 256 = some (c.Day / 256) := by
  unfold U2
  rw [if_neg (by omega), Int.tdiv_eq_ediv_of_nonneg h1.1, T9 (by omega) (by omega)]
 have e2 : H3 c.Day 256 = some (c.Day % 256) := by
  unfold H3; rw [if_neg (by omega), Int.tmod_eq_emod_of_nonneg h1.1]
 have e3 : u8w (c.Day % 256) = u8w c.Day := by unfold u8w; rw [Int.emod_emod_of_dvd _ (by decide)]
 refine Gm _ e1 (Gm _ e2 ?_)
 rw [e3]
 exact Gm _ (s94v _ _ _ _ _ _) (Yes.bind (Yes.apnd (by simp) (by simp) (Yes.some rfl)))
def cE (l : List UInt8) : Z2 × Int := match l with
 | [a, b, c, d, e, f, g, h] => (clo a b c d e f, bif (sm6 a b c d e f == g && pl6 a b c d e f == h) then (bif vB (clo a b c d e f) then 0 else 2) else 130)
 | _ => (⟨0, 0, 0, 0, 0⟩, 0)
theorem s92c (v : Vector UInt8 8) : f92 v = some (cE v.toList) := by
 obtain ⟨xs, hx⟩ := v
 obtain ⟨l⟩ := xs
 obtain ⟨a, b, c, d, e, f, g, k, rfl⟩ := Mf (l := l) hx
 exact s92v a b c d e f g k
theorem s38c {l : List UInt8} (h : l.length = 8) : ∃ o, f38 l = some ((cE l).1, o) ∧ (cE l).2 = bif o then (bif vB (cE l).1 then 0 else 2) else 130 := by
 obtain ⟨a, b, c, d, e, f, g, k, rfl⟩ := Mf h
 exact ⟨_, s38v a b c d e f g k, rfl⟩
theorem Cu {n : Int} (h0 : 0 ≤ n) (h1 : n ≤ 255) : (((u8w n).toNat : Nat) : Int) = n := by
 rw [Ji h0]; omega
theorem Vr (x : UInt8) : u8w (x.toNat : Int) = x := by
 refine UInt8.toNat_inj.1 ?_
 rw [Ji (Int.natCast_nonneg _)]
 have := x.toNat_lt
 omega
theorem cE_rec {c : Z2} (h : vB c = true) : cE (J6 c) = (c, 0) := by
 obtain ⟨h1, h2, h3, h4, h5⟩ := Fu.1 h
 have hc : clo (u8w (c.Day / 256)) (u8w c.Day) (u8w c.Loom) (u8w c.Chain) (u8w c.Tie) (u8w c.Picks) = c := by
  unfold clo
  rw [Cu (n := c.Loom) (by omega) (by omega), Cu (n := c.Chain) (by omega) (by omega), Cu (n := c.Tie) (by omega) (by omega), Cu (n := c.Picks) (by omega) (by omega), Cu (n := c.Day / 256) (by omega) (by omega), Ji h1.1]
  have : 256 * (c.Day / 256) + ((c.Day.toNat % 256 : Nat) : Int) = c.Day := by omega
  rw [this]
 show (clo _ _ _ _ _ _, _) = _
 rw [hc, h]
 simp
theorem A6 {r : List UInt8} (h8 : r.length = 8) (h : (cE r).2 = 0) : J6 (cE r).1 = r ∧ vB (cE r).1 = true := by
 obtain ⟨a, b, c, d, e, f, g, k, rfl⟩ := Mf h8
 have ha := b8 a; have hb := b8 b
 have hs : (sm6 a b c d e f == g && pl6 a b c d e f == k) = true ∧ vB (clo a b c d e f) = true := by
  have h : (bif (sm6 a b c d e f == g && pl6 a b c d e f == k) then (bif vB (clo a b c d e f) then (0 : Int) else 2) else 130) = 0 := h
  revert h
  cases (sm6 a b c d e f == g && pl6 a b c d e f == k) <;> cases vB (clo a b c d e f) <;> simp
 have hg : sm6 a b c d e f = g ∧ pl6 a b c d e f = k := by simpa using hs.1
 refine ⟨?_, hs.2⟩
 have e1 : u8w ((256 * (a.toNat : Int) + b.toNat) / 256) = a := by
  rw [show (256 * (a.toNat : Int) + b.toNat) / 256 = a.toNat by omega, Vr]
 have e2 : u8w (256 * (a.toNat : Int) + b.toNat) = b := by
  refine UInt8.toNat_inj.1 ?_
  rw [Ji (by omega)]; omega
 show [u8w ((256 * (a.toNat : Int) + b.toNat) / 256), u8w (256 * (a.toNat : Int) + b.toNat), u8w (c.toNat : Int), u8w (d.toNat : Int), u8w (e.toNat : Int), u8w (f.toNat : Int), sm6 (u8w ((256 * (a.toNat : Int) + b.toNat) / 256)) (u8w (256 * (a.toNat : Int) + b.toNat)) (u8w (c.toNat : Int)) (u8w (d.toNat : Int)) (u8w (e.toNat : Int)) (u8w (f.toNat : Int)), pl6 (u8w ((256 * (a.toNat : Int) + b.toNat) / 256)) (u8w (256 * (a.toNat : Int) + b.toNat)) (u8w (c.toNat : Int)) (u8w (d.toNat : Int)) (u8w (e.toNat : Int)) (u8w (f.toNat : Int))] = _
 rw [e1, e2, Vr, Vr, Vr, Vr, hg.1, hg.2]
end Go.Proofs.YtmebkoemfjlbcaaGreatDoor
