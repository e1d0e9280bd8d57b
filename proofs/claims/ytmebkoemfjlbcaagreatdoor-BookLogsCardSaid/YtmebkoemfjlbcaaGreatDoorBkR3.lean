/- BookRepairs of chapter 13: records. -/
import Derived.Test.YtmebkoemfjlbcaaGreatDoorBkR
set_option maxRecDepth 100000
set_option maxHeartbeats 4000000
namespace Go.Proofs.YtmebkoemfjlbcaaGreatDoor
open Go.RowKit
def vB (c : Z2) : Bool := Yd 0 65535 c.Day && (Yd 0 15 c.Loom && (Yd 0 7 c.Chain && (Yd 0 7 c.Tie && Yd 1 60 c.Picks)))
theorem Ml (x a b : Int) : f56 x a b = some (Yd a b x) := by
 refine Yes.eq ?_
 unfold f56
 refine Yes.bind (Yes.cond (fun h => ?_) (fun h => ?_))
 ·refine Yes.some (Yes.some ?_)
  have h := of_decide_eq_true h
  unfold Yd
  rw [decide_eq_decide]; omega
 ·refine Yes.some (Yes.some ?_)
  have h := of_decide_eq_false h
  unfold Yd
  symm; rw [decide_eq_false_iff_not]; omega
theorem s39v (c : Z2) : f39 c = some (vB c) := by
 refine Yes.eq ?_
 unfold f39 vB
 refine Yes.bind (Gm _ (Ml _ _ _) (Yes.cond (fun h => Gm _ (Ml _ _ _) (Yes.cond (fun h2 => Gm _ (Ml _ _ _) (Yes.cond (fun h3 => Gm _ (Ml _ _ _) (Yes.cond (fun h4 => Gm _ (Ml _ _ _) (Yes.some (Yes.some ?_))) (fun h4 => Yes.some (Yes.some ?_)))) (fun h3 => Yes.some (Yes.some ?_)))) (fun h2 => Yes.some (Yes.some ?_)))) (fun h => Yes.some (Yes.some ?_))))
 ·rw [h, h2, h3, h4]; rfl
 ·rw [h, h2, h3, h4]; rfl
 ·rw [h, h2, h3]; rfl
 ·rw [h, h2]; rfl
 ·rw [h]; rfl
theorem Lq (a b : Int) (xs : List Int) (hl : xs.length < 5) : f100 a b xs = some (xs.all (Yd a b)) := b69B a b xs (by omega)
theorem s88v (c : Z2) : f88 c = some (vB c) := by
 refine Yes.eq ?_
 unfold f88 vB
 refine Yes.bind (Gm _ (Lq _ _ _ (by simp)) (Yes.cond (fun h => Gm _ (Lq _ _ _ (by simp)) (Yes.cond (fun h2 => Gm _ (Lq _ _ _ (by simp)) (Yes.cond (fun h3 => Gm _ (Lq _ _ _ (by simp)) (Yes.some (Yes.some ?_))) (fun h3 => Yes.some (Yes.some ?_)))) (fun h2 => Yes.some (Yes.some ?_)))) (fun h => Yes.some (Yes.some ?_))))
 ·simp only [List.all_cons, List.all_nil, Bool.and_true] at h h2 h3 ⊢
  rw [h, h2]
  revert h3
  cases Yd 0 7 c.Chain <;> cases Yd 0 7 c.Tie <;> simp
 ·simp only [List.all_cons, List.all_nil, Bool.and_true] at h h2 h3 ⊢
  rw [h, h2]
  revert h3
  cases Yd 0 7 c.Chain <;> cases Yd 0 7 c.Tie <;> simp
 ·simp only [List.all_cons, List.all_nil, Bool.and_true] at h h2 ⊢
  rw [h, h2]; rfl
 ·simp only [List.all_cons, List.all_nil, Bool.and_true] at h ⊢
  rw [h]; rfl
theorem or_day (a b : UInt8) : W5 .or (w64 ((a.toNat : Int) * 256)) (b.toNat : Int) = 256 * (a.toNat : Int) + (b.toNat : Int) := by
 have ha := a.toNat_lt
 have hb := b.toNat_lt
 rw [T9 (by omega) (by omega)]
 unfold W5
 have e1 : BitVec.ofInt 64 ((a.toNat : Int) * 256) = BitVec.ofNat 64 (a.toNat * 256) := by rw [← BitVec.ofInt_natCast]; rfl
 have e2 : BitVec.ofInt 64 (b.toNat : Int) = BitVec.ofNat 64 b.toNat := BitVec.ofInt_natCast ..
 show w64 (((BitVec.ofInt 64 ((a.toNat : Int) * 256) ||| BitVec.ofInt 64 (b.toNat : Int)).toNat : Nat) : Int) = _
 rw [e1, e2, BitVec.toNat_or, BitVec.toNat_ofNat, BitVec.toNat_ofNat, Nat.mod_eq_of_lt (by omega), Nat.mod_eq_of_lt (by omega)]
 have e3 := Nat.shiftLeft_add_eq_or_of_lt (b := b.toNat) (i := 8) (by omega) a.toNat
 rw [Nat.shiftLeft_eq] at e3
 rw [show a.toNat * 256 = a.toNat * 2 ^ 8 from rfl, ← e3, T9 (by omega) (by omega)]
 omega
theorem s38v (a b c d e f g h : UInt8) : f38 [a, b, c, d, e, f, g, h] = some (clo a b c d e f, sm6 a b c d e f == g && pl6 a b c d e f == h) := by
 have ha := b8 a; have hb := b8 b
 have hd : w64 (w64 ((a.toNat : Int) * 256) + (b.toNat : Int)) = 256 * (a.toNat : Int) + (b.toNat : Int) := by
  rw [T9 (n := (a.toNat : Int) * 256) (by omega) (by omega), T9 (by omega) (by omega)]; omega
 refine Yes.eq ?_
 unfold f38
 refine Gm [a, b, c, d, e, f] rfl (Gm _ (s94v a b c d e f) (Yes.bind ?_))
 refine Gm a rfl (Gm b rfl (Gm c rfl (Gm d rfl (Gm e rfl (Gm f rfl (Gm g rfl ?_))))))
 rw [hd]
 refine Yes.cond (fun h1 => ?_) (fun h1 => ?_)
 ·exact Gm h rfl (Yes.some (Yes.some (by rw [h1]; rfl)))
 ·exact Yes.some (Yes.some (by rw [h1]; rfl))
theorem s92v (a b c d e f g h : UInt8) : f92 ⟨#[a, b, c, d, e, f, g, h], rfl⟩ = some (clo a b c d e f, bif (sm6 a b c d e f == g && pl6 a b c d e f == h) then (bif vB (clo a b c d e f) then 0 else 2) else 130) := by
 refine Yes.eq ?_
 unfold f92
 refine Gm a rfl (Gm (w64 ((a.toNat : Int) * 256)) rfl (Gm b rfl (Gm c rfl (Gm d rfl (Gm e rfl (Gm f rfl (Gm _ (O5 a b c d e f g h) (Yes.jn ?_))))))))
 rw [or_day]
 change Yes (Option.bind _ _) _
 refine Yes.bind (Gm g rfl ?_)
 refine Yes.cond (fun h1 => ?_) (fun h1 => ?_)
 ·have e1 : (sm6 a b c d e f == g) = false := by simpa [bne] using h1
  refine Yes.some (Kg rfl (Yes.some ?_))
  rw [e1]; rfl
 ·have e1 : (sm6 a b c d e f == g) = true := by simpa [bne] using h1
  refine Gm h rfl (Yes.some ?_)
  rw [e1]
  cases h2 : (pl6 a b c d e f == h) with
  | false =>
   refine Kg (by show (pl6 a b c d e f != h) = true; simp [bne, h2]) (Yes.some rfl)
  | true =>
   refine Qo (by show (pl6 a b c d e f != h) = false; simp [bne, h2]) (Gm _ (s88v _) ?_)
   show Yes (bif !vB (clo a b c d e f) then _ else _) _
   cases h3 : vB (clo a b c d e f) with
   | false => exact Yes.some rfl
   | true => exact Yes.some rfl
theorem Mf {l : List UInt8} (h : l.length = 8) : ∃ a b c d e f g k, l = [a, b, c, d, e, f, g, k] := by
 match l, h with
 | [a, b, c, d, e, f, g, k], _ => exact ⟨a, b, c, d, e, f, g, k, rfl⟩
end Go.Proofs.YtmebkoemfjlbcaaGreatDoor
/- BookRepairs of chapter 13: the law. -/
set_option maxRecDepth 100000
set_option maxHeartbeats 4000000
namespace Go.Proofs.YtmebkoemfjlbcaaGreatDoor
open Go.RowKit
theorem s35r (xs : List Z2) (hl : xs.length < 9223372036854775807) : f35 xs xs = some true := by
 refine Yes.eq ?_
 unfold f35
 refine Yes.jn (Qo (by simp) (Yes.jn ?_))
 refine Yes.upto0 xs.length hl (fun _ => True) trivial (fun i k hi _ hk => ?_) (fun k _ => ?_)
 ·refine Yes.jn (Kg (decide_eq_true (by omega)) (Yes.jn (Gm _ (Bn hi) (Gm _ (Bn hi) (Qo ?_ (hk trivial))))))
  simp
 ·exact Yes.jn (Qo (decide_eq_false (by omega)) (Yes.some rfl))
theorem s36r (l : List UInt8) : f36 l l = some true := by
 unfold f36
 simp
end Go.Proofs.YtmebkoemfjlbcaaGreatDoor
