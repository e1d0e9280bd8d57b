/- BookLogs of chapter 13: the law. -/
import Derived.Test.YtmebkoemfjlbcaaGreatDoorBkL1
import Derived.Test.YtmebkoemfjlbcaaGreatDoorBkKn
import Derived.Test.YtmebkoemfjlbcaaGreatDoorYes
set_option maxRecDepth 100000
set_option maxHeartbeats 4000000
namespace Go.Proofs.YtmebkoemfjlbcaaGreatDoor
open Go.RowKit
def Ja (pv : Option Z2) (c : Z2) : Int := bif !vB c then 2 else match pv with
 | none => 0
 | some p => bif !bef p c then 4 else 0
def lS : List Z2 → Nat → Option Z2 → List UInt8 → List UInt8 × Int × Int
 | [], _, _, acc => (acc, 0, 0)
 | c :: l, i, pv, acc => bif Ja pv c == 0 then lS l (i + 1) (some c) (acc ++ J6 c) else ([], (i : Int), Ja pv c)
def Yj (pv : Option Z2) (r : List UInt8) : Int := bif (cE r).2 != 0 then (cE r).2 else Ja pv (cE r).1
def cS : List (List UInt8) → Nat → Option Z2 → List Z2 → List Z2 × Int × Int
 | [], _, _, acc => (acc, 0, 0)
 | r :: l, i, pv, acc => bif Yj pv r == 0 then cS l (i + 1) (some (cE r).1) (acc ++ [(cE r).1]) else ([], (i : Int), Yj pv r)
def Xs (l : List Z2) : List UInt8 × Int × Int := bif decide ((l.length : Int) > 100) then ([], 0, 5) else lS l 0 none []
def Yv (l : List Z2) (i : Nat) : Option Z2 := if i = 0 then none else l[i - 1]?
theorem Ia {l : List Z2} {i : Nat} (hi : i < l.length) (acc : List UInt8) : lS (l.drop i) i (Yv l i) acc = bif Ja (Yv l i) l[i] == 0 then lS (l.drop (i + 1)) (i + 1) (Yv l (i + 1)) (acc ++ J6 l[i]) else ([], (i : Int), Ja (Yv l i) l[i]) := by
 rw [List.drop_eq_getElem_cons hi]
 show (bif _ then _ else _) = _
 have : Yv l (i + 1) = some l[i] := by unfold Yv; rw [if_neg (by omega), Nat.add_sub_cancel, List.getElem?_eq_getElem hi]
 rw [this]
theorem Sd {l : List Z2} {i : Nat} (hi : i < l.length) (h0 : 0 < i) : Yv l i = some (l[i - 1]'(by omega)) := by
 unfold Yv; rw [if_neg (by omega), List.getElem?_eq_getElem (by omega)]
theorem Dl {pv : Option Z2} {c : Z2} (h : vB c = false) : Ja pv c = 2 := by unfold Ja; rw [h]; rfl
theorem Rq {c : Z2} (h : vB c = true) : Ja none c = 0 := by unfold Ja; rw [h]; rfl
theorem S4 {p c : Z2} (h : vB c = true) : Ja (some p) c = bif !bef p c then 4 else 0 := by unfold Ja; rw [h]; rfl
theorem s31v (l : List Z2) : f31 l = some (Xs l) := by
 refine Yes.eq ?_
 unfold f31 Xs
 refine Yes.jn (Yes.cond (fun h => Yes.some (by rw [show decide ((l.length : Int) > 100) = true from h]; rfl)) (fun h => Yes.jn ?_))
 rw [show decide ((l.length : Int) > 100) = false from h]
 have hl : l.length ≤ 100 := by have := of_decide_eq_false h; omega
 refine Yes.upto l.length (by omega) (fun i acc => acc.length = 8 * i ∧ lS (l.drop i) i (Yv l i) acc = lS l 0 none []) ⟨rfl, rfl⟩ (fun i acc k hi hI hk => ?_) (fun acc k hI => ?_)
 ·obtain ⟨hL, hI⟩ := hI
  rw [Ia hi] at hI
  refine Kg (decide_eq_true (by omega)) (Yes.jn (Gm _ (Bn hi) (Yes.jn (Gm _ (s88v _) ?_))))
  cases hv : vB l[i] with
  | false =>
   refine Kg rfl (Yes.some ?_)
   rw [Dl hv] at hI
   exact hI
  | true =>
   refine Qo rfl ?_
   have done : Ja (Yv l i) l[i] = 0 → Yes ((f90 l[i]).bind fun mH => (cut mH.toList 0 ((8 : Nat) : Int)).bind fun nH => (apnd 1 acc nH).bind fun sF => k (sF, w64 ((i : Int) + 1))) fun r => r = lS l 0 none [] := fun h0 => by
    rw [h0] at hI
    refine Gm _ (s90v hv) (Gm (J6 l[i]) rfl (Yes.bind (Yes.apnd (by simp [Yc]; omega) (by simp [Yc]; omega) (hk _ ⟨by simp [Yc]; omega, hI⟩))))
   by_cases h0 : 0 < i
   ·rw [Sd hi h0, S4 hv] at hI done
    obtain ⟨z, hz, hzb⟩ := s89b (l[i - 1]'(by omega)) l[i]
    refine Yes.bind (Kg (decide_eq_true (by omega)) ?_)
    rw [T9 (by omega) (by omega), show ((i : Int) - 1) = ((i - 1 : Nat) : Int) by omega]
    refine Gm _ (Bn (by omega)) (Gm _ hz (Yes.some ?_))
    rw [hzb]
    cases hb : bef (l[i - 1]'(by omega)) l[i] with
    | false =>
     rw [hb] at hI
     exact Kg rfl (Yes.some hI)
    | true =>
     rw [hb] at done
     exact Qo rfl (done rfl)
   ·obtain rfl : i = 0 := by omega
    refine Yes.bind (Qo (decide_eq_false (by omega)) (Yes.some (Qo rfl (done (Rq hv)))))
 ·obtain ⟨hL, hI⟩ := hI
  rw [List.drop_length] at hI
  exact Qo (decide_eq_false (by omega)) (Yes.some hI)
theorem s33v (l : List Z2) : f33 l = some (Xs l) := by
 refine Yes.eq ?_
 unfold f33 Xs
 refine Yes.jn (Yes.cond (fun h => Yes.some (by rw [show decide ((l.length : Int) > 100) = true from h]; rfl)) (fun h => Yes.jn ?_))
 rw [show decide ((l.length : Int) > 100) = false from h]
 have hl : l.length ≤ 100 := by have := of_decide_eq_false h; omega
 refine Yes.upto l.length (by omega) (fun i acc => acc.length = 8 * i ∧ lS (l.drop i) i (Yv l i) acc = lS l 0 none []) ⟨rfl, rfl⟩ (fun i acc k hi hI hk => ?_) (fun acc k hI => ?_)
 ·obtain ⟨hL, hI⟩ := hI
  rw [Ia hi] at hI
  refine Yes.jn (Kg (decide_eq_true (by omega)) (Yes.jn (Yes.jn (Gm _ (Bn hi) (Gm _ (s39v _) ?_)))))
  cases hv : vB l[i] with
  | false =>
   refine Kg rfl (Yes.some ?_)
   rw [Dl hv] at hI
   exact hI
  | true =>
   refine Qo rfl (Yes.jn ?_)
   have done : Ja (Yv l i) l[i] = 0 → Yes ((idx l (i : Int)).bind fun kH => (f46 kH).bind fun lH => (apnd 1 acc lH).bind fun iG => k (iG, w64 ((i : Int) + 1))) fun r => r = lS l 0 none [] := fun h0 => by
    rw [h0] at hI
    exact Gm _ (Bn hi) (Gm _ (s46v hv) (Yes.bind (Yes.apnd (by simp [Yc]; omega) (by simp [Yc]; omega) (hk _ ⟨by simp [Yc]; omega, hI⟩))))
   by_cases h0 : 0 < i
   ·rw [Sd hi h0, S4 hv] at hI done
    refine Yes.bind (Kg (decide_eq_true (by omega)) ?_)
    rw [T9 (by omega) (by omega), show ((i : Int) - 1) = ((i - 1 : Nat) : Int) by omega]
    refine Gm _ (Bn (by omega)) (Gm _ (Bn hi) (Gm _ (s93b _ _) (Yes.some ?_)))
    cases hb : bef (l[i - 1]'(by omega)) l[i] with
    | false =>
     rw [hb] at hI
     exact Kg rfl (Yes.some hI)
    | true =>
     rw [hb] at done
     exact Qo rfl (done rfl)
   ·obtain rfl : i = 0 := by omega
    refine Yes.bind (Qo (decide_eq_false (by omega)) (Yes.some (Qo rfl (done (Rq hv)))))
 ·obtain ⟨hL, hI⟩ := hI
  rw [List.drop_length] at hI
  exact Yes.jn (Qo (decide_eq_false (by omega)) (Yes.some hI))
end Go.Proofs.YtmebkoemfjlbcaaGreatDoor
/- Laws of plain functions, part 1. -/
set_option maxRecDepth 8000
namespace Go.Proofs.YtmebkoemfjlbcaaGreatDoor
open Go.RowKit
open Classical
theorem Lx {a b : Int} (ha : 0 ≤ a) (hb : 0 < b) : H3 a b = some (a % b) := by
 unfold H3; rw [if_neg (by omega), Int.tmod_eq_emod_of_nonneg ha]
theorem Rc : ∀ (L : List (List UInt8)) (i : Nat), (∀ r ∈ L, r.length = 8) → (hi : i < L.length) → (L.flatten.take (8 * i + 8)).drop (8 * i) = L[i]
 | [], _, _, hi => absurd hi (by simp)
 | r :: L, 0, h, _ => by
  have h8 := h r (by simp)
  rw [List.flatten_cons, List.take_append_of_le_length (by omega), List.take_of_length_le (by omega)]
  rfl
 | r :: L, i + 1, h, hi => by
  have h8 := h r (by simp)
  have ih := Rc L i (fun x hxB => h x (by simp [hxB])) (by simpa using hi)
  rw [List.flatten_cons, show 8 * (i + 1) + 8 = r.length + (8 * i + 8) by omega, List.take_append, List.take_of_length_le (by omega), show r.length + (8 * i + 8) - r.length = 8 * i + 8 by omega, show 8 * (i + 1) = r.length + 8 * i by omega, List.drop_append, List.drop_of_length_le (by omega), show r.length + 8 * i - r.length = 8 * i by omega, List.nil_append, ih]
  rfl
theorem Hj : ∀ (L : List (List UInt8)), (∀ r ∈ L, r.length = 8) → L.flatten.length = 8 * L.length
 | [], _ => rfl
 | r :: L, h => by
  have h8 := h r (by simp)
  have ih := Hj L (fun x hxB => h x (by simp [hxB]))
  rw [List.flatten_cons, List.length_append, ih, List.length_cons]; omega
end Go.Proofs.YtmebkoemfjlbcaaGreatDoor
