/- Laws of plain functions, part 1. -/
import Derived.Test.YtcjpochjapnoaaaGreatLawF2
set_option maxRecDepth 8000
namespace Go.Proofs.YtcjpochjapnoaaaGreat
open Go.RowKit
open Classical
theorem qskip {α : Type} {Q : α → Prop} {c : Bool} {X Y : Option α} (hc : c = false) (h : Yes Y Q) : Yes (bif c then X else Y) Q := by rw [hc]; exact h
theorem qtake {α : Type} {Q : α → Prop} {c : Bool} {X Y : Option α} (hc : c = true) (h : Yes X Q) : Yes (bif c then X else Y) Q := by rw [hc]; exact h
theorem qbind {α β : Type} {Q : β → Prop} {x : Option α} {f : α → Option β} (a : α) (h : x = some a) (k : Yes (f a) Q) : Yes (x.bind f) Q := by rw [h]; exact k
theorem qidx {α : Type} {xs : List α} {i : Nat} (h : i < xs.length) : idx xs (i : Int) = some xs[i] := by unfold idx; rw [if_pos (Int.natCast_nonneg i)]; exact List.getElem?_eq_getElem h
theorem qrem {a b : Int} (ha : 0 ≤ a) (hb : 0 < b) : ∃ r, rem64 a b = some r ∧ 0 ≤ r ∧ r < b := by
 unfold rem64
 rw [if_neg (by omega), Int.tmod_eq_emod_of_nonneg ha]
 exact ⟨_, rfl, Int.emod_nonneg _ (by omega), Int.emod_lt_of_pos _ hb⟩
theorem qw64 {n : Int} (h1 : -1000000000 ≤ n) (h2 : n ≤ 1000000000) : w64 n = n := w64_id (by omega) (by omega)
theorem qapnd8 {xs : List Int} {y : Int} (h : xs.length ≤ 1000) : apnd 8 xs [y] = some (xs ++ [y]) := Yes.eq (Yes.apnd (by simp; omega) (by simp; omega) rfl)
theorem c22 (l : List Int) (h : l.length ≤ 1000) : f21 l = some l := by unfold f21; exact Yes.eq (Yes.bind (Yes.apnd (by simp; omega) (by simp; omega) (Yes.some (by simp))))
theorem c23 (d : Design) (h : d.Rows.length ≤ 1000) : f27 d = some d := by unfold f27; exact Yes.eq (Yes.bind (Yes.apnd (by simp; omega) (by simp; omega) (Yes.some (by simp))))
theorem c7 (l : FaultLoom) (h1 : l.Harness.Warps.length ≤ 1000) (h2 : l.Design.Rows.length ≤ 1000) : f9 l = some l := by unfold f9; rw [c22 _ h1, c23 _ h2]; rfl
structure Clo (l : FaultLoom) : Prop where
 ok : loomEF l = 0
 h : 2 ≤ l.Design.Hooks ∧ l.Design.Hooks ≤ 8
 r : 1 ≤ l.Design.Rows.length ∧ l.Design.Rows.length ≤ 12
 w : 1 ≤ l.Harness.Warps.length ∧ l.Harness.Warps.length ≤ 20
theorem wu64_q {n : Int} (h1 : 0 ≤ n) (h2 : n ≤ 9223372036854775807) : wu64 n = n := by
 unfold wu64; rw [IntKind.wrap_u64]; omega
theorem design_is (x0 : UInt8) (x1 : List UInt16) : Yes (f24 x0 x1) fun d => (2 ≤ d.Hooks ∧ d.Hooks ≤ 8) ∧ (1 ≤ d.Rows.length ∧ d.Rows.length ≤ 12) ∧ ∀ w ∈ d.Rows, 0 ≤ w ∧ w ≤ 2 ^ d.Hooks.toNat - 1 := by
 unfold f24
 obtain ⟨r, hr, hr0, hr1⟩ := qrem (a := ((x0.toNat : Nat) : Int)) (b := 7) (by omega) (by omega)
 refine qbind _ hr ?_
 rw [qw64 (n := 2 + r) (by omega) (by omega)]
 have hsm := pow_smallF (n := 2 + r) (by omega) (by omega)
 have h4 : (4 : Int) ≤ 2 ^ (2 + r).toNat := by
  have a : 2 ^ 2 ≤ 2 ^ (2 + r).toNat := Nat.pow_le_pow_right (by omega) (by omega)
  have c : ((2 ^ (2 + r).toNat : Nat) : Int) = (2 : Int) ^ (2 + r).toNat := by simp
  rw [← c]; omega
 refine Yes.bind ?_
 refine Yes.upto (σ := Design) 12 (by omega) (fun i h => h.Hooks = 2 + r ∧ h.Rows.length = i ∧ ∀ w ∈ h.Rows, 0 ≤ w ∧ w ≤ 2 ^ (2 + r).toNat - 1) ⟨rfl, rfl, fun w hw => by cases hw⟩ (fun i h k hi hI hk => ?_) (fun h k hI => ?_)
 ·obtain ⟨h1, h2, h3⟩ := hI
  refine Yes.jn ?_
  have hnext : ∀ y : Int, 0 ≤ y → y ≤ 2 ^ (2 + r).toNat - 1 → _ := fun y hy1 hy2 => hk { h with Rows := h.Rows ++ [y] } ⟨h1, by simp [h2], fun w hw => by
   rcases List.mem_append.1 hw with hw | hw
   ·exact h3 w hw
   ·rw [List.mem_singleton.1 hw]; exact ⟨hy1, hy2⟩⟩
  by_cases hx : i < x1.length
  ·have hsh : shl64 1 (wu64 h.Hooks) = some (2 ^ (2 + r).toNat) := by rw [h1, wu64_q (by omega) (by omega), shl_oneF (by omega) (by omega)]
   obtain ⟨a, ha, ha0, ha1⟩ := qrem (a := ((x1[i].toNat : Nat) : Int)) (b := 2 ^ (2 + r).toNat) (by omega) (by omega)
   refine qbind true ?_ (qtake rfl (Yes.bind (Yes.bind (qtake (decide_eq_true (Int.ofNat_lt.2 hx)) (qbind _ (qidx hx) (qbind _ hsh (qbind _ ha (Yes.some (qbind _ (qapnd8 (by omega)) (Yes.some (hnext a ha0 (by omega))))))))))))
   by_cases h0 : i = 0
   ·subst h0; rfl
   ·have : ((i : Int) == 0) = false := by rw [beq_eq_false_iff_ne]; omega
    rw [this, decide_eq_true (Int.ofNat_lt.2 hx), decide_eq_true (show (i : Int) < 12 by omega)]; rfl
  ·by_cases h0 : i = 0
   ·subst h0
    refine qbind true rfl (qtake rfl (Yes.bind (Yes.bind (qskip (decide_eq_false (by omega)) (Yes.some (qbind _ (qapnd8 (by omega)) (Yes.some (hnext 1 (by omega) (by omega)))))))))
   ·refine qbind false ?_ (qskip rfl (Yes.some (Yes.some ⟨by omega, by omega, fun w hw => by rw [h1]; exact h3 w hw⟩)))
    have : ((i : Int) == 0) = false := by rw [beq_eq_false_iff_ne]; omega
    rw [this, decide_eq_false (show ¬ (i : Int) < (x1.length : Int) by omega)]; rfl
 ·obtain ⟨h1, h2, h3⟩ := hI
  refine Yes.jn (qbind false ?_ (qskip rfl (Yes.some (Yes.some ⟨by omega, by omega, fun w hw => by rw [h1]; exact h3 w hw⟩))))
  cases decide (((12 : Nat) : Int) < (x1.length : Int)) <;> rfl
theorem clo_is (x0 : UInt8) (x1 : List UInt16) : Yes (f5 x0 x1) Clo := by
 unfold f5
 refine Yes.bind (Yes.mono (design_is x0 x1) fun d hd => ?_)
 obtain ⟨⟨b1, b2⟩, ⟨b3, b4⟩, b5⟩ := hd
 obtain ⟨H, hH⟩ : ∃ H : Nat, d.Hooks = (H : Int) := ⟨d.Hooks.toNat, by omega⟩
 refine Yes.bind (Yes.mono (Q' := fun l => l.Design = d ∧ l.Harness.Hooks = d.Hooks ∧ l.Harness.Warps.length = H ∧ ∀ w ∈ l.Harness.Warps, 0 ≤ w ∧ w < d.Hooks) ?_ fun l hl => ?_)
 ·refine Yes.upto (σ := FaultLoom) H (by omega) (fun i l => l.Design = d ∧ l.Harness.Hooks = d.Hooks ∧ l.Harness.Warps.length = i ∧ ∀ w ∈ l.Harness.Warps, 0 ≤ w ∧ w < d.Hooks) ⟨rfl, rfl, rfl, fun w hw => by cases hw⟩ (fun i l k hi hI hk => ?_) (fun l k hI => ?_)
  ·obtain ⟨h1, h2, h3, h4⟩ := hI
   refine Yes.jn (qtake (decide_eq_true (by rw [h1]; omega)) (Yes.bind (qbind _ (qapnd8 (by omega)) (Yes.some (hk _ ⟨h1, h2, by simp [h3], fun w hw => ?_⟩)))))
   rcases List.mem_append.1 hw with hw | hw
   ·exact h4 w hw
   ·rw [List.mem_singleton.1 hw]; omega
  ·exact Yes.jn (qskip (decide_eq_false (by rw [hI.1]; omega)) (Yes.some hI))
 ·obtain ⟨h1, h2, h3, h4⟩ := hl
  refine Yes.bind (Yes.mono (Q' := fun l => l.Design = d ∧ l.Harness.Hooks = d.Hooks ∧ (1 ≤ l.Harness.Warps.length ∧ l.Harness.Warps.length ≤ 20) ∧ ∀ w ∈ l.Harness.Warps, 0 ≤ w ∧ w < d.Hooks) ?_ fun l hl => Yes.some ?_)
  ·rw [h1, qw64 (by omega) (by omega)]
   refine Yes.lp (fun s => 0 ≤ s.2 ∧ s.2 ≤ d.Hooks - 2 ∧ s.1.Design = d ∧ s.1.Harness.Hooks = d.Hooks ∧ 1 ≤ s.1.Harness.Warps.length ∧ (s.1.Harness.Warps.length : Int) + s.2 ≤ 2 * d.Hooks - 2 ∧ ∀ w ∈ s.1.Harness.Warps, 0 ≤ w ∧ w < d.Hooks) (fun s => s.2.toNat) ⟨by simp only; omega, by simp only; omega, h1, h2, by simp only; omega, by simp only; omega, h4⟩ (by simp only; omega) ?_
   rintro ⟨l, o⟩ k ⟨c1, c2, c3, c4, c5, c6, c7⟩ hk
   simp only at c1 c2 c3 c4 c5 c6 c7 hk
   refine Yes.jn ?_
   by_cases ho : o > 0
   ·refine qtake (decide_eq_true ho) (Yes.bind (qbind _ (qapnd8 (by omega)) (Yes.some ?_)))
    rw [qw64 (n := o - 1) (by omega) (by omega)]
    refine hk _ ⟨by simp only; omega, by simp only; omega, c3, c4, by simp, by simp only [List.length_append, List.length_singleton]; omega, fun w hw => ?_⟩ (by simp only; omega)
    rcases List.mem_append.1 hw with hw | hw
    ·exact c7 w hw
    ·rw [List.mem_singleton.1 hw]; omega
   ·exact qskip (decide_eq_false ho) (Yes.some ⟨c3, c4, ⟨c5, by omega⟩, c7⟩)
  ·obtain ⟨c1, c2, c3, c4⟩ := hl
   refine ⟨?_, by rw [c1]; omega, by rw [c1]; omega, c3⟩
   have t : tieEF l.Harness = 0 := by
    unfold tieEF
    rw [if_pos (by simp [btwF]; omega), if_neg (by omega), if_neg (by omega), if_pos]
    exact List.all_eq_true.2 fun w hw => by have := c4 w hw; simp [btwF]; omega
   have e : desEF l.Design = 0 := by
    rw [c1]
    unfold desEF
    rw [if_pos (by simp [btwF]; omega), if_neg (by omega), if_neg (by omega), if_pos]
    exact List.all_eq_true.2 fun w hw => by have := b5 w hw; simp [btwF]; omega
   unfold loomEF
   rw [t, e, if_neg (fun h => h rfl), if_neg (fun h => h rfl), if_neg (by rw [c1, c2]; exact fun h => h rfl)]
theorem kind_q (a : UInt8) : ∃ k : Nat, (((1 : UInt8) + a % 5).toNat : Int) = (k : Int) ∧ 1 ≤ k ∧ k ≤ 5 := by
 refine ⟨_, rfl, ?_⟩
 have h : (a % 5).toNat = a.toNat % 5 := by simp
 rw [UInt8.toNat_add, h]
 have : a.toNat % 5 < 5 := Nat.mod_lt _ (by decide)
 simp
 omega
theorem u8rem_q {a b : UInt8} (hb : b ≠ 0) {β : Type} {K : UInt8 → Option β} {Q : β → Prop} (h : Yes (K (a % b)) Q) : Yes ((u8rem a b).bind K) Q := by
 refine Yes.bind ⟨a % b, ?_, h⟩
 unfold u8rem
 rw [if_neg hb]
theorem q1 {l : FaultLoom} {p h : Int} (h1 : 0 ≤ p) (h2 : p < l.Design.Rows.length) (h3 : 0 ≤ h) (h4 : h < l.Design.Hooks) : dmgF l ⟨1, p, h, 0, false⟩ = true := by
 simp [dmgF, btwF]; omega
theorem q2 {l : FaultLoom} {h : Int} {u : Bool} (h3 : 0 ≤ h) (h4 : h < l.Design.Hooks) : dmgF l ⟨2, 0, h, 0, u⟩ = true := by
 simp [dmgF, btwF]; omega
theorem q5 {l : FaultLoom} {y : Int} (h1 : 0 ≤ y) (h2 : y < l.Harness.Warps.length) : dmgF l ⟨5, 0, 0, y, false⟩ = true := by
 simp [dmgF, btwF]; omega
theorem q34 {l : FaultLoom} {k p : Int} (hk : k = 3 ∨ k = 4) (h1 : 0 ≤ p) (h2 : p < l.Design.Rows.length) : dmgF l ⟨k, p, 0, 0, false⟩ = true := by
 rcases hk with rfl | rfl <;> (simp [dmgF, btwF]; omega)
theorem damage_is {l : FaultLoom} (C : Clo l) (v : Vector UInt8 3) : Yes (f7 l v) fun d => dmgF l d = true := by
 have hh := C.h
 have hr := C.r
 have hw := C.w
 have hv : ∀ (q : Nat) (h : q < 3), idx v.toList (q : Int) = some (v.toList[q]'(by simp; omega)) := fun q h => qidx (by simp; omega)
 unfold f7
 refine qbind _ (hv 0 (by omega)) (u8rem_q (by decide) (Yes.bind ?_))
 obtain ⟨k, hk, hk1, hk5⟩ := kind_q (v.toList[0]'(by simp))
 rw [hk]
 obtain ⟨p, hp, hp0, hp1⟩ := qrem (a := ((v.toList[1]'(by simp)).toNat : Int)) (b := (l.Design.Rows.length : Int)) (by omega) (by omega)
 obtain ⟨q, hq, hq0, hq1⟩ := qrem (a := ((v.toList[2]'(by simp)).toNat : Int)) (b := l.Design.Hooks) (by omega) (by omega)
 obtain ⟨n, hn, hn0, hn1⟩ := qrem (a := ((v.toList[1]'(by simp)).toNat : Int)) (b := l.Design.Hooks) (by omega) (by omega)
 obtain ⟨w, hww, hw0, hw1⟩ := qrem (a := ((v.toList[1]'(by simp)).toNat : Int)) (b := (l.Harness.Warps.length : Int)) (by omega) (by omega)
 by_cases k1 : k = 1
 ·subst k1
  exact qtake rfl (qbind _ (hv 1 (by omega)) (qbind _ hp (qbind _ (hv 2 (by omega)) (qbind _ hq (Yes.some (Yes.some (q1 hp0 hp1 hq0 hq1)))))))
 have n1 : ((k : Int) == 1) = false := by rw [beq_eq_false_iff_ne]; omega
 refine qskip n1 ?_
 by_cases k2 : k = 2
 ·subst k2
  exact qtake rfl (qbind _ (hv 1 (by omega)) (qbind _ hn (qbind _ (hv 2 (by omega)) (u8rem_q (by decide) (Yes.some (Yes.some (q2 hn0 hn1)))))))
 have n2 : ((k : Int) == 2) = false := by rw [beq_eq_false_iff_ne]; omega
 refine qskip n2 ?_
 by_cases k5 : k = 5
 ·subst k5
  exact qtake rfl (qbind _ (hv 1 (by omega)) (qbind _ hww (Yes.some (Yes.some (q5 hw0 hw1)))))
 have n5 : ((k : Int) == 5) = false := by rw [beq_eq_false_iff_ne]; omega
 exact qskip n5 (qbind _ (hv 1 (by omega)) (qbind _ hp (Yes.some (Yes.some (q34 (by omega) hp0 hp1)))))
end Go.Proofs.YtcjpochjapnoaaaGreat
