/- Runs pushed behind a stop: the program's loop. -/
import Derived.Test.YtnfjhdagbknlbaaLawQ
set_option maxRecDepth 8000
namespace Go.Proofs.Ytnfjhdagbknlbaa
open Go.RowKit
open Classical

theorem rn_set {r : List LoomRun} {i j : Nat} {x : LoomRun} (hi : i < r.length) : rn (r.set i x) j = if j = i then x else rn r j := by
 unfold rn
 by_cases h : j = i
 ·subst h; simp [hi]
 ·have : ¬ i = j := fun e => h e.symm
  simp [List.getElem?_set, h, this]
theorem set_rn {r : List LoomRun} {i : Nat} (hi : i < r.length) : r.set i (rn r i) = r := by
 have : rn r i = r[i] := by unfold rn; simp [hi]
 rw [this]; exact List.set_getElem_self _
noncomputable def day1 (m : LoomMill) (l : List LoomOrder) (last : Option Nat) (r : List LoomRun) (i : Nat) : Int :=
 match last with
 | none => (rn r i).From
 | some j => max64 (rn r i).From (freeR m l (rn r j) (rn r i).Order)
noncomputable def pushF (m : LoomMill) (l : List LoomOrder) (st : LoomStop) (last : Option Nat) (r : List LoomRun) (i : Nat) : Int :=
 if meets l st { rn r i with From := day1 m l last r i } then st.Days.High + 1 else day1 m l last r i
noncomputable def pushL (m : LoomMill) (l : List LoomOrder) (st : LoomStop) : Option Nat → List Nat → List LoomRun → List LoomRun
 | _, [], r => r
 | last, i :: A, r => pushL m l st (some i) A (r.set i { rn r i with From := pushF m l st last r i })
structure W (r0 r : List LoomRun) (b : Int) : Prop where
 len : r.length = r0.length
 ord : ∀ i, i < r0.length → (rn r i).Order = (rn r0 i).Order ∧ (rn r i).Loom = (rn r0 i).Loom ∧ 0 ≤ (rn r i).From ∧ (rn r i).From ≤ b
theorem W.inB {m : LoomMill} {l : List LoomOrder} {r0 r : List LoomRun} {b : Int} (R : Runs m l r0) (w : W r0 r b) (hb : b ≤ 1000000) {i : Nat} (hi : i < r0.length) : inB m l (rn r i) := by
 obtain ⟨h1, h2, h3, h4⟩ := w.ord i hi
 have := R.inR i hi
 refine ⟨?_, ?_, h3, by omega⟩
 ·rw [h1]; exact this.1
 ·rw [h2]; exact this.2.1
theorem free_bound {m : LoomMill} {l : List LoomOrder} (g : Good m l) {x : LoomRun} (hx : inB m l x) (o : Int) : x.From + 1 ≤ freeR m l x o ∧ freeR m l x o ≤ x.From + 120 := by
 have := endB g hx
 have := g.c
 unfold freeR
 split <;> omega
theorem max_is (a b : Int) : max64 a b = max a b := by unfold max64; split <;> omega
theorem day1_bound {m : LoomMill} {l : List LoomOrder} (g : Good m l) {r0 r : List LoomRun} {b : Int} (R : Runs m l r0) (w : W r0 r b) (hb : b ≤ 1000000) {i : Nat} (hi : i < r0.length) {last : Option Nat} (hl : ∀ j, last = some j → j < r0.length) : (rn r i).From ≤ day1 m l last r i ∧ day1 m l last r i ≤ b + 120 := by
 have := (w.ord i hi).2.2
 unfold day1
 cases last with
 | none => simp only; omega
 | some j =>
  have hj := hl j rfl
  have h1 := free_bound g (w.inB R hb hj) (rn r i).Order
  have h2 := (w.ord j hj).2.2
  simp only [max_is]
  omega
theorem push_bound {m : LoomMill} {l : List LoomOrder} (g : Good m l) {st : LoomStop} (hs : 0 ≤ st.Days.Low ∧ st.Days.Low ≤ st.Days.High ∧ st.Days.High ≤ 300) {r0 r : List LoomRun} {b : Int} (R : Runs m l r0) (w : W r0 r b) (h3 : 301 ≤ b) (hb : b ≤ 1000000) {i : Nat} (hi : i < r0.length) {last : Option Nat} (hl : ∀ j, last = some j → j < r0.length) :
  0 ≤ pushF m l st last r i ∧ pushF m l st last r i ≤ b + 120 := by
 have := day1_bound g R w hb hi hl
 have := (w.ord i hi).2.2
 unfold pushF
 split <;> omega
theorem W.step {m : LoomMill} {l : List LoomOrder} (g : Good m l) {st : LoomStop} (hs : 0 ≤ st.Days.Low ∧ st.Days.Low ≤ st.Days.High ∧ st.Days.High ≤ 300) {r0 r : List LoomRun} {b : Int} (R : Runs m l r0) (w : W r0 r b) (h3 : 301 ≤ b) (hb : b ≤ 1000000) {i : Nat} (hi : i < r0.length) {last : Option Nat} (hl : ∀ j, last = some j → j < r0.length) :
  W r0 (r.set i { rn r i with From := pushF m l st last r i }) (b + 120) := by
 have hp := push_bound g hs R w h3 hb hi hl
 refine ⟨by rw [List.length_set]; exact w.len, fun j hj => ?_⟩
 rw [rn_set (by rw [w.len]; exact hi)]
 by_cases h : j = i
 ·subst h
  rw [if_pos rfl]
  have := w.ord j hj
  exact ⟨this.1, this.2.1, hp.1, hp.2⟩
 ·rw [if_neg h]
  have := w.ord j hj
  exact ⟨this.1, this.2.1, this.2.2.1, by omega⟩
def lastI : Option Nat → Int
 | none => -1
 | some j => j
theorem W.start {m : LoomMill} {l : List LoomOrder} {r : List LoomRun} (R : Runs m l r) : W r r 301 := ⟨rfl, fun i hi => ⟨rfl, rfl, by have := (R.inR i hi).2.2; omega, by have := (R.inR i hi).2.2; omega⟩⟩
theorem f67_is {r : List LoomRun} (h : r.length ≤ 1000) : f67 r = some r := by
 unfold f67
 exact Yes.eq (Yes.apnd (by simp; omega) (by simp; omega) (by simp))
noncomputable def lates (l : List LoomOrder) (r : List LoomRun) : List Int := coll (fun i => decide (endR l (rn r i) > (od l (rn r i).Order).Late)) (fun i => (rn r i).Order) r.length
theorem s72' {r : List LoomRun} (h : r.length ≤ 1000) : f72 r (fun a0 => f70 a0) = some (r.any fun x => !btw 0 300 x.From) := by
 refine s72 r _ _ (by omega) fun a _ => ?_
 unfold f70
 rw [s71 _ (by simp)]
 simp
theorem any_far {r0 r : List LoomRun} {b : Int} (w : W r0 r b) : (r.any fun x => !btw 0 300 x.From) = decide (∃ i, i < r.length ∧ (rn r i).From > 300) := by
 rw [Bool.eq_iff_iff, List.any_eq_true, decide_eq_true_iff]
 constructor
 ·rintro ⟨x, hx, h⟩
  obtain ⟨i, hi, rfl⟩ := List.mem_iff_getElem.1 hx
  refine ⟨i, hi, ?_⟩
  have := (w.ord i (by rw [← w.len]; exact hi)).2.2
  have e : rn r i = r[i] := by unfold rn; simp [hi]
  rw [e] at this ⊢
  simp [btw] at h
  omega
 ·rintro ⟨i, hi, h⟩
  exact ⟨rn r i, rn_mem hi, by simp [btw]; omega⟩
noncomputable def pushV (l : List LoomOrder) (r : List LoomRun) : List LoomRun × List Int × Int := if ∃ i, i < r.length ∧ (rn r i).From > 300 then ([], [], 8) else (r, lates l r, 0)
theorem s34 {m : LoomMill} {l : List LoomOrder} {r : List LoomRun} {st : LoomStop} {A : List Nat} (he : stillE m l r st = 0) (hf : f68 r st.Loom = some (A.map fun (n : Nat) => (n : Int))) (hA : ∀ n, n ∈ A ↔ n < r.length ∧ (rn r n).Loom = st.Loom) (hA7 : A.length ≤ 7) : f34 m l r st = some (pushV l (pushL m l st none A r)) ∧ W r (pushL m l st none A r) 2000 := by
 obtain ⟨g, R, hlo, hs⟩ := still_ok he
 have hr := R.r7
 suffices h : Yes (f34 m l r st) fun x => x = pushV l (pushL m l st none A r) ∧ W r (pushL m l st none A r) 2000 by
  obtain ⟨x, h1, rfl, h2⟩ := h; exact ⟨h1, h2⟩
 unfold f34
 rw [s65 (by omega), if_pos he, he]
 refine Yes.bind (Yes.some (Yes.jn (Yes.cond (fun h => by simp at h) (fun _ => ?_))))
 rw [f67_is (by omega)]
 refine Yes.bind (Yes.some (Yes.bind (Yes.bind (Yes.of hf ?_))))
 have hlen : (A.map fun (n : Nat) => (n : Int)).length = A.length := by simp
 refine Yes.lp (fun s => ∃ k : Nat, s.2.2 = k ∧ k ≤ A.length ∧ ∃ last : Option Nat, s.2.1 = lastI last ∧ (∀ j, last = some j → j < r.length) ∧ pushL m l st last (A.drop k) s.1 = pushL m l st none A r ∧ W r s.1 (301 + 120 * k)) (fun s => A.length - s.2.2.toNat)
  ⟨0, rfl, by omega, none, rfl, (fun j h => by cases h), rfl, W.start R⟩ (by simp; omega) ?_
 rintro ⟨r1, s12, s37⟩ K ⟨k, hk, hkA, last, h12, hl, hpu, w⟩ hK
 simp only at hk h12 hpu w hK
 subst hk; subst h12
 have w2 := w.len
 refine Yes.cond (fun h => ?_) (fun h => Yes.some ?_)
 ·have hkA : k < A.length := by simp at h; omega
  have m0 := (hA _).1 (List.getElem_mem hkA)
  have hb : (301 + 120 * (k : Int)) ≤ 1000000 := by omega
  have hx := w.inB R hb m0.1
  have e1 : idx (A.map fun (n : Nat) => (n : Int)) (k : Int) = some (A[k] : Int) := by rw [idx_at (by omega)]; simp
  rw [List.drop_eq_getElem_cons hkA, pushL] at hpu
  generalize hi : A[k] = i at *
  have hir : i < r1.length := by omega
  refine Yes.bind ?_
  rw [e1, Option.bind_some, idx_rn hir, Option.bind_some]
  have hd := day1_bound g R w hb m0.1 hl
  refine Yes.bindv (r1.set i { rn r1 i with From := day1 m l last r1 i }) ?_ ?_
  ·cases last with
   | none =>
    have : epok r1 (lastI none) = some false := rfl
    rw [this]
    show some r1 = _
    have : ({ rn r1 i with From := day1 m l none r1 i } : LoomRun) = rn r1 i := rfl
    rw [this, set_rn hir]
   | some j =>
    have hj := hl j rfl
    have : epok r1 (lastI (some j)) = some true := by
     show epok r1 (j : Int) = some true
     unfold epok
     rw [if_neg (by omega), idx_rn (by omega)]; rfl
    rw [this]
    simp only [Option.bind_some, cond_true, lastI, idx_rn (show j < r1.length by omega), s69b g (w.inB R hb hj) hx.1.1 hx.1.2, Int.toNat_natCast]
    rfl
  ·have hx1 : inB m l { rn r1 i with From := day1 m l last r1 i } := ⟨hx.1, hx.2.1, by have := hx.2.2; show 0 ≤ day1 m l last r1 i; omega, by show day1 m l last r1 i ≤ 1000000; omega⟩
   have e2 : idx (r1.set i { rn r1 i with From := day1 m l last r1 i }) (i : Int) = some { rn r1 i with From := day1 m l last r1 i } := by
    rw [idx_rn (by rw [List.length_set]; exact hir), rn_set hir, if_pos rfl]
   refine Yes.bindv (r1.set i { rn r1 i with From := pushF m l st last r1 i }) ?_ (Yes.some (hK _ ⟨k + 1, by rw [w64_succ (by omega)], by omega, some i, rfl, (fun j h => by cases h; exact m0.1), hpu, ?_⟩ ?_))
   ·simp only [e2, Option.bind_some, s66 g st hx1, Int.toNat_natCast]
    unfold pushF
    by_cases hm : meets l st { rn r1 i with From := day1 m l last r1 i }
    ·rw [decide_eq_true hm, if_pos hm, cond_true, w64_id (by omega) (by omega), List.set_set]
    ·rw [decide_eq_false hm, if_neg hm, cond_false]
   ·have := W.step g hs R w (by omega) hb m0.1 hl
    have e : (301 + 120 * ((k + 1 : Nat) : Int)) = 301 + 120 * (k : Int) + 120 := by omega
    rw [e]; exact this
   ·simp only [w64_succ (show k < 4611686018427387904 by omega)]; simp; omega
 ·have hkA : k = A.length := by simp at h; omega
  rw [hkA, List.drop_length, pushL] at hpu
  rw [← hpu]
  have wr : W r r1 2000 := ⟨w2, fun i hi => by have := w.ord i hi; exact ⟨this.1, this.2.1, this.2.2.1, by omega⟩⟩
  refine Yes.jn ?_
  rw [s72' (by omega), any_far w, Option.bind_some]
  unfold pushV
  refine Yes.cond (fun hc => ?_) (fun hc => ?_)
  ·rw [if_pos (of_decide_eq_true hc)]
   exact Yes.some ⟨rfl, wr⟩
  ·rw [if_neg (of_decide_eq_false hc)]
   refine Yes.bind ?_
   refine coll_loop r1.length (by omega) (fun i => decide (endR l (rn r1 i) > (od l (rn r1 i).Order).Late)) (fun i => (rn r1 i).Order) (fun k i s hi hsl => ?_) (fun k => ?_)
   ·have h1 : decide ((i : Int) < (r1.length : Int)) = true := by simp; omega
    refine (cond_tt h1).trans ?_
    have hx := wr.inB R (by omega) (show i < r.length by omega)
    simp only [idx_rn hi, Option.bind_some, s73b g hx, idx_od hx.1.1 hx.1.2, apnd1 rfl (show s.length ≤ 1000 by omega)]
    cases decide (endR l (rn r1 i) > (od l (rn r1 i).Order).Late) <;> rfl
   ·have h1 : decide ((r1.length : Int) < (r1.length : Int)) = false := by simp
    exact Yes.cond (fun h => by rw [h1] at h; cases h) (fun _ => Yes.some (Yes.some ⟨rfl, wr⟩))
end Go.Proofs.Ytnfjhdagbknlbaa
/- Runs pushed behind a stop, day by day: the reference; LoomPushes. -/
set_option maxRecDepth 8000
namespace Go.Proofs.Ytnfjhdagbknlbaa
open Go.RowKit
open Classical

end Go.Proofs.Ytnfjhdagbknlbaa
