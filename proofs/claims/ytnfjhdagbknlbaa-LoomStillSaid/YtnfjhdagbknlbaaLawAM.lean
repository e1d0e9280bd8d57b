/- Whether runs are apart, and whether a run stands still. -/
import Derived.Test.YtnfjhdagbknlbaaLawAL
set_option maxRecDepth 8000
namespace Go.Proofs.Ytnfjhdagbknlbaa
open Go.RowKit
open Classical

theorem s43 {m : LoomMill} {l : List LoomOrder} (g : Good m l) {x : LoomRun} (hx : inB m l x) (st : LoomStop) : f43 x st l = some (decide (x.Loom = st.Loom ∧ meets l st x)) := by
 have hb := endB g hx
 have hf := hx.2.2
 unfold f43
 rw [idx_od hx.1.1 hx.1.2, Option.bind_some, w64_id (show -9223372036854775808 ≤ x.From + (od l x.Order).Woven by unfold endR at hb; omega) (by unfold endR at hb; omega)]
 unfold meets endR
 by_cases h1 : x.Loom = st.Loom
 ·by_cases h2 : x.From ≤ st.Days.High
  ·by_cases h3 : x.From + (od l x.Order).Woven > st.Days.Low <;> simp [h1, h2, h3]
  ·simp [h1, h2]
 ·have : (x.Loom == st.Loom) = false := by simp [h1]
  rw [this]; simp [h1]
def btwB (r : List LoomRun) (i j t : Nat) : Bool :=
 decide (t ≠ i) && (decide (t ≠ j) && (decide ((rn r t).Loom = (rn r i).Loom) && ((decide ((rn r t).From > (rn r i).From) || (decide ((rn r t).From = (rn r i).From) && decide ((rn r t).Order > (rn r i).Order))) && (decide ((rn r t).From < (rn r j).From) || (decide ((rn r t).From = (rn r j).From) && decide ((rn r t).Order < (rn r j).Order))))))
def anyB (r : List LoomRun) (i j n : Nat) : Bool := (List.range n).any fun t => btwB r i j t
def skpB (r : List LoomRun) (i j : Nat) : Bool := decide (i = j ∨ (rn r i).Loom ≠ (rn r j).Loom ∨ (rn r i).From > (rn r j).From ∨ (rn r i).From = (rn r j).From ∧ (rn r i).Order > (rn r j).Order)
def dayB (m : LoomMill) (l : List LoomOrder) (r : List LoomRun) (i j : Nat) : Int := endR l (rn r i) + (if anyB r i j r.length = false ∧ (od l (rn r i).Order).Chain ≠ (od l (rn r j).Order).Chain then m.Change else 0)
def vioB (m : LoomMill) (l : List LoomOrder) (r : List LoomRun) (i j : Nat) : Prop := skpB r i j = false ∧ (rn r j).From < dayB m l r i j
theorem s44 {m : LoomMill} {l : List LoomOrder} (g : Good m l) {r : List LoomRun} (hn : r.length ≤ 1000) (hin : ∀ i, i < r.length → inB m l (rn r i)) :
  f44 m l r = some (decide (∀ i j, i < r.length → j < r.length → ¬ vioB m l r i j)) := by
 have hc := g.c
 refine Yes.eq ?_
 unfold f44
 refine Yes.jn ?_
 refine Yes.upto0 r.length (by omega) (fun i => ∀ i' j, i' < i → j < r.length → ¬ vioB m l r i' j) (fun i' j h => absurd h (Nat.not_lt_zero _)) (fun i kk hi hI hk => ?_) (fun kk hI => ?_)
 ·refine Yes.jn (take (decide_eq_true (Int.ofNat_lt.2 hi)) (Yes.jn ?_))
  refine Yes.upto0 r.length (by omega) (fun j => ∀ j', j' < j → ¬ vioB m l r i j') (fun j' h => absurd h (Nat.not_lt_zero _)) (fun j kk' hj hJ hk' => ?_) (fun kk' hJ => ?_)
  ·refine Yes.jn (take (decide_eq_true (Int.ofNat_lt.2 hj)) (Yes.jn ?_))
   refine Yes.bindv _ (idx_rn hi) (Yes.bindv _ (idx_rn hj) ?_)
   refine Yes.jn ?_
   have hskip : (bif ((i : Int) == (j : Int)) then some true else bif ((rn r i).Loom != (rn r j).Loom) then some true else bif decide ((rn r i).From > (rn r j).From) then some true else bif ((rn r i).From == (rn r j).From) then some (decide ((rn r i).Order > (rn r j).Order)) else some false) = some (skpB r i j) := by
    unfold skpB
    by_cases c1 : i = j
    ·subst c1; simp
    ·have e1 : ((i : Int) == (j : Int)) = false := by rw [beq_eq_false_iff_ne]; omega
     rw [e1, cond_false]
     by_cases c2 : (rn r i).Loom = (rn r j).Loom
     ·have e2 : ((rn r i).Loom != (rn r j).Loom) = false := by simp [c2]
      rw [e2, cond_false]
      by_cases c3 : (rn r i).From > (rn r j).From
      ·rw [decide_eq_true c3, cond_true]; simp [c3]
      ·rw [decide_eq_false c3, cond_false]
       by_cases c4 : (rn r i).From = (rn r j).From
       ·have e4 : ((rn r i).From == (rn r j).From) = true := by simp [c4]
        rw [e4, cond_true]; congr 1; rw [decide_eq_decide]; omega
       ·have e4 : ((rn r i).From == (rn r j).From) = false := by simp [c4]
        rw [e4, cond_false]; congr 1; rw [eq_comm, decide_eq_false_iff_not]; omega
     ·have e2 : ((rn r i).Loom != (rn r j).Loom) = true := by simp [c2]
      rw [e2, cond_true]; simp [c2]
   refine Yes.bindv _ hskip ?_
   cases hsk : skpB r i j with
   | true =>
    refine take rfl (hk' fun j' hj' hv => ?_)
    rcases Nat.lt_succ_iff_lt_or_eq.1 hj' with h | rfl
    ·exact hJ j' h hv
    ·have := hv.1; rw [hsk] at this; cases this
   | false =>
    refine skip rfl ?_
    refine Yes.bind (Yes.mono (Q' := fun b => b = anyB r i j r.length) ?_ fun b hb => ?_)
    ·refine Yes.upto r.length (by omega) (fun t b => b = anyB r i j t) rfl (fun t b k'' ht hb hk'' => ?_) (fun b k'' hb => ?_)
     ·refine Yes.jn (take (decide_eq_true (Int.ofNat_lt.2 ht)) ?_)
      have hstep : (bif b then some true else bif ((t : Int) != (i : Int)) then bif ((t : Int) != (j : Int)) then bif ((rn r t).Loom == (rn r i).Loom) then bif decide ((rn r t).From > (rn r i).From) then bif decide ((rn r t).From < (rn r j).From) then some true else bif ((rn r t).From == (rn r j).From) then some (decide ((rn r t).Order < (rn r j).Order)) else some false
        else bif ((rn r t).From == (rn r i).From) then bif decide ((rn r t).Order > (rn r i).Order) then bif decide ((rn r t).From < (rn r j).From) then some true else bif ((rn r t).From == (rn r j).From) then some (decide ((rn r t).Order < (rn r j).Order)) else some false else some false else some false else some false else some false else some false) = some (anyB r i j (t + 1)) := by
       have hs : anyB r i j (t + 1) = (b || btwB r i j t) := by rw [hb]; unfold anyB; rw [List.range_succ, List.any_append]; simp
       rw [hs]
       cases b with
       | true => rfl
       | false =>
        rw [Bool.false_or, cond_false]
        have ht1 : ((t : Int) != (i : Int)) = decide (t ≠ i) := by rw [Bool.eq_iff_iff]; simp; omega
        have ht2 : ((t : Int) != (j : Int)) = decide (t ≠ j) := by rw [Bool.eq_iff_iff]; simp; omega
        rw [ht1, ht2]
        unfold btwB
        have beq_d : ∀ a b : Int, (a == b) = decide (a = b) := fun a b => by rw [Bool.eq_iff_iff]; simp
        rw [beq_d, beq_d, beq_d]
        generalize decide (t ≠ i) = p1, decide (t ≠ j) = p2, decide ((rn r t).Loom = (rn r i).Loom) = p3, decide ((rn r t).From > (rn r i).From) = p4, decide ((rn r t).From = (rn r i).From) = p5, decide ((rn r t).Order > (rn r i).Order) = p6, decide ((rn r t).From < (rn r j).From) = p7, decide ((rn r t).From = (rn r j).From) = p8, decide ((rn r t).Order < (rn r j).Order) = p9
        cases p1 <;> cases p2 <;> cases p3 <;> cases p4 <;> cases p5 <;> cases p6 <;> cases p7 <;> cases p8 <;> cases p9 <;> rfl
      refine Yes.bind (Yes.bindv _ (idx_rn ht) (Yes.of hstep ?_))
      exact hk'' _ rfl
     ·refine Yes.jn (skip (by simp) ?_)
      exact Yes.some hb
    ·have hbi := endB g (hin i hi)
     have hoi := (hin i hi).1
     have hoj := (hin j hj).1
     have hfi := (hin i hi).2.2
     have hei : endR l (rn r i) = (rn r i).From + (od l (rn r i).Order).Woven := rfl
     refine Yes.bindv _ (idx_od hoi.1 hoi.2) ?_
     have hday : (Option.bind (α := Bool) (bif !b then (idx l (rn r i).Order).bind fun q9 => (idx l (rn r j).Order).bind fun r9 => some (q9.Chain != r9.Chain) else some false) fun z8 => bif z8 then some (w64 (w64 ((rn r i).From + (od l (rn r i).Order).Woven) + m.Change)) else some (w64 ((rn r i).From + (od l (rn r i).Order).Woven))) = some (dayB m l r i j) := by
      rw [idx_od hoi.1 hoi.2, idx_od hoj.1 hoj.2, ← hei, w64_id (show -9223372036854775808 ≤ endR l (rn r i) by omega) (by omega), w64_id (by omega) (by omega)]
      unfold dayB
      rw [← hb]
      cases b with
      | true => simp
      | false =>
       by_cases hch : (od l (rn r i).Order).Chain = (od l (rn r j).Order).Chain
       ·have : ((od l (rn r i).Order).Chain != (od l (rn r j).Order).Chain) = false := by simp [hch]
        simp [this, hch]
       ·have : ((od l (rn r i).Order).Chain != (od l (rn r j).Order).Chain) = true := by simp [hch]
        simp [this, hch]
     refine Yes.bindv _ hday ?_
     by_cases hv : (rn r j).From < dayB m l r i j
     ·refine take (decide_eq_true hv) (Yes.some ?_)
      rw [eq_comm, decide_eq_false_iff_not]
      exact fun h => h i j hi hj ⟨hsk, hv⟩
     ·refine skip (decide_eq_false hv) (hk' fun j' hj' hv' => ?_)
      rcases Nat.lt_succ_iff_lt_or_eq.1 hj' with h | rfl
      ·exact hJ j' h hv'
      ·exact hv hv'.2
  ·refine Yes.jn (skip (by simp) ?_)
   refine hk fun i' j hi' hj => ?_
   rcases Nat.lt_succ_iff_lt_or_eq.1 hi' with h | rfl
   ·exact hI i' j h hj
   ·exact hJ j hj
 ·refine Yes.jn (skip (by simp) (Yes.some ?_))
  rw [eq_comm, decide_eq_true_iff]
  exact fun i j hi hj => hI i j hi hj
end Go.Proofs.Ytnfjhdagbknlbaa
