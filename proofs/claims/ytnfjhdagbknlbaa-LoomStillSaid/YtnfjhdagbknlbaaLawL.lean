/- What the document's examples say, is so. -/
import Derived.Test.YtnfjhdagbknlbaaYes
import Derived.Test.YtnfjhdagbknlbaaLawK
set_option maxRecDepth 100000
namespace Go.Proofs.Ytnfjhdagbknlbaa
open Go.RowKit
theorem known_ok : f14 = some true := by kernel_rfl
end Go.Proofs.Ytnfjhdagbknlbaa
/- What holds of a list of runs: the two programs agree. -/
set_option maxRecDepth 8000
namespace Go.Proofs.Ytnfjhdagbknlbaa
open Go.RowKit
open Classical

theorem cond_tt {α : Type} {c : Bool} {a b : α} (h : c = true) : (bif c then a else b) = a := by rw [h]; rfl
noncomputable def holdsV (m : LoomMill) (l : List LoomOrder) (r : List LoomRun) : Int × Int :=
 if r.length > l.length then (0, 5) else
  match (List.range r.length).find? (fun i => decide (oneE m l r i ≠ 0)) with
  | some i => (i, oneE m l r i)
  | none => match (List.range r.length).find? (fun i => decide (soonP m l r i)) with
   | some i => (i, 6)
   | none => (0, 0)
theorem one_ok {m : LoomMill} {l : List LoomOrder} {r : List LoomRun} {i : Nat} (h : oneE m l r i = 0) : inR m l (rn r i) ∧ (0 < i → (rn r (i - 1)).Order < (rn r i).Order) ∧ (od l (rn r i).Order).Width ≤ wd m (rn r i).Loom ∧ (od l (rn r i).Order).Early ≤ (rn r i).From ∧ endR l (rn r i) ≤ (od l (rn r i).Order).Late := by
 unfold oneE at h
 by_cases h1 : inR m l (rn r i)
 ·rw [if_neg (fun k => k h1)] at h
  by_cases h2 : 0 < i ∧ (rn r i).Order ≤ (rn r (i - 1)).Order
  ·rw [if_pos h2] at h; cases h
  ·rw [if_neg h2] at h
   by_cases h3 : (od l (rn r i).Order).Width > wd m (rn r i).Loom
   ·rw [if_pos h3] at h; cases h
   ·rw [if_neg h3] at h
    by_cases h4 : (rn r i).From < (od l (rn r i).Order).Early ∨ endR l (rn r i) > (od l (rn r i).Order).Late
    ·rw [if_pos h4] at h; cases h
    ·exact ⟨h1, by omega, by omega, by omega, by omega⟩
 ·rw [if_pos h1] at h; cases h
theorem runs_of {m : LoomMill} {l : List LoomOrder} {r : List LoomRun} (h7 : r.length ≤ 7) (h : ∀ i, i < r.length → oneE m l r i = 0) : Runs m l r where
 r7 := h7
 inR i hi := (one_ok (h i hi)).1
 up i j hij hj := by
  induction j with
  | zero => omega
  | succ j ih =>
   have h1 := (one_ok (h (j + 1) hj)).2.1 (by omega)
   simp only [Nat.add_sub_cancel] at h1
   rcases Nat.lt_succ_iff_lt_or_eq.1 hij with h2 | rfl
   ·have := ih h2 (by omega); omega
   ·exact h1
theorem s78 {m : LoomMill} {l : List LoomOrder} (g : Good m l) (r : List LoomRun) (hr : r.length ≤ 1000) : f78 ⟨m, l⟩ r = some (holdsV m l r) := by
 have hl7 := g.l7
 refine Yes.eq ?_
 unfold f78 holdsV
 by_cases hlen : r.length > l.length
 ·have h1 : decide ((r.length : Int) > (l.length : Int)) = true := by simp; omega
  rw [if_pos hlen]
  exact Yes.jn (Yes.cond (fun _ => Yes.some rfl) (fun h => by rw [h1] at h; cases h))
 ·have h1 : decide ((r.length : Int) > (l.length : Int)) = false := by simp; omega
  rw [if_neg hlen]
  refine Yes.jn (Yes.cond (fun h => by rw [h1] at h; cases h) (fun _ => Yes.jn (first_loop r.length (by omega) (fun i => decide (oneE m l r i ≠ 0)) (fun i => some ((i : Int), oneE m l r i)) (fun k i hi => ?_) (fun hf k => ?_) (fun i hi hf hp => ?_))))
  ·have h2 : decide ((i : Int) < (r.length : Int)) = true := by simp; omega
   simp only [jn, h2, cond_true, s93 g hi (by omega), Option.bind_some]
   by_cases h : oneE m l r i = 0
   ·simp [h]
   ·have : (oneE m l r i != 0) = true := by simp [h]
    simp [h, this]
  ·have h2 : decide ((r.length : Int) < (r.length : Int)) = false := by simp
   simp only [h2, cond_false]
   rw [hf]
   have R : Runs m l r := runs_of (by omega) fun i hi => by
    have := List.find?_eq_none.1 hf i (List.mem_range.2 hi)
    simpa using this
   refine Yes.jn (Yes.bind ((s94 g R).mono fun s hs => ?_))
   rcases hs with ⟨rfl, h⟩ | ⟨n, rfl, hn, h⟩
   ·rw [h]
    exact Yes.cond (fun h => by simp at h) (fun _ => Yes.some rfl)
   ·rw [h]
    exact Yes.cond (fun _ => Yes.some rfl) (fun h => by simp at h)
  ·rw [hf]
   exact Yes.some rfl
theorem s35 {m : LoomMill} {l : List LoomOrder} (g : Good m l) (r : List LoomRun) (hr : r.length ≤ 1000) : f35 m l r = some (holdsV m l r) := by
 have hl7 := g.l7
 have hw3 := g.w3
 refine Yes.eq ?_
 unfold f35 holdsV
 by_cases hlen : r.length > l.length
 ·have h1 : decide ((r.length : Int) > (l.length : Int)) = true := by simp; omega
  rw [if_pos hlen]
  exact Yes.jn (Yes.cond (fun _ => Yes.some rfl) (fun h => by rw [h1] at h; cases h))
 ·have h1 : decide ((r.length : Int) > (l.length : Int)) = false := by simp; omega
  rw [if_neg hlen]
  refine Yes.jn (Yes.cond (fun h => by rw [h1] at h; cases h) (fun _ => Yes.jn (first_loop r.length (by omega) (fun i => decide (oneE m l r i ≠ 0)) (fun i => some ((i : Int), oneE m l r i)) (fun k i hi => ?_) (fun hf k => ?_) (fun i hi hf hp => ?_))))
  ·have h2 : decide ((i : Int) < (r.length : Int)) = true := by simp; omega
   refine (cond_tt h2).trans ?_
   simp only [jn, idx_rn hi, Option.bind_some, s36, btw_sub _ _ (show l.length < 4611686018427387904 by omega), btw_sub _ _ (show m.Widths.length < 4611686018427387904 by omega)]
   unfold oneE
   by_cases hin : inR m l (rn r i)
   ·have hh := hin
    obtain ⟨⟨a1, a2⟩, ⟨b1, b2⟩, c1, c2⟩ := hin
    have e1 : decide (0 ≤ (rn r i).Order ∧ (rn r i).Order < (l.length : Int)) = true := by simp [a1, a2]
    have e2 : decide (0 ≤ (rn r i).Loom ∧ (rn r i).Loom < (m.Widths.length : Int)) = true := by simp [b1, b2]
    have e3 : btw 0 300 (rn r i).From = true := by simp [btw, c1, c2]
    simp only [e1, e2, e3, Bool.not_true, cond_false, Option.bind_some, idx_od a1 a2, idx_wd b1 b2]
    rw [if_neg (fun h => h hh)]
    have hp : (bif decide ((i : Int) > 0) then (idx r (w64 ((i : Int) - 1))).bind fun y => some (decide ((rn r i).Order ≤ y.Order)) else some false) = some (decide (0 < i ∧ (rn r i).Order ≤ (rn r (i - 1)).Order)) := by
     by_cases h0 : 0 < i
     ·have : decide ((i : Int) > 0) = true := by simp; omega
      rw [this, w64_id (by omega) (by omega), show (i : Int) - 1 = ((i - 1 : Nat) : Int) by omega, idx_rn (by omega)]
      simp [h0]
     ·have : decide ((i : Int) > 0) = false := by simp; omega
      rw [this]; simp [h0]
    have ho := g.o _ (od_mem a1 a2)
    have hen : w64 ((rn r i).From + (od l (rn r i).Order).Woven) = endR l (rn r i) := w64_id (by omega) (by omega)
    rw [hp, Option.bind_some, hen]
    by_cases hq : 0 < i ∧ (rn r i).Order ≤ (rn r (i - 1)).Order
    ·simp [hq]
    ·rw [if_neg hq, decide_eq_false hq, cond_false]
     by_cases hw : (od l (rn r i).Order).Width > wd m (rn r i).Loom
     ·simp [hw]
     ·rw [if_neg hw, decide_eq_false hw, cond_false]
      by_cases he : (rn r i).From < (od l (rn r i).Order).Early <;> by_cases hz : endR l (rn r i) > (od l (rn r i).Order).Late <;> simp [he, hz]
   ·rw [if_pos hin]
    by_cases e1 : 0 ≤ (rn r i).Order ∧ (rn r i).Order < (l.length : Int)
    ·by_cases e2 : 0 ≤ (rn r i).Loom ∧ (rn r i).Loom < (m.Widths.length : Int)
     ·have e3 : btw 0 300 (rn r i).From = false := by
       unfold btw; rw [decide_eq_false]; exact fun h => hin ⟨e1, e2, h⟩
      simp [e1, e2, e3]
     ·simp [e1, e2]
    ·simp [e1]
  ·have h2 : decide ((r.length : Int) < (r.length : Int)) = false := by simp
   simp only [h2, cond_false]
   rw [hf]
   have R : Runs m l r := runs_of (by omega) fun i hi => by
    have := List.find?_eq_none.1 hf i (List.mem_range.2 hi)
    simpa using this
   refine Yes.jn (first_loop r.length (by omega) (fun i => decide (soonP m l r i)) (fun i => some ((i : Int), 6)) (fun k i hi => ?_) (fun hf k => ?_) (fun i hi hf hp => ?_))
   ·have h2 : decide ((i : Int) < (r.length : Int)) = true := by simp; omega
    simp only [jn, h2, cond_true, s74 g R hi, Option.bind_some]
   ·have h2 : decide ((r.length : Int) < (r.length : Int)) = false := by simp
    simp only [h2, cond_false]
    rw [hf]
    exact Yes.jn (Yes.some rfl)
   ·rw [hf]
    exact Yes.some rfl
  ·rw [hf]
   exact Yes.some rfl
theorem s40 {m : LoomMill} {l : List LoomOrder} {r : List LoomRun} (hr : r.length ≤ 1000) : f40 m l r = some (if chkE m l ≠ 0 then (0, chkE m l) else holdsV m l r) := by
 unfold f40
 rw [s50]
 unfold openR
 by_cases hc : chkE m l = 0
 ·have g := good_of hc
  simp [jn, hc, s78 g r hr]
 ·have : (chkE m l != 0) = true := by simp [hc]
  simp [jn, hc, this]
end Go.Proofs.Ytnfjhdagbknlbaa
