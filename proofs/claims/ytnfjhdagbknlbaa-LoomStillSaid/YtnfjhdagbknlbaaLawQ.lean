/- A loom that stands still: errors, and which runs it stops. -/
import Derived.Test.YtnfjhdagbknlbaaLawL
set_option maxRecDepth 8000
namespace Go.Proofs.Ytnfjhdagbknlbaa
open Go.RowKit
open Classical

def inB (m : LoomMill) (l : List LoomOrder) (x : LoomRun) : Prop := (0 ≤ x.Order ∧ x.Order < l.length) ∧ (0 ≤ x.Loom ∧ x.Loom < m.Widths.length) ∧ (0 ≤ x.From ∧ x.From ≤ 1000000)
theorem inR.b {m : LoomMill} {l : List LoomOrder} {x : LoomRun} (h : inR m l x) : inB m l x := ⟨h.1, h.2.1, h.2.2.1, by have := h.2.2.2; omega⟩
theorem endB {m : LoomMill} {l : List LoomOrder} (g : Good m l) {x : LoomRun} (hx : inB m l x) : x.From + 1 ≤ endR l x ∧ endR l x ≤ x.From + 100 := by
 obtain ⟨⟨a1, a2⟩, _, c1, c2⟩ := hx
 have ho := g.o _ (od_mem a1 a2)
 unfold endR; omega
theorem s73b {m : LoomMill} {l : List LoomOrder} (g : Good m l) {x : LoomRun} (hx : inB m l x) : f73 ⟨m, l⟩ x = some (endR l x) := by
 have hb := endB g hx
 obtain ⟨⟨a1, a2⟩, _, c1, c2⟩ := hx
 unfold f73
 rw [idx_od a1 a2, Option.bind_some]
 have : w64 (x.From + (od l x.Order).Woven) = endR l x := w64_id (by have : endR l x = x.From + (od l x.Order).Woven := rfl; omega) (by have : endR l x = x.From + (od l x.Order).Woven := rfl; omega)
 rw [this]
theorem s69b {m : LoomMill} {l : List LoomOrder} (g : Good m l) {x : LoomRun} (hx : inB m l x) {o : Int} (h0 : 0 ≤ o) (h1 : o < l.length) : f69 ⟨m, l⟩ x o = some (freeR m l x o) := by
 have hb := endB g hx
 have hc := g.c
 have hf := hx.2.2
 unfold f69
 simp only [jn]
 rw [idx_od hx.1.1 hx.1.2, idx_od h0 h1, s73b g hx]
 simp only [Option.bind_some]
 unfold freeR
 rw [w64_id (by omega) (by omega)]
 by_cases h : (od l x.Order).Chain = (od l o).Chain
 ·simp [h]
 ·have : ((od l x.Order).Chain == (od l o).Chain) = false := by simp [h]
  simp [this, h]
noncomputable def stopE (m : LoomMill) (st : LoomStop) : Int :=
 if ¬ (0 ≤ st.Loom ∧ st.Loom < m.Widths.length) then 7 else if ¬ (0 ≤ st.Days.Low ∧ st.Days.Low ≤ st.Days.High ∧ st.Days.High ≤ 300) then 2 else 0
noncomputable def planE (m : LoomMill) (l : List LoomOrder) (r : List LoomRun) : Int := if chkE m l ≠ 0 then chkE m l else (holdsV m l r).2
noncomputable def stillE (m : LoomMill) (l : List LoomOrder) (r : List LoomRun) (st : LoomStop) : Int := if planE m l r ≠ 0 then planE m l r else stopE m st
theorem s65 {m : LoomMill} {l : List LoomOrder} {r : List LoomRun} {st : LoomStop} (hr : r.length ≤ 1000) : f65 m l r st = some (if stillE m l r st = 0 then ⟨⟨m, l⟩, st⟩ else ⟨⟨⟨[], 0⟩, []⟩, ⟨0, ⟨0, 0⟩⟩⟩, stillE m l r st) := by
 refine Yes.eq ?_
 unfold f65
 rw [s50]
 refine Yes.bind (Yes.some (Yes.bind (Yes.of (a := planE m l r) ?_ (Yes.jn ?_))))
 ·unfold openR planE
  by_cases hc : chkE m l = 0
  ·simp [hc, s78 (good_of hc) r hr]
  ·have : (chkE m l == 0) = false := by simp [hc]
   simp [hc, this]
 by_cases hp : planE m l r = 0
 ·have hc : chkE m l = 0 := by
   unfold planE at hp
   by_cases hc : chkE m l = 0
   ·exact hc
   ·rw [if_pos hc] at hp; exact hp
  have g := good_of hc
  have hw := g.w3
  have ho : openR m l = (⟨m, l⟩, 0) := by simp [openR, hc]
  have h0 : (planE m l r != 0) = false := by simp [hp]
  rw [ho]
  refine Yes.cond (fun h => by rw [h0] at h; cases h) (fun _ => ?_)
  have hb1 : ([st.Loom].all (btw 0 (w64 ((m.Widths.length : Int) - 1)))) = decide (0 ≤ st.Loom ∧ st.Loom < (m.Widths.length : Int)) := by
   rw [List.all_cons, List.all_nil, Bool.and_true, btw_sub _ _ (by omega)]
  rw [s81 _ _ _ (by simp), hb1, s71 _ (by simp)]
  by_cases h1 : 0 ≤ st.Loom ∧ st.Loom < (m.Widths.length : Int)
  ·by_cases h2 : 0 ≤ st.Days.Low ∧ st.Days.Low ≤ st.Days.High ∧ st.Days.High ≤ 300
   ·have e2 : ([st.Days.Low, st.Days.High].all (btw 0 300)) = true := by simp [btw]; omega
    have e3 : decide (st.Days.Low > st.Days.High) = false := by simp; omega
    have hs : stillE m l r st = 0 := by simp [stillE, stopE, hp, h1, h2]
    rw [hs]
    simp only [h1, e2, e3, and_self, decide_true, Bool.not_true, Option.bind_some, cond_false, if_true]
    exact Yes.some rfl
   ·have hs : stillE m l r st = 2 := by unfold stillE stopE; rw [if_neg (fun h => h hp), if_neg (fun h => h h1), if_pos h2]
    rw [hs]
    by_cases h3 : [st.Days.Low, st.Days.High].all (btw 0 300) = true
    ·have e3 : decide (st.Days.Low > st.Days.High) = true := by simp [btw] at h3; simp; omega
     simp only [h1, h3, e3, and_self, decide_true, Bool.not_true, Option.bind_some, cond_false, cond_true]
     exact Yes.some rfl
    ·simp only [Bool.not_eq_true] at h3
     simp only [h1, h3, and_self, decide_true, Bool.not_true, Bool.not_false, Option.bind_some, cond_false, cond_true]
     exact Yes.some rfl
  ·have hs : stillE m l r st = 7 := by unfold stillE stopE; rw [if_neg (fun h => h hp), if_pos h1]
   rw [hs]
   simp only [h1, decide_false, Bool.not_false, Option.bind_some, cond_true]
   exact Yes.some rfl
 ·have h0 : (planE m l r != 0) = true := by simp [hp]
  have hs : stillE m l r st = planE m l r := by unfold stillE; rw [if_pos hp]
  rw [hs, if_neg hp]
  exact Yes.cond (fun _ => Yes.some rfl) (fun h => by rw [h0] at h; cases h)
theorem still_ok {m : LoomMill} {l : List LoomOrder} {r : List LoomRun} {st : LoomStop} (h : stillE m l r st = 0) : Good m l ∧ Runs m l r ∧ (0 ≤ st.Loom ∧ st.Loom < m.Widths.length) ∧ (0 ≤ st.Days.Low ∧ st.Days.Low ≤ st.Days.High ∧ st.Days.High ≤ 300) := by
 have hp : planE m l r = 0 := by
  unfold stillE at h
  by_cases hp : planE m l r = 0
  ·exact hp
  ·rw [if_pos hp] at h; exact h
 have hs : stopE m st = 0 := by unfold stillE at h; rw [if_neg (fun k => k hp)] at h; exact h
 have hc : chkE m l = 0 := by
  unfold planE at hp
  by_cases hc : chkE m l = 0
  ·exact hc
  ·rw [if_pos hc] at hp; exact hp
 have g := good_of hc
 have hv : (holdsV m l r).2 = 0 := by unfold planE at hp; rw [if_neg (fun k => k hc)] at hp; exact hp
 refine ⟨g, ?_, ?_⟩
 ·unfold holdsV at hv
  by_cases hl : r.length > l.length
  ·rw [if_pos hl] at hv; cases hv
  ·rw [if_neg hl] at hv
   cases hf : (List.range r.length).find? (fun i => decide (oneE m l r i ≠ 0)) with
   | some i =>
    rw [hf] at hv
    have := List.find?_some hf
    simp at this
    exact absurd hv this
   | none =>
    have := g.l7
    exact runs_of (by omega) fun i hi => by
     have := List.find?_eq_none.1 hf i (List.mem_range.2 hi)
     simpa using this
 ·unfold stopE at hs
  by_cases h1 : 0 ≤ st.Loom ∧ st.Loom < (m.Widths.length : Int)
  ·rw [if_neg (fun k => k h1)] at hs
   by_cases h2 : 0 ≤ st.Days.Low ∧ st.Days.Low ≤ st.Days.High ∧ st.Days.High ≤ 300
   ·exact ⟨h1, h2⟩
   ·rw [if_pos h2] at hs; cases hs
  ·rw [if_pos h1] at hs; cases hs
def meets (l : List LoomOrder) (st : LoomStop) (x : LoomRun) : Prop := x.From ≤ st.Days.High ∧ endR l x > st.Days.Low
theorem s66 {m : LoomMill} {l : List LoomOrder} (g : Good m l) (st : LoomStop) {x : LoomRun} (hx : inB m l x) : f66 ⟨⟨m, l⟩, st⟩ x = some (decide (meets l st x)) := by
 unfold f66 meets
 rw [s73b g hx]
 by_cases h1 : x.From ≤ st.Days.High <;> by_cases h2 : endR l x > st.Days.Low <;> simp [h1, h2]
theorem s75 {m : LoomMill} {l : List LoomOrder} (g : Good m l) {st : LoomStop} (hs : 0 ≤ st.Days.Low ∧ st.Days.Low ≤ st.Days.High ∧ st.Days.High ≤ 300) {x : LoomRun} (hx : inB m l x) : f75 l x st = some (decide (x.Loom = st.Loom ∧ meets l st x)) := by
 have hb := endB g hx
 have hf := hx.2.2
 refine Yes.eq ?_
 unfold f75
 refine Yes.jn (Yes.lp (fun s => x.From ≤ s ∧ s ≤ endR l x ∧ ∀ d, x.From ≤ d → d < s → ¬ (x.Loom = st.Loom ∧ st.Days.Low ≤ d ∧ d ≤ st.Days.High)) (fun s => (endR l x - s).toNat) ⟨by omega, by omega, fun d h1 h2 => by omega⟩ (by omega) ?_)
 rintro d k ⟨h1, h2, h3⟩ hk
 have hen : w64 (x.From + (od l x.Order).Woven) = endR l x := w64_id (by have : endR l x = x.From + (od l x.Order).Woven := rfl; omega) (by have : endR l x = x.From + (od l x.Order).Woven := rfl; omega)
 refine Yes.jn ?_
 rw [idx_od hx.1.1 hx.1.2, Option.bind_some, hen]
 refine Yes.cond (fun hlt => ?_) (fun hge => Yes.some ?_)
 ·have hlt := of_decide_eq_true hlt
  refine Yes.jn (Yes.bindv (decide (x.Loom = st.Loom ∧ st.Days.Low ≤ d ∧ d ≤ st.Days.High)) ?_ (Yes.cond (fun hc => Yes.some ?_) (fun hc => hk _ ⟨?_, ?_, ?_⟩ ?_)))
  ·by_cases hl : x.Loom = st.Loom
   ·simp [hl, s36, btw]
   ·have : (x.Loom == st.Loom) = false := by simp [hl]
    simp [hl, this]
  ·obtain ⟨c1, c2, c3⟩ := of_decide_eq_true hc
   exact (decide_eq_true ⟨c1, by unfold meets; omega⟩).symm
  ·rw [w64_id (by omega) (by omega)]; omega
  ·rw [w64_id (by omega) (by omega)]; omega
  ·rw [w64_id (by omega) (by omega)]
   intro e he1 he2
   by_cases hed : e = d
   ·subst hed; exact of_decide_eq_false hc
   ·exact h3 e he1 (by omega)
  ·rw [w64_id (by omega) (by omega)]; omega
 ·have hge := of_decide_eq_false hge
  refine (decide_eq_false ?_).symm
  rintro ⟨c1, c2, c3⟩
  by_cases hlo : x.From ≤ st.Days.Low
  ·exact h3 st.Days.Low hlo (by omega) ⟨c1, by omega, by omega⟩
  ·exact h3 x.From (by omega) (by omega) ⟨c1, by omega, by omega⟩
end Go.Proofs.Ytnfjhdagbknlbaa
/- Which runs a stop meets: the two programs agree. -/
set_option maxRecDepth 8000
namespace Go.Proofs.Ytnfjhdagbknlbaa
open Go.RowKit
open Classical

def coll (p : Nat → Bool) (v : Nat → Int) (n : Nat) : List Int := ((List.range n).filter p).map v
theorem coll_succ (p : Nat → Bool) (v : Nat → Int) (n : Nat) : coll p v (n + 1) = bif p n then coll p v n ++ [v n] else coll p v n := by
 unfold coll
 rw [List.range_succ, List.filter_append]
 cases h : p n <;> simp [h]
theorem coll_len (p : Nat → Bool) (v : Nat → Int) (n : Nat) : (coll p v n).length ≤ n := by
 unfold coll
 rw [List.length_map]
 have := List.length_filter_le p (List.range n)
 simpa using this
theorem coll_loop {β : Type} {Q : β → Prop} {body : (List Int × Int → Option β) → List Int × Int → Option β} (n : Nat) (hn : n < 4611686018427387904) (p : Nat → Bool) (v : Nat → Int)
  (hb : ∀ k (i : Nat) (s : List Int), i < n → s.length ≤ i → body k (s, (i : Int)) = k (bif p i then s ++ [v i] else s, w64 ((i : Int) + 1)))
  (he : ∀ k, Yes (body k (coll p v n, (n : Int))) Q) : Yes (lp body big (([] : List Int), (0 : Int))) Q := by
 refine Yes.upto n (by omega) (fun i s => s = coll p v i) rfl (fun i s k hi hI hk => ?_) (fun s k hI => ?_)
 ·subst hI
  rw [hb k i _ hi (coll_len p v i)]
  exact hk _ (coll_succ p v i).symm
 ·subst hI
  exact he k
theorem apnd1 {b : Nat} {xs : List Int} {y : Int} (hb : b = 8) (h : xs.length ≤ 1000) : apnd b xs [y] = some (xs ++ [y]) := by
 subst hb
 exact Yes.eq (Yes.apnd (by simp; omega) (by simp; omega) rfl)
noncomputable def stopsV (l : List LoomOrder) (r : List LoomRun) (st : LoomStop) : List Int := coll (fun i => decide ((rn r i).Loom = st.Loom ∧ meets l st (rn r i))) (fun i => (rn r i).Order) r.length
theorem s37 {m : LoomMill} {l : List LoomOrder} {r : List LoomRun} {st : LoomStop} (g : Good m l) (R : Runs m l r) (hs : 0 ≤ st.Days.Low ∧ st.Days.Low ≤ st.Days.High ∧ st.Days.High ≤ 300) : f37 l r st = some (stopsV l r st) := by
 have hr := R.r7
 refine Yes.eq ?_
 unfold f37
 refine Yes.bind (coll_loop r.length (by omega) (fun i => decide ((rn r i).Loom = st.Loom ∧ meets l st (rn r i))) (fun i => (rn r i).Order) (fun k i s hi hsl => ?_) (fun k => ?_))
 ·have h1 : decide ((i : Int) < (r.length : Int)) = true := by simp; omega
  refine (cond_tt h1).trans ?_
  simp only [jn, idx_rn hi, Option.bind_some, s75 g hs (R.inR i hi).b, apnd1 rfl (show s.length ≤ 1000 by omega)]
  cases decide ((rn r i).Loom = st.Loom ∧ meets l st (rn r i)) <;> rfl
 ·have h1 : decide ((r.length : Int) < (r.length : Int)) = false := by simp
  refine Yes.jn (Yes.cond (fun h => by rw [h1] at h; cases h) (fun _ => Yes.some (Yes.some rfl)))
theorem s33 {m : LoomMill} {l : List LoomOrder} {r : List LoomRun} {st : LoomStop} (hr : r.length ≤ 1000) : f33 m l r st = some (if stillE m l r st = 0 then (stopsV l r st, 0) else ([], stillE m l r st)) := by
 refine Yes.eq ?_
 unfold f33
 rw [s65 hr]
 refine Yes.bind (Yes.some (Yes.jn ?_))
 by_cases he : stillE m l r st = 0
 ·obtain ⟨g, R, hlo, hs⟩ := still_ok he
  have h0 : (stillE m l r st != 0) = false := by simp [he]
  rw [if_pos he, if_pos he]
  refine Yes.cond (fun h => by rw [h0] at h; cases h) (fun _ => Yes.bind ?_)
  refine coll_loop r.length (by have := R.r7; omega) (fun i => decide ((rn r i).Loom = st.Loom ∧ meets l st (rn r i))) (fun i => (rn r i).Order) (fun k i s hi hsl => ?_) (fun k => ?_)
  ·have h1 : decide ((i : Int) < (r.length : Int)) = true := by simp; omega
   refine (cond_tt h1).trans ?_
   simp only [idx_rn hi, Option.bind_some, s66 g st (R.inR i hi).b, apnd1 rfl (show s.length ≤ 1000 by omega)]
   by_cases hl : (rn r i).Loom = st.Loom
   ·by_cases hm : meets l st (rn r i) <;> simp [hl, hm]
   ·have : ((rn r i).Loom == st.Loom) = false := by simp [hl]
    simp [hl, this]
  ·have h1 : decide ((r.length : Int) < (r.length : Int)) = false := by simp
   exact Yes.cond (fun h => by rw [h1] at h; cases h) (fun _ => Yes.some (Yes.some rfl))
 ·have h0 : (stillE m l r st != 0) = true := by simp [he]
  rw [if_neg he, if_neg he]
  exact Yes.cond (fun _ => Yes.some rfl) (fun h => by rw [h0] at h; cases h)
end Go.Proofs.Ytnfjhdagbknlbaa
