/- Which runs a stop meets: the two programs agree. -/
import Derived.Test.YtnfjhdagbknlbaaLawP
set_option maxRecDepth 8000
namespace Go.Proofs.Ytnfjhdagbknlbaa
open Go.RowKit
open Classical

/-- The values of the numbers below n that are such. -/
def coll (p : Nat → Bool) (v : Nat → Int) (n : Nat) : List Int := ((List.range n).filter p).map v
theorem coll_succ (p : Nat → Bool) (v : Nat → Int) (n : Nat) : coll p v (n + 1) = bif p n then coll p v n ++ [v n] else coll p v n := by
  unfold coll
  rw [List.range_succ, List.filter_append]
  cases h : p n <;> simp [h]
theorem coll_len (p : Nat → Bool) (v : Nat → Int) (n : Nat) : (coll p v n).length ≤ n := by
  unfold coll
  rw [List.length_map]
  have := List.length_filter_le p (List.range n)
  simpa using this
theorem coll_loop {β : Type} {Q : β → Prop} {body : (List Int × Int → Option β) → List Int × Int → Option β} (n : Nat) (hn : n < 4611686018427387904) (p : Nat → Bool) (v : Nat → Int)
    (hb : ∀ k (i : Nat) (s : List Int), i < n → s.length ≤ i → body k (s, (i : Int)) = k (bif p i then s ++ [v i] else s, w64 ((i : Int) + 1)))
    (he : ∀ k, Yes (body k (coll p v n, (n : Int))) Q) : Yes (lp body big (([] : List Int), (0 : Int))) Q := by
  refine Yes.upto n (by omega) (fun i s => s = coll p v i) rfl (fun i s k hi hI hk => ?_) (fun s k hI => ?_)
  · subst hI
    rw [hb k i _ hi (coll_len p v i)]
    exact hk _ (coll_succ p v i).symm
  · subst hI
    exact he k
theorem apnd1 {b : Nat} {xs : List Int} {y : Int} (hb : b = 8) (h : xs.length ≤ 1000) : apnd b xs [y] = some (xs ++ [y]) := by
  subst hb
  exact Yes.eq (Yes.apnd (by simp; omega) (by simp; omega) rfl)
noncomputable def stopsV (l : List LoomOrder) (r : List LoomRun) (st : LoomStop) : List Int := coll (fun i => decide ((rn r i).Loom = st.Loom ∧ meets l st (rn r i))) (fun i => (rn r i).Order) r.length
theorem s37 {m : LoomMill} {l : List LoomOrder} {r : List LoomRun} {st : LoomStop} (g : Good m l) (R : Runs m l r) (hs : 0 ≤ st.Days.Low ∧ st.Days.Low ≤ st.Days.High ∧ st.Days.High ≤ 300) : f37 l r st = some (stopsV l r st) := by
  have hr := R.r7
  refine Yes.eq ?_
  unfold f37
  refine Yes.bind (coll_loop r.length (by omega) (fun i => decide ((rn r i).Loom = st.Loom ∧ meets l st (rn r i))) (fun i => (rn r i).Order) (fun k i s hi hsl => ?_) (fun k => ?_))
  · have h1 : decide ((i : Int) < (r.length : Int)) = true := by simp; omega
    refine (cond_tt h1).trans ?_
    simp only [jn, idx_rn hi, Option.bind_some, s75 g hs (R.inR i hi).b, apnd1 rfl (show s.length ≤ 1000 by omega)]
    cases decide ((rn r i).Loom = st.Loom ∧ meets l st (rn r i)) <;> rfl
  · have h1 : decide ((r.length : Int) < (r.length : Int)) = false := by simp
    refine Yes.jn (Yes.cond (fun h => by rw [h1] at h; cases h) (fun _ => Yes.some (Yes.some rfl)))
theorem s33 {m : LoomMill} {l : List LoomOrder} {r : List LoomRun} {st : LoomStop} (hr : r.length ≤ 1000) : f33 m l r st = some (if stillE m l r st = 0 then (stopsV l r st, 0) else ([], stillE m l r st)) := by
  refine Yes.eq ?_
  unfold f33
  rw [s65 hr]
  refine Yes.bind (Yes.some (Yes.jn ?_))
  by_cases he : stillE m l r st = 0
  · obtain ⟨g, R, hlo, hs⟩ := still_ok he
    have h0 : (stillE m l r st != 0) = false := by simp [he]
    rw [if_pos he, if_pos he]
    refine Yes.cond (fun h => by rw [h0] at h; cases h) (fun _ => Yes.bind ?_)
    refine coll_loop r.length (by have := R.r7; omega) (fun i => decide ((rn r i).Loom = st.Loom ∧ meets l st (rn r i))) (fun i => (rn r i).Order) (fun k i s hi hsl => ?_) (fun k => ?_)
    · have h1 : decide ((i : Int) < (r.length : Int)) = true := by simp; omega
      refine (cond_tt h1).trans ?_
      simp only [idx_rn hi, Option.bind_some, s66 g st (R.inR i hi).b, apnd1 rfl (show s.length ≤ 1000 by omega)]
      by_cases hl : (rn r i).Loom = st.Loom
      · by_cases hm : meets l st (rn r i) <;> simp [hl, hm]
      · have : ((rn r i).Loom == st.Loom) = false := by simp [hl]
        simp [hl, this]
    · have h1 : decide ((r.length : Int) < (r.length : Int)) = false := by simp
      exact Yes.cond (fun h => by rw [h1] at h; cases h) (fun _ => Yes.some (Yes.some rfl))
  · have h0 : (stillE m l r st != 0) = true := by simp [he]
    rw [if_neg he, if_neg he]
    exact Yes.cond (fun _ => Yes.some rfl) (fun h => by rw [h0] at h; cases h)
end Go.Proofs.Ytnfjhdagbknlbaa
