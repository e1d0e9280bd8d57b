/- Plain laws: the wages of all weavers; PayBills. -/
import Derived.Test.YtkmbkaoolacofaaGreatLawW
set_option maxRecDepth 8000
namespace Go.Proofs.YtkmbkaoolacofaaGreat
open Go.RowKit
open Classical

/-! ### Maps as lists -/
section
variable {κ ν : Type} [DecidableEq κ]
theorem mget_nil (k : κ) : mget ([] : List (κ × ν)) k = none := rfl
theorem mget_cons (p : κ × ν) (m : List (κ × ν)) (k : κ) : mget (p :: m) k = if p.1 = k then some p.2 else mget m k := by
 unfold mget
 rw [List.find?_cons]
 by_cases h : p.1 = k <;> simp [h]
theorem mget_mset (k : κ) (v : ν) (k' : κ) : ∀ m : List (κ × ν), mget (mset m k v) k' = if k' = k then some v else mget m k'
 | [] => by
  rw [show mset ([] : List (κ × ν)) k v = [(k, v)] from rfl, mget_cons, mget_nil]
  by_cases h : k' = k
  ·simp [h]
  ·simp [h, Ne.symm h]
 | p :: m => by
  have ih := mget_mset k v k' m
  by_cases hp : p.1 = k
  ·rw [show mset (p :: m) k v = (k, v) :: m from if_pos hp, mget_cons, mget_cons]
   by_cases h : k' = k
   ·simp [h]
   ·rw [if_neg (Ne.symm h), if_neg h, if_neg (by rw [hp]; exact Ne.symm h)]
  ·rw [show mset (p :: m) k v = p :: mset m k v from if_neg hp, mget_cons, mget_cons, ih]
   by_cases h : k' = k
   ·subst h; simp [hp]
   ·simp [h]
theorem mem_keys {k : κ} : ∀ {m : List (κ × ν)}, k ∈ m.map (·.1) ↔ (mget m k).isSome = true
 | [] => by simp [mget_nil]
 | p :: m => by
  have ih := mem_keys (k := k) (m := m)
  rw [List.map_cons, List.mem_cons, mget_cons, ih]
  by_cases h : p.1 = k
  ·simp [h]
  ·simp [h, Ne.symm h]
theorem keys_mset (k : κ) (v : ν) : ∀ m : List (κ × ν), (mset m k v).map (·.1) = if k ∈ m.map (·.1) then m.map (·.1) else m.map (·.1) ++ [k]
 | [] => rfl
 | p :: m => by
  have ih := keys_mset k v m
  by_cases hp : p.1 = k
  ·rw [show mset (p :: m) k v = (k, v) :: m from if_pos hp, List.map_cons, List.map_cons, if_pos (by simp [hp])]; simp [hp]
  ·rw [show mset (p :: m) k v = p :: mset m k v from if_neg hp, List.map_cons, List.map_cons, ih]
   by_cases hk : k ∈ m.map (·.1)
   ·rw [if_pos hk, if_pos (List.mem_cons_of_mem _ hk)]
   ·rw [if_neg hk, if_neg (by rw [List.mem_cons]; exact fun h => h.elim (fun h => hp h.symm) hk)]; rfl
theorem nodup_mset {k : κ} {v : ν} {m : List (κ × ν)} (h : (m.map (·.1)).Nodup) : ((mset m k v).map (·.1)).Nodup := by
 rw [keys_mset]
 split
 ·exact h
 ·rename_i hk
  rw [List.nodup_append]
  exact ⟨h, by simp, fun a ha b hb => by rw [List.mem_singleton.1 hb]; exact fun e => hk (e ▸ ha)⟩
end
theorem sorted_is {xs ys : List Int} (h : xs.Perm ys) (hs : ys.Pairwise (· ≤ ·)) : xs.mergeSort (fun x y => decide (x ≤ y)) = ys := by
 rw [mergeSort_of_perm_i h]
 exact List.mergeSort_of_pairwise (hs.imp fun h => by simpa using h)

/-! ### Weavers and what they earned -/
def rngI (n : Nat) : List Int := (List.range n).map fun i : Nat => (i : Int)
theorem mem_rngI {n : Nat} {x : Int} : x ∈ rngI n ↔ 0 ≤ x ∧ x < (n : Int) := by
 unfold rngI
 rw [List.mem_map]
 constructor
 ·rintro ⟨i, hi, rfl⟩; have := List.mem_range.1 hi; omega
 ·intro h; exact ⟨x.toNat, List.mem_range.2 (by omega), by omega⟩
theorem rngI_asc (n : Nat) : (rngI n).Pairwise (· < ·) := by
 unfold rngI; rw [List.pairwise_map]
 exact List.pairwise_lt_range.imp fun h => by omega
theorem rngI_succ (n : Nat) : rngI (n + 1) = rngI n ++ [(n : Int)] := by simp [rngI, List.range_succ]
def hasW (ps : List PayPiece) (w : Int) : Bool := ps.any fun p => p.Weaver == w
def totW (l : PayList) (ps : List PayPiece) (w : Int) : Int := ((ps.filter fun p => p.Weaver == w).map fun p => wageL l p p.Faults).sum
def weavL (ps : List PayPiece) : List Int := (rngI 51).filter (hasW ps)
structure OkPs (l : PayList) (ps : List PayPiece) : Prop where
 lok : LOk l
 p : ∀ p ∈ ps, okPiece l p ∧ p.Extras.length ≤ 12
 n : ps.length ≤ 60
section
variable {l : PayList} {ps : List PayPiece}
theorem okp_at (g : OkPs l ps) {i : Nat} (h : i < ps.length) : okPiece l ps[i] ∧ ps[i].Extras.length ≤ 1000 ∧ (0 ≤ ps[i].Faults ∧ ps[i].Faults ≤ 100) ∧ (0 ≤ ps[i].Weaver ∧ ps[i].Weaver ≤ 50) ∧ (0 ≤ wageL l ps[i] ps[i].Faults ∧ wageL l ps[i] ps[i].Faults ≤ 10010000000) := by
 obtain ⟨h1, h2⟩ := g.p _ (List.getElem_mem h)
 have hf := btw_iff.1 h1.2.2.2.1
 exact ⟨h1, by omega, hf, btw_iff.1 h1.1, wage_bound g.lok h1 (by omega) hf⟩
theorem tot_take {i : Nat} (h : i < ps.length) (w : Int) : totW l (ps.take (i + 1)) w = totW l (ps.take i) w + if ps[i].Weaver = w then wageL l ps[i] ps[i].Faults else 0 := by
 unfold totW
 rw [List.take_succ_eq_append_getElem h, List.filter_append, List.map_append, List.sum_append]
 by_cases hw : ps[i].Weaver = w
 ·simp [hw]
 ·simp [hw]
theorem has_take {i : Nat} (h : i < ps.length) (w : Int) : hasW (ps.take (i + 1)) w = (hasW (ps.take i) w || decide (ps[i].Weaver = w)) := by
 unfold hasW
 rw [List.take_succ_eq_append_getElem h, List.any_append]
 simp [Bool.beq_eq_decide_eq]
theorem tot_bound (g : OkPs l ps) (w : Int) : ∀ i, i ≤ ps.length → 0 ≤ totW l (ps.take i) w ∧ totW l (ps.take i) w ≤ 10010000000 * i
 | 0, _ => by simp [totW]
 | i + 1, h => by
  have ih := tot_bound g w i (by omega)
  have := (okp_at g (i := i) (by omega)).2.2.2.2
  rw [tot_take (by omega)]
  split <;> omega
theorem tot_none {w : Int} (h : hasW ps w = false) : totW l ps w = 0 := by
 unfold totW
 have : ps.filter (fun p => p.Weaver == w) = [] := List.filter_eq_nil_iff.2 fun p hp => by have := List.any_eq_false.1 h p hp; simpa using this
 rw [this]; rfl
structure MapOf (l : PayList) (ps : List PayPiece) (m : List (Int × Int)) : Prop where
 nd : (m.map (·.1)).Nodup
 at_ : ∀ k, mget m k = if hasW ps k then some (totW l ps k) else none
theorem map_step {i : Nat} (h : i < ps.length) {m : List (Int × Int)} (hm : MapOf l (ps.take i) m) :
  MapOf l (ps.take (i + 1)) (mset m ps[i].Weaver ((mget m ps[i].Weaver).getD 0 + wageL l ps[i] ps[i].Faults)) := by
 refine ⟨nodup_mset hm.nd, fun k => ?_⟩
 have e : (mget m ps[i].Weaver).getD 0 = totW l (ps.take i) ps[i].Weaver := by
  rw [hm.at_]
  cases hh : hasW (ps.take i) ps[i].Weaver with
  | true => rfl
  | false => rw [tot_none hh]; rfl
 rw [mget_mset, e, has_take h, tot_take h, hm.at_]
 by_cases hk : k = ps[i].Weaver
 ·subst hk; simp
 ·rw [if_neg hk, if_neg (Ne.symm hk), decide_eq_false (Ne.symm hk), Bool.or_false, Int.add_zero]
theorem map_keys (g : OkPs l ps) {m : List (Int × Int)} (hm : MapOf l ps m) : keysS m = some (weavL ps) := by
 have hmem : ∀ k, k ∈ m.map (·.1) ↔ k ∈ weavL ps := fun k => by
  rw [mem_keys, hm.at_]
  unfold weavL
  rw [List.mem_filter, mem_rngI]
  cases hh : hasW ps k with
  | false => simp
  | true =>
   simp only [if_true, Option.isSome_some, true_iff, and_true]
   obtain ⟨p, hp, hw⟩ := List.any_eq_true.1 hh
   have := btw_iff.1 (g.p p hp).1.1
   have hw : p.Weaver = k := by simpa using hw
   omega
 have hndw : (weavL ps).Nodup := ((rngI_asc 51).imp fun h => by omega : (rngI 51).Nodup).filter _
 have hperm : (m.map (·.1)).Perm (weavL ps) := (List.perm_ext_iff_of_nodup hm.nd hndw).2 hmem
 have hlen : (weavL ps).length ≤ 51 := by unfold weavL; refine Nat.le_trans (List.length_filter_le _ _) ?_; simp [rngI]
 unfold keysS
 rw [if_pos]
 ·rw [sorted_is hperm (((rngI_asc 51).imp fun h => by omega : (rngI 51).Pairwise (· ≤ ·)).filter _)]
 ·refine ⟨?_, hm.nd, fun k hk => ?_⟩
  ·have := hperm.length_eq
   rw [List.length_map] at this; omega
  ·have := List.mem_filter.1 ((hmem k).1 hk)
   have := mem_rngI.1 this.1
   omega
end
def FirstB (l : PayList) (ps : List PayPiece) (i : Nat) : Prop := ∃ h : i < ps.length, chkP l ps[i] ≠ 0 ∧ ∀ j (hj : j < i), chkP l (ps[j]'(by omega)) = 0
section
variable {l : PayList} {ps : List PayPiece}
theorem errW_ok (h : chkL l = 0) (p : PayPiece) : errW l p = chkP l p := by unfold errW; rw [if_neg (by simpa using h)]
theorem lok_of (h : chkL l = 0) : LOk l := by
 unfold chkL at h
 split at h
 ·cases h
 ·rename_i h6
  split at h
  ·rename_i ho; unfold long6 at h6; exact ⟨ho, by omega, by omega⟩
  ·cases h
theorem s27 (h1 : l.Rates.length ≤ 1000) (h2 : l.Extras.length ≤ 1000) (h : chkL l = 0) (hn : ps.length ≤ 50) (hx : ∀ p ∈ ps, p.Extras.length ≤ 12) :
    Yes (f27 l ps) fun r => (∃ i, FirstB l ps i ∧ ∃ hi : i < ps.length, r = ([], [], (i : Int), chkP l ps[i])) ∨ (∀ j (hj : j < ps.length), chkP l ps[j] = 0) ∧ r = (weavL ps, (weavL ps).map (totW l ps), 0, 0) := by
  unfold f27
  refine Yes.jn (qbind _ (s15 l h1 h2) (qskip (by simp [h]) (Yes.jn (qskip (by simp; omega) (Yes.jn ?_)))))
  refine Yes.lp (fun s => ∃ i : Nat, s.2.2 = i ∧ i ≤ ps.length ∧ s.1 = [] ∧ (∀ j (hj : j < ps.length), j < i → chkP l ps[j] = 0) ∧ MapOf l (ps.take i) s.2.1) (fun s => ps.length - s.2.2.toNat)
    ⟨0, rfl, Nat.zero_le _, rfl, fun _ _ h => absurd h (Nat.not_lt_zero _), by simp, fun k => by simp [mget_nil, hasW]⟩ (by simp only; omega) ?_
  rintro ⟨a, m, i'⟩ k ⟨i, hi', hile, ha, hok, hm⟩ hk
  simp only at hi' ha hm
  subst hi'; subst ha
  refine Yes.cond (fun hlt => ?_) (fun hlt => ?_)
  · have hi : i < ps.length := by simpa using hlt
    have hxi := hx _ (List.getElem_mem hi)
    refine Yes.jn (Yes.bind (Yes.idx rfl hi (qbind _ (s55g (by omega) h2 h1) (Yes.jn ?_))))
    rw [errW_ok h]
    refine Yes.cond (fun he => Yes.some (.inl ⟨i, ⟨hi, by simpa using he, fun j hj => hok j (by omega) hj⟩, hi, rfl⟩)) (fun he => ?_)
    have he : chkP l ps[i] = 0 := by simpa using he
    have hall : ∀ j (hj : j < ps.length), j < i + 1 → chkP l ps[j] = 0 := fun j hj hji => by
      rcases Nat.lt_succ_iff_lt_or_eq.1 hji with h | rfl
      · exact hok j hj h
      · exact he
    have g : OkPs l (ps.take (i + 1)) := ⟨lok_of h, fun p hp => by
      obtain ⟨j, hj, rfl⟩ := List.getElem_of_mem hp
      rw [List.length_take] at hj
      rw [List.getElem_take]
      exact ⟨chkP_ok (hall j (by omega) (by omega)), hx _ (List.getElem_mem _)⟩, by rw [List.length_take]; omega⟩
    have hit : i < (ps.take (i + 1)).length := by rw [List.length_take]; omega
    obtain ⟨o1, o2, o3, o4, o5⟩ := okp_at g hit
    simp only [List.getElem_take] at o1 o2 o3 o4 o5
    refine qbind _ (s58 g.lok o1 o2 o3) ?_
    have hb := tot_bound g ps[i].Weaver i (by omega)
    rw [List.take_take, Nat.min_eq_left (by omega)] at hb
    have hst := map_step hi hm
    have e : (mget m ps[i].Weaver).getD 0 = totW l (ps.take i) ps[i].Weaver := by
      rw [hm.at_]
      cases hh : hasW (ps.take i) ps[i].Weaver with
      | true => rfl
      | false => rw [tot_none hh]; rfl
    rw [w64_id (n := (i : Int) + 1) (by omega) (by omega), w64_id (n := (mget m ps[i].Weaver).getD 0 + _) (by rw [e]; omega) (by rw [e]; omega)]
    exact hk _ ⟨i + 1, by simp, hi, rfl, hall, hst⟩ (by simp only; omega)
  · have hi : i = ps.length := by have : ¬ i < ps.length := by simpa using hlt
                                  omega
    subst hi
    rw [List.take_length] at hm
    have g : OkPs l ps := ⟨lok_of h, fun p hp => by
      obtain ⟨j, hj, rfl⟩ := List.getElem_of_mem hp
      exact ⟨chkP_ok (hok j hj hj), hx _ hp⟩, by omega⟩
    refine qbind _ (map_keys g hm) ?_
    have hlw : (weavL ps).length ≤ 51 := by unfold weavL; refine Nat.le_trans (List.length_filter_le _ _) ?_; simp [rngI]
    refine Yes.bind (Yes.mono (Q' := fun r => r = (weavL ps).map (totW l ps)) ?_ fun r hr => by rw [hr]; exact Yes.some (.inr ⟨fun j hj => hok j hj hj, rfl⟩))
    refine Yes.upto (weavL ps).length (by omega) (fun j s => s = ((weavL ps).take j).map (totW l ps)) rfl (fun j s k2 hj hI hk2 => ?_) (fun s k2 hI => ?_)
    · refine qtake (by simp; omega) (Yes.bind (Yes.bind (Yes.idx rfl hj (Yes.bind (Yes.apnd (by simp [hI]; omega) (by simp [hI]; omega) (Yes.some (hk2 _ ?_)))))))
      have hmem : (weavL ps)[j] ∈ weavL ps := List.getElem_mem hj
      have hw := (List.mem_filter.1 hmem).2
      rw [List.take_succ_eq_append_getElem hj, List.map_append, hI, hm.at_, hw]; rfl
    · exact qskip (by simp) (Yes.some (by rw [hI, List.take_length]))
end
end Go.Proofs.YtkmbkaoolacofaaGreat
