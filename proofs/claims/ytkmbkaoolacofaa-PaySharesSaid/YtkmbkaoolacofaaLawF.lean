/- Plain laws: shares farthing by farthing; PayShares. -/
import Derived.Test.YtkmbkaoolacofaaLawD
set_option maxRecDepth 8000
namespace Go.Proofs.Ytkmbkaoolacofaa
open Go.RowKit
open Classical

section
variable {key : Int → Int} {n : Nat} {o : List Int}
theorem pos_rank (h : Stab key (rng n) o) (hs : Srt key o) {k : Nat} (hk : k < o.length) : rank key n o[k] = k := by
 have e : o = o.take k ++ o[k] :: o.drop (k + 1) := by simp
 have := ord_rank h hs e
 rw [this, List.length_take]; omega
theorem rank_pos (h : Stab key (rng n) o) (hs : Srt key o) {i : Int} (hi : 0 ≤ i ∧ i < (n : Int)) : ∃ hk : rank key n i < o.length, o[rank key n i] = i := by
 have hm : i ∈ o := (ord_perm h).mem_iff.1 (mem_rng.2 hi)
 obtain ⟨k, hk, rfl⟩ := List.getElem_of_mem hm
 have e := pos_rank h hs hk
 exact ⟨by rw [e]; exact hk, by simp only [e]⟩
end
section
variable {m : Int} {ps : List Int}
noncomputable def outK (m : Int) (ps : List Int) (k : Nat) : List Int := (rng ps.length).map fun i => quoS m ps i + if rank (keyS m ps) ps.length i < k then 1 else 0
noncomputable def restK (m : Int) (ps : List Int) (k : Nat) : List Int := (rng ps.length).map fun i => if rank (keyS m ps) ps.length i < k then -1 else remS m ps i
theorem outK_len (m : Int) (ps : List Int) (k : Nat) : (outK m ps k).length = ps.length := by simp [outK, rng_len]
theorem restK_len (m : Int) (ps : List Int) (k : Nat) : (restK m ps k).length = ps.length := by simp [restK, rng_len]
theorem outK_at {k i : Nat} (h : i < (outK m ps k).length) : (outK m ps k)[i] = quoS m ps i + if rank (keyS m ps) ps.length i < k then 1 else 0 := by simp only [outK, List.getElem_map, rng_get]
theorem restK_at {k i : Nat} (h : i < (restK m ps k).length) : (restK m ps k)[i] = if rank (keyS m ps) ps.length i < k then -1 else remS m ps i := by simp only [restK, List.getElem_map, rng_get]
theorem next_is (g : Good m ps) {k a : Nat} (hk : (k : Int) < leftS m ps) (ha : a < ps.length) (h1 : ∀ j (hj : j < (restK m ps k).length), (restK m ps k)[j] ≤ (restK m ps k)[a]'(by rw [restK_len]; exact ha)) (h2 : ∀ j (hj : j < a), (restK m ps k)[j]'(by rw [restK_len]; omega) < (restK m ps k)[a]'(by rw [restK_len]; exact ha)) : rank (keyS m ps) ps.length (a : Int) = k := by
 obtain ⟨o, _, ho1, ho2⟩ := s22 g
 have hlb := left_bound g
 have hol : o.length = ps.length := by rw [← (ord_perm ho1).length_eq, rng_len]
 have hko : k < o.length := by omega
 have hi := mem_rng.1 ((ord_perm ho1).mem_iff.2 (List.getElem_mem hko))
 have hri := pos_rank ho1 ho2 hko
 obtain ⟨i, hie⟩ : ∃ i : Nat, o[k] = (i : Int) := ⟨o[k].toNat, by omega⟩
 rw [hie] at hi hri
 have hil : i < ps.length := by omega
 have hpos : 0 < remS m ps i := rank_nz g (by omega)
 have h3 := h1 i (by rw [restK_len]; exact hil)
 rw [restK_at, restK_at, hri, if_neg (Nat.lt_irrefl k)] at h3
 by_cases hra : rank (keyS m ps) ps.length (a : Int) < k
 ·rw [if_pos hra] at h3; omega
 rw [if_neg hra] at h3
 by_cases hra2 : rank (keyS m ps) ps.length (a : Int) = k
 ·exact hra2
 exfalso
 obtain ⟨hp, hpe⟩ := rank_pos ho1 ho2 (i := (a : Int)) ⟨by omega, by omega⟩
 have hlt : k < rank (keyS m ps) ps.length (a : Int) := by omega
 have hpr := List.pairwise_iff_getElem.1 (ord_prec ho1 ho2) k _ hko hp hlt
 rw [hpe, hie] at hpr
 unfold prec keyS at hpr
 rcases hpr with h | ⟨h, h4⟩
 ·omega
 ·have h5 := h2 i (by omega)
  rw [restK_at, restK_at, hri, if_neg (Nat.lt_irrefl k), if_neg hra] at h5
  omega
theorem set_is (g : Good m ps) {k a : Nat} (ha : a < ps.length) (h : rank (keyS m ps) ps.length (a : Int) = k) {β : Type} (L1 L2 : List β) (v : β) (l1 : L1.length = ps.length) (l2 : L2.length = ps.length) (hv : L2[a]'(by omega) = v)
  (hs : ∀ i (hi : i < ps.length), (rank (keyS m ps) ps.length (i : Int) < k ↔ rank (keyS m ps) ps.length (i : Int) < k + 1) → L1[i]'(by omega) = L2[i]'(by omega)) : L1.set a v = L2 := by
 obtain ⟨o, _, ho1, ho2⟩ := s22 g
 refine List.ext_getElem (by simp [l1, l2]) fun i h1 h2 => ?_
 rw [List.getElem_set]
 split
 ·rename_i e; subst e; exact hv.symm
 ·rename_i e
  refine hs i (by omega) ?_
  have : rank (keyS m ps) ps.length (i : Int) ≠ k := fun hr => by
   obtain ⟨p1, e1⟩ := rank_pos ho1 ho2 (i := (i : Int)) ⟨by omega, by omega⟩
   obtain ⟨p2, e2⟩ := rank_pos ho1 ho2 (i := (a : Int)) ⟨by omega, by omega⟩
   simp only [hr] at e1
   simp only [h] at e2
   rw [e1] at e2
   omega
  omega
theorem s10 (g : Good m ps) : f10 m ps = some (shareS m ps) := by
 have hl := g.l
 have hsb := g.sum
 have hm0 := g.m0; have hm1 := g.m1
 refine Yes.eq ?_
 unfold f10
 refine Yes.bind (Yes.mono (Q' := fun r => r = ps.sum) ?_ fun r hr => ?_)
 ·refine Yes.upto ps.length (by omega) (fun i s => s = (ps.take i).sum) rfl (fun i s k hi hI hk => ?_) (fun s k hI => ?_)
  ·have hx := g.p _ (List.getElem_mem hi)
   have hb := sum_bound (ps := ps.take i) fun x hx => g.p x (List.mem_of_mem_take hx)
   rw [List.length_take] at hb
   refine Yes.jn (qtake (by simp; omega) (Yes.bind (Yes.bind (Yes.idx rfl hi (Yes.some ?_)))))
   rw [w64_id (n := s + _) (by omega) (by omega)]
   exact hk _ (by rw [sum_take ps hi, hI])
  ·exact Yes.jn (qskip (by simp) (Yes.some (by rw [hI, List.take_length])))
 subst hr
 refine Yes.bind (Yes.mono (Q' := fun r => r = (leftS m ps, (rng ps.length).map (quoS m ps), (rng ps.length).map (remS m ps))) ?_ fun r hr => ?_)
 ·refine Yes.lp (fun s => ∃ i : Nat, s.2.2.2 = i ∧ i ≤ ps.length ∧ s.1 = m - ((rng i).map (quoS m ps)).sum ∧ s.2.1 = (rng i).map (quoS m ps) ∧ s.2.2.1 = (rng i).map (remS m ps)) (fun s => ps.length - s.2.2.2.toNat)
   ⟨0, rfl, Nat.zero_le _, by simp [rng], rfl, rfl⟩ (by simp only; omega) ?_
  rintro ⟨l, xs, ys, i'⟩ k ⟨i, hi, hle, hlft, hx, hy⟩ hk
  simp only at hi hx hlft hy
  subst hi
  refine Yes.jn (Yes.cond (fun h => ?_) (fun h => Yes.some ?_))
  ·have hlt : i < ps.length := by simp at h; omega
   have hat : ps[i] = ps.getD (i : Int).toNat 0 := (getD_in hlt).symm
   have hp := g.prod (i : Int)
   have hq := quo_bound g (i : Int)
   have hsum := sums_bound g i
   have hxl : xs.length = i := by rw [hx]; simp [rng_len]
   have hyl : ys.length = i := by rw [hy]; simp [rng_len]
   refine Yes.bind (Yes.bind (Yes.idx rfl hlt ?_))
   rw [hat, w64_id (n := m * _) (by omega) (by omega)]
   refine qbind (quoS m ps i) (quo_nn hp.1 (by omega) g.s) ?_
   refine Yes.bind (Yes.apnd (by simp; omega) (by simp; omega) (Yes.bind (Yes.idx rfl hlt ?_)))
   rw [hat, w64_id (n := m * _) (by omega) (by omega)]
   refine qbind (remS m ps i) (qrem hp.1 g.s) ?_
   refine Yes.bind (Yes.apnd (by simp; omega) (by simp; omega) (Yes.bind (Yes.idx rfl hlt ?_)))
   rw [hat, w64_id (n := m * _) (by omega) (by omega)]
   refine qbind (quoS m ps i) (quo_nn hp.1 (by omega) g.s) (Yes.some ?_)
   rw [w64_id (n := l - quoS m ps i) (by omega) (by omega), w64_id (n := (i : Int) + 1) (by omega) (by omega)]
   refine hk _ ⟨i + 1, by simp, hlt, ?_, ?_, ?_⟩ (by simp only; omega)
   ·simp only; rw [rng_succ, List.map_append, List.sum_append, hlft]; simp; omega
   ·rw [rng_succ, List.map_append, ← hx]; rfl
   ·rw [rng_succ, List.map_append, ← hy]; rfl
  ·have : i = ps.length := by simp at h; omega
   subst this
   rw [hx, hlft, hy]; rfl
 subst hr
 simp only
 have hlb := left_bound g
 have ho0 : (rng ps.length).map (quoS m ps) = outK m ps 0 := by
  unfold outK; refine List.map_congr_left fun i _ => ?_
  rw [if_neg (Nat.not_lt_zero _)]; omega
 have hr0 : (rng ps.length).map (remS m ps) = restK m ps 0 := by
  unfold restK; refine List.map_congr_left fun i _ => ?_
  rw [if_neg (Nat.not_lt_zero _)]
 rw [ho0, hr0]
 refine Yes.bind (Yes.mono (Q' := fun r => r = shareS m ps) ?_ fun r hr => by rw [hr]; exact Yes.some rfl)
 refine Yes.upto2 (leftS m ps).toNat (by omega) (fun k out rest => out = outK m ps k ∧ rest = restK m ps k) ⟨rfl, rfl⟩ (fun k out rest c hk hI hc => ?_) (fun out rest c hI => ?_)
 ·obtain ⟨rfl, rfl⟩ := hI
  have hn : 0 < ps.length := by omega
  have hrl := restK_len m ps k
  have hol := outK_len m ps k
  refine Yes.jn (qtake (decide_eq_true (by simp only; omega)) (Yes.bind (Yes.bind (Yes.mono (Q' := fun r => ∃ a : Nat, r = (a : Int) ∧ ∃ ha : a < ps.length, rank (keyS m ps) ps.length (a : Int) = k) ?_ ?_))))
  ·refine Yes.lp (fun s => ∃ a i : Nat, s.1 = a ∧ s.2 = i ∧ i ≤ ps.length ∧ ∃ (ha : a < ps.length), a < i ∧ (∀ j (hj : j < (restK m ps k).length), j < i → (restK m ps k)[j] ≤ (restK m ps k)[a]'(by omega)) ∧ ∀ j (hj : j < a), (restK m ps k)[j]'(by omega) < (restK m ps k)[a]'(by omega)) (fun s => ps.length - s.2.toNat)
    ⟨0, 1, rfl, rfl, hn, hn, Nat.zero_lt_one, fun j _ hj => by
     have : j = 0 := by omega
     subst this; exact Int.le_refl _, fun j hj => absurd hj (Nat.not_lt_zero _)⟩ (by simp only; omega) ?_
   rintro ⟨a', i'⟩ c2 ⟨a, i, ha', hi', hile, ha, hai, h1, h2⟩ hc2
   simp only at ha' hi'
   subst ha'; subst hi'
   refine Yes.jn (Yes.cond (fun h => ?_) (fun h => ?_))
   ·have hi : i < ps.length := by simp at h; omega
    refine Yes.bind (Yes.bind (Yes.idx rfl (by simp only; omega) (Yes.bind (Yes.idx rfl (by simp only; omega) (Yes.cond (fun h3 => Yes.some ?_) (fun h3 => Yes.some ?_))))))
    ·have h3 : (restK m ps k)[a] < (restK m ps k)[i] := by simpa using h3
     rw [w64_id (n := (i : Int) + 1) (by omega) (by omega)]
     refine hc2 _ ⟨i, i + 1, rfl, by simp, by omega, hi, by omega, fun j hj hji => ?_, fun j hj => ?_⟩ (by simp only; omega)
     ·rcases Nat.lt_succ_iff_lt_or_eq.1 hji with h | rfl
      ·have := h1 j hj h; omega
      ·exact Int.le_refl _
     ·have := h1 j (by omega) hj; omega
    ·have h3 : (restK m ps k)[i] ≤ (restK m ps k)[a] := by simpa using h3
     rw [w64_id (n := (i : Int) + 1) (by omega) (by omega)]
     refine hc2 _ ⟨a, i + 1, rfl, by simp, by omega, ha, by omega, fun j hj hji => ?_, h2⟩ (by simp only; omega)
     rcases Nat.lt_succ_iff_lt_or_eq.1 hji with h | rfl
     ·exact h1 j hj h
     ·exact h3
   ·have hi : i = ps.length := by simp at h; omega
    subst hi
    exact Yes.some ⟨a, rfl, ha, next_is g (by omega) ha (fun j hj => h1 j hj (by omega)) h2⟩
  ·rintro _ ⟨a, rfl, ha, hr⟩
   refine Yes.bind (Yes.idx rfl (by simp only; omega) (Yes.bind (Yes.idx rfl (by simp only; omega) (Yes.bind (Yes.idx rfl (by simp only; omega) (Yes.some ?_))))))
   have hq := quo_bound g (a : Int)
   rw [outK_at, hr, if_neg (Nat.lt_irrefl k), w64_id (n := quoS m ps a + 0 + 1) (by omega) (by omega), Int.toNat_natCast]
   refine hc _ _ ⟨set_is g ha hr _ _ _ hol (outK_len m ps (k + 1)) ?_ fun i hi he => ?_, set_is g ha hr _ _ _ hrl (restK_len m ps (k + 1)) ?_ fun i hi he => ?_⟩
   ·rw [outK_at, hr, if_pos (Nat.lt_succ_self k)]; omega
   ·rw [outK_at, outK_at]; simp only [he]
   ·rw [restK_at, hr, if_pos (Nat.lt_succ_self k)]
   ·rw [restK_at, restK_at]; simp only [he]
 ·obtain ⟨rfl, rfl⟩ := hI
  exact Yes.jn (qskip (decide_eq_false (by simp only; omega)) (Yes.some rfl))
end
theorem s8r (a : List Int) (hl : a.length < 9223372036854775807) : f8 a a = some true := by
 refine Yes.eq ?_
 unfold f8
 refine Yes.jn (qskip (by simp) (Yes.jn (Yes.upto0 a.length hl (fun _ => True) trivial (fun i k hi _ hk => ?_) (fun k _ => ?_))))
 ·exact Yes.jn (qtake (by simp; omega) (Yes.jn (Yes.bind (Yes.idx rfl hi (Yes.bind (Yes.idx rfl hi (qskip (by simp) (hk trivial))))))))
 ·exact Yes.jn (qskip (by simp) (Yes.some rfl))
def errS (m : Int) (ps : List Int) : Int := bif btw 0 1000000000 m then bif decide (ps.length ≤ 10) then bif ps.all (btw 0 1000) then bif decide (ps.sum = 0) then 2 else 0 else 2 else 5 else 3
theorem s7e {m : Int} {ps : List Int} (hl : ps.length ≤ 15) (he : errS m ps ≠ 0) : f7 m ps = some ([], errS m ps) := by
 refine Yes.eq ?_
 unfold f7
 refine Yes.bind (Yes.mono (Q' := fun r => ps.all (btw 0 1000) = true → r = ps.sum) ?_ fun r hr => ?_)
 ·refine Yes.upto ps.length (by omega) (fun i s => 0 ≤ s ∧ s ≤ 1000 * i ∧ (ps.all (btw 0 1000) = true → s = (ps.take i).sum)) ⟨by omega, by omega, fun _ => rfl⟩ (fun i s k hi hI hk => ?_) (fun s k hI => ?_)
  ·obtain ⟨h1, h2, h3⟩ := hI
   refine qtake (by simp; omega) (Yes.bind (Yes.bind (Yes.idx rfl hi (Yes.some ?_))))
   rw [min64_eq, max64_eq, w64_id (n := s + _) (by omega) (by omega)]
   refine hk _ ⟨by omega, by omega, fun ha => ?_⟩
   have hx := btw_iff.1 (List.all_eq_true.1 ha _ (List.getElem_mem hi))
   rw [sum_take ps hi, ← h3 ha]; omega
  ·exact qskip (by simp) (Yes.some fun ha => by rw [hI.2.2 ha, List.take_length])
 refine Yes.jn ?_
 rw [s21 _ _ _ (by simp), s21 _ _ _ (by omega)]
 have h1 : ([m] : List Int).all (btw 0 1000000000) = btw 0 1000000000 m := by simp
 rw [h1]
 unfold errS at he ⊢
 refine Yes.bind (Yes.some (Yes.cond (fun h => ?_) (fun h => ?_)))
 ·have : btw 0 1000000000 m = false := by simpa using h
  rw [this]; exact Yes.some rfl
 have hb : btw 0 1000000000 m = true := by simpa using h
 rw [hb, cond_true] at he ⊢
 refine Yes.cond (fun h => ?_) (fun h => ?_)
 ·have h : ¬ ps.length ≤ 10 := by simp at h; omega
  rw [decide_eq_false h, cond_false]; exact Yes.some rfl
 have h : ps.length ≤ 10 := by simp at h; omega
 rw [decide_eq_true h, cond_true] at he ⊢
 refine Yes.bind (Yes.bind (Yes.some ?_))
 cases ha : ps.all (btw 0 1000) with
 | false => rw [ha, cond_false] at he; exact Yes.some (Yes.some rfl)
 | true =>
  rw [ha, cond_true] at he
  rw [cond_true]
  refine qskip rfl (Yes.some ?_)
  rw [hr ha]
  by_cases h0 : ps.sum = 0
  ·rw [decide_eq_true h0]; exact qtake (by simp [h0]) (Yes.some rfl)
  ·rw [decide_eq_false h0] at he; exact absurd rfl he
theorem good_of {m : Int} {ps : List Int} (he : errS m ps = 0) : Good m ps := by
 unfold errS at he
 cases hb : btw 0 1000000000 m with
 | false => rw [hb] at he; cases he
 | true =>
 rw [hb, cond_true] at he
 by_cases h : ps.length ≤ 10
 ·rw [decide_eq_true h, cond_true] at he
  cases ha : ps.all (btw 0 1000) with
  | false => rw [ha] at he; cases he
  | true =>
  rw [ha, cond_true] at he
  by_cases h0 : ps.sum = 0
  ·rw [decide_eq_true h0] at he; cases he
  ·have hp : ∀ x ∈ ps, 0 ≤ x ∧ x ≤ 1000 := fun x hx => btw_iff.1 (List.all_eq_true.1 ha x hx)
   have := sum_bound hp
   exact ⟨(btw_iff.1 hb).1, (btw_iff.1 hb).2, h, hp, by omega⟩
 ·rw [decide_eq_false h] at he; cases he
theorem s3 (m : Int) (ps : List Int) : f3 m ps = some true := by
  refine Yes.eq ?_
  unfold f3
  refine Yes.jn (Yes.cond (fun _ => qbind _ known_ok (Yes.some rfl)) (fun h => ?_))
  have hl : ps.length ≤ 15 := by simp at h; omega
  have hkn : Yes ((f5).bind fun y => some y) (fun r => r = true) := qbind _ known_ok (Yes.some rfl)
  refine Yes.jn (qbind _ (s6 ps (by omega)) ?_)
  have hsh : ∃ r, f7 m ps = some r ∧ r.2 = errS m ps ∧ (errS m ps ≠ 0 → r.1 = []) ∧ (errS m ps = 0 → r.1 = shareS m ps) := by
    by_cases he : errS m ps = 0
    · exact ⟨_, s7 (good_of he), he.symm, fun h => absurd he h, fun _ => rfl⟩
    · exact ⟨_, s7e hl he, rfl, fun _ => rfl, fun h => absurd h he⟩
  obtain ⟨r, hr, hr2, hr1, hr0⟩ := hsh
  refine qbind _ hr (Yes.jn (qbind _ (s8r ps (by omega)) (qskip rfl ?_)))
  have hw : ∀ r' : Int, r' = errS m ps → Yes (Option.bind (α := Bool) (
          bif (r.2 == (0 : Int)) then
            (f10 m ps).bind fun y135 =>
            (f8 (r.1) y135).bind fun y137 =>
            bif y137 then
              (f5).bind fun y140 =>
              some (y140)
            else
              some (false)
          else
            some (false)
          ) fun s4_141 => some (s4_141)) (fun r => r = true) ∨ errS m ps ≠ 0 := fun r' h => by
    by_cases he : errS m ps = 0
    · left
      refine Yes.bind (qtake (by rw [hr2, he]; rfl) (qbind _ (s10 (good_of he)) ?_))
      rw [hr0 he]
      exact qbind _ (s8r _ (by rw [share_len]; omega)) (qtake rfl (qbind _ known_ok (Yes.some (Yes.some rfl))))
    · exact .inr he
  -- the errors in turn
  refine Yes.bind (Yes.mono (Q' := fun r => r = (bif btw 0 1000000000 m then bif decide (ps.length ≤ 10) then 0 else 5 else 3 : Int)) ?_ fun e0 he0 => ?_)
  · refine qbind _ (s9 m 0 1000000000) ?_
    cases hb : btw 0 1000000000 m with
    | false => exact Yes.some rfl
    | true =>
      refine Yes.cond (fun h => absurd h (by simp)) (fun _ => Yes.cond (fun h => Yes.some ?_) (fun h => Yes.some ?_))
      · have h : ¬ ps.length ≤ 10 := by simp at h; omega
        rw [decide_eq_false h]; rfl
      · have h : ps.length ≤ 10 := by simp at h; omega
        rw [decide_eq_true h]; rfl
  have hall : ∀ i, i ≤ ps.length → (ps.take i).all (btw 0 1000) = true → 0 ≤ (ps.take i).sum ∧ (ps.take i).sum ≤ 15000 := fun i hi ha => by
    have := sum_bound (ps := ps.take i) fun x hx => btw_iff.1 (List.all_eq_true.1 ha x hx)
    rw [List.length_take] at this; omega
  refine Yes.bind (Yes.mono (Q' := fun r => (e0 ≠ 0 → r.1 = e0) ∧ (e0 = 0 → (ps.all (btw 0 1000) = true → r = (0, ps.sum)) ∧ (ps.all (btw 0 1000) = false → r.1 = 2))) ?_ ?_)
  · refine Yes.lp (fun s => ∃ i : Nat, s.2.2 = i ∧ i ≤ ps.length ∧ (e0 ≠ 0 → s.1 = e0) ∧ (e0 = 0 → ((ps.take i).all (btw 0 1000) = true ∧ s.1 = 0 ∧ s.2.1 = (ps.take i).sum) ∨ (ps.all (btw 0 1000) = false ∧ s.1 = 2))) (fun s => ps.length - s.2.2.toNat)
      ⟨0, rfl, Nat.zero_le _, fun _ => rfl, fun h => .inl ⟨rfl, h, rfl⟩⟩ (by simp only; omega) ?_
    rintro ⟨e, sum, i'⟩ k ⟨i, hi, hile, h1, h2⟩ hk
    simp only at hi h1 h2
    subst hi
    refine Yes.jn (Yes.bind (Yes.cond (fun h => Yes.some ?_) (fun h => Yes.some (qskip rfl (Yes.some ⟨h1, fun h0 => ?_⟩)))))
    · have hlt : i < ps.length := by simp at h; omega
      refine Yes.cond (fun hz => ?_) (fun hz => Yes.some ⟨h1, fun h0 => ?_⟩)
      · have hz : e = 0 := by simpa using hz
        by_cases h0 : e0 = 0
        · rcases h2 h0 with ⟨h3, _, h4⟩ | ⟨_, h3⟩
          · refine Yes.bind (Yes.bind (Yes.idx rfl hlt (qbind _ (s9 _ 0 1000) (Yes.cond (fun hn => Yes.some ?_) (fun hn => Yes.bind (Yes.idx rfl hlt (Yes.some ?_)))))))
            · rw [w64_id (n := (i : Int) + 1) (by omega) (by omega)]
              refine hk _ ⟨i + 1, by simp, hlt, fun h => absurd h0 h, fun _ => .inr ⟨?_, rfl⟩⟩ (by simp only; omega)
              have hn : btw 0 1000 ps[i] = false := by simpa using hn
              exact List.all_eq_false.2 ⟨_, List.getElem_mem hlt, by simp [hn]⟩
            · have hn : btw 0 1000 ps[i] = true := by simpa using hn
              have hb := hall i hile h3
              have hbi := btw_iff.1 hn
              rw [w64_id (n := (i : Int) + 1) (by omega) (by omega), w64_id (n := sum + _) (by omega) (by omega)]
              refine hk _ ⟨i + 1, by simp, hlt, fun h => absurd h0 h, fun _ => .inl ⟨?_, hz, ?_⟩⟩ (by simp only; omega)
              · rw [List.take_succ_eq_append_getElem hlt, List.all_append, h3]; simp [hn]
              · simp only; rw [sum_take ps hlt, h4]
          · omega
        · have := h1 h0; omega
      · have hz : e ≠ 0 := by simpa using hz
        rcases h2 h0 with ⟨_, h3, _⟩ | ⟨h3, h4⟩
        · exact absurd h3 hz
        · exact ⟨fun h => absurd (h3.symm.trans h) (by decide), fun _ => h4⟩
    · have hi : i = ps.length := by simp at h; omega
      subst hi
      rw [List.take_length] at h2
      rcases h2 h0 with ⟨h3, h4, h5⟩ | ⟨h3, h4⟩
      · exact ⟨fun _ => by rw [h4, h5], fun h => by rw [h3] at h; cases h⟩
      · exact ⟨fun h => absurd (h3.symm.trans h) (by decide), fun _ => h4⟩
  rintro ⟨e1, sum⟩ ⟨h1, h2⟩
  simp only at h1 h2
  refine Yes.bind (Yes.mono (Q' := fun r => r = errS m ps) ?_ fun w hw' => ?_)
  · have key : e1 ≠ 0 → e1 = errS m ps := fun hne => by
      unfold errS
      cases hb : btw 0 1000000000 m with
      | false => rw [hb] at he0; exact (h1 (by rw [he0]; simp)).trans he0
      | true =>
      rw [hb, cond_true] at he0
      rw [cond_true]
      by_cases h : ps.length ≤ 10
      · rw [decide_eq_true h, cond_true] at he0
        rw [decide_eq_true h, cond_true]
        cases ha : ps.all (btw 0 1000) with
        | true => have := (h2 he0).1 ha; rw [Prod.mk.injEq] at this; exact absurd this.1 hne
        | false => exact (h2 he0).2 ha
      · rw [decide_eq_false h, cond_false] at he0
        rw [decide_eq_false h, cond_false]
        exact (h1 (by rw [he0]; simp)).trans he0
    have key0 : e1 = 0 → errS m ps = (bif decide (sum = 0) then 2 else 0 : Int) := fun hz => by
      unfold errS
      cases hb : btw 0 1000000000 m with
      | false => rw [hb] at he0; have := h1 (by rw [he0]; simp); rw [he0, hz] at this; cases this
      | true =>
      rw [hb, cond_true] at he0
      rw [cond_true]
      by_cases h : ps.length ≤ 10
      · rw [decide_eq_true h, cond_true] at he0
        rw [decide_eq_true h, cond_true]
        cases ha : ps.all (btw 0 1000) with
        | true => have := (h2 he0).1 ha; rw [Prod.mk.injEq] at this; rw [this.2]; rfl
        | false => have := (h2 he0).2 ha; rw [hz] at this; cases this
      · rw [decide_eq_false h, cond_false] at he0
        have := h1 (by rw [he0]; simp); rw [he0, hz] at this; cases this
    refine Yes.bind (Yes.cond (fun hz => Yes.some ?_) (fun hz => Yes.some (qskip rfl (Yes.some ?_))))
    · have hz : e1 = 0 := by simpa using hz
      rw [key0 hz]
      refine Yes.cond (fun hs => Yes.some ?_) (fun hs => Yes.some ?_)
      · have hs : sum = 0 := by simpa using hs
        rw [decide_eq_true hs]; rfl
      · have hs : ¬ sum = 0 := by simpa using hs
        rw [decide_eq_false hs]; exact hz
    · exact key (by simpa using hz)
  subst hw'
  refine Yes.jn (Yes.cond (fun hne => ?_) (fun hz => ?_))
  · have hne : errS m ps ≠ 0 := by simpa using hne
    refine Yes.bind (qtake (by rw [hr2]; simp) (qtake (by rw [hr1 hne]; rfl) (qbind _ known_ok (Yes.some (Yes.some rfl)))))
  · have hz : errS m ps = 0 := by simpa using hz
    rcases hw _ rfl with h | h
    · exact h
    · exact absurd hz h
end Go.Proofs.Ytkmbkaoolacofaa
