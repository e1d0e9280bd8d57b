/- Runs pushed behind a stop, day by day: the reference; LoomPushes. -/
import Derived.Test.YtnfjhdagbknlbaaLawR
set_option maxRecDepth 8000
namespace Go.Proofs.Ytnfjhdagbknlbaa
open Go.RowKit
open Classical

/-- The next run of a row, among those that are not done. -/
theorem sel_is {r : List LoomRun} {A : List Nat} (hpw : A.Pairwise fun a b => bef (rn r a) (rn r b)) {k n : Nat} (hn : n ∈ A.drop k) (h : ∀ j ∈ A.drop k, ¬ bef (rn r j) (rn r n)) : ∃ hk : k < A.length, A[k] = n := by
  have hk : k < A.length := by
    rcases Nat.lt_or_ge k A.length with h | h
    · exact h
    · rw [List.drop_eq_nil_of_le h] at hn; cases hn
  refine ⟨hk, ?_⟩
  have hd := hpw.sublist (List.drop_sublist k A)
  rw [List.drop_eq_getElem_cons hk] at hn hd
  rcases List.mem_cons.1 hn with h1 | h1
  · exact h1.symm
  · exact absurd ((List.pairwise_cons.1 hd).1 n h1) (h _ (by rw [List.drop_eq_getElem_cons hk]; exact List.mem_cons_self ..))
theorem mem_td {A : List Nat} (hd : A.Nodup) {k n : Nat} : n ∈ A.drop k ↔ n ∈ A ∧ n ∉ A.take k := by
  have h1 : A.take k ++ A.drop k = A := List.take_append_drop k A
  have h2 : (A.take k ++ A.drop k).Nodup := by rw [h1]; exact hd
  have h3 := (List.nodup_append.1 h2).2.2
  constructor
  · intro h
    refine ⟨List.mem_of_mem_drop h, fun ht => h3 n ht n h rfl⟩
  · rintro ⟨h4, h5⟩
    rw [← h1] at h4
    rcases List.mem_append.1 h4 with h | h
    · exact absurd h h5
    · exact h
theorem cf_set : ∀ (xs : List Bool) (i : Nat), i < xs.length → xs.getD i false = false → (xs.set i true).count false < xs.count false
  | x :: xs, 0, _, h => by
    have : x = false := by simpa using h
    subst this
    simp
  | x :: xs, i + 1, hi, h => by
    have := cf_set xs i (by simpa using hi) (by simpa using h)
    rw [List.set_cons_succ, List.count_cons, List.count_cons]
    omega
theorem cond_nf {α : Type} {c : Bool} {a b : α} (h : c = false) : (bif c then a else b) = b := by rw [h]; rfl
/-- Whether a run must wait for another day. -/
theorem wait_iff {m : LoomMill} {l : List LoomOrder} (g : Good m l) {st : LoomStop} (hs : 0 ≤ st.Days.Low ∧ st.Days.Low ≤ st.Days.High ∧ st.Days.High ≤ 300) {r : List LoomRun} {i : Nat} {last : Option Nat} {d : Int} (h1 : (rn r i).From ≤ d) (h2 : d ≤ pushF m l st last r i) (ho : 0 ≤ (rn r i).Order ∧ (rn r i).Order < l.length) :
    ((∃ j, last = some j ∧ d < freeR m l (rn r j) (rn r i).Order) ∨ meets l st { rn r i with From := d }) ↔ d < pushF m l st last r i := by
  have hw := (g.o _ (od_mem ho.1 ho.2)).2.2.1
  have e : ∀ d, endR l { rn r i with From := d } = d + (od l (rn r i).Order).Woven := fun _ => rfl
  have hd : ∀ d, meets l st { rn r i with From := d } ↔ d ≤ st.Days.High ∧ d + (od l (rn r i).Order).Woven > st.Days.Low := fun d => by unfold meets; rw [e]
  have h3 : (∃ j, last = some j ∧ d < freeR m l (rn r j) (rn r i).Order) ↔ d < day1 m l last r i := by
    unfold day1
    cases last with
    | none => simp only; constructor
              · rintro ⟨j, h, _⟩; cases h
              · intro h; omega
    | some j =>
      simp only [max_is]
      constructor
      · rintro ⟨j', h, h2⟩; cases h; omega
      · intro h; exact ⟨j, rfl, by omega⟩
  rw [h3, hd]
  unfold pushF at h2 ⊢
  by_cases hm : meets l st { rn r i with From := day1 m l last r i }
  · rw [if_pos hm] at h2 ⊢
    rw [hd] at hm
    omega
  · rw [if_neg hm] at h2 ⊢
    rw [hd] at hm
    constructor
    · rintro (h | ⟨h4, h5⟩)
      · exact h
      · by_cases hlt : d < day1 m l last r i
        · exact hlt
        · have : d = day1 m l last r i := by omega
          subst this; exact absurd ⟨h4, h5⟩ hm
    · exact fun h => .inl h
theorem s38 {m : LoomMill} {l : List LoomOrder} {r : List LoomRun} {st : LoomStop} {A : List Nat} (g : Good m l) (R : Runs m l r) (hs : 0 ≤ st.Days.Low ∧ st.Days.Low ≤ st.Days.High ∧ st.Days.High ≤ 300) (hA : ∀ n, n ∈ A ↔ n < r.length ∧ (rn r n).Loom = st.Loom) (hpw : A.Pairwise fun a b => bef (rn r a) (rn r b)) (hA7 : A.length ≤ 7) (wA : W r (pushL m l st none A r) 2000) :
    f38 m l r st = some ((pushV l (pushL m l st none A r)).1, (pushV l (pushL m l st none A r)).2.1, decide ((pushV l (pushL m l st none A r)).2.2 = 0)) := by
  have hr := R.r7
  have hnd : A.Nodup := hpw.imp fun {a b} h e => by subst e; exact bef_irr h
  refine Yes.eq ?_
  unfold f38
  rw [apnd24 (by omega)]
  have hmk : mks 1 (false : Bool) (r.length : Int) = some (List.replicate r.length false) := by
    unfold mks
    rw [if_pos (by omega)]; simp
  refine Yes.bind (Yes.some (Yes.bind (Yes.of hmk (Yes.bind ?_))))
  refine Yes.lp (fun s => ∃ k : Nat, k ≤ A.length ∧ (∃ last : Option Nat, s.2.2 = lastI last ∧ (∀ j, last = some j → j < r.length ∧ j ∈ A.take k) ∧ pushL m l st last (A.drop k) s.1 = pushL m l st none A r ∧ W r s.1 (301 + 120 * k)) ∧ s.2.1.length = r.length ∧ ∀ i, i < r.length → s.2.1.getD i false = decide (i ∈ A.take k))
    (fun s => s.2.1.count false) ⟨0, by omega, ⟨none, rfl, (fun j h => by cases h), rfl, by simpa using W.start R⟩, by simp, fun i hi => by simp [hi]⟩ (by have := List.count_le_length (a := false) (l := List.replicate r.length false); simp only [List.length_replicate] at this; simp only; omega) ?_
  rintro ⟨r1, fl, s14⟩ K ⟨k, hkA, ⟨last, h14, hl, hpu, w⟩, hfl, hfv⟩ hK
  simp only at h14 hpu w hfl hfv hK
  subst h14
  have w2 := w.len
  refine Yes.bind ?_
  refine Yes.lp (fun s => ∃ q : Nat, s.2 = q ∧ q ≤ r.length ∧ ((s.1 = -1 ∧ ∀ j, j < q → j ∉ A.drop k) ∨ ∃ n : Nat, s.1 = n ∧ n < r.length ∧ n ∈ A.drop k ∧ ∀ j, j < q → j ∈ A.drop k → ¬ bef (rn r j) (rn r n))) (fun s => r.length - s.2.toNat) ⟨0, rfl, by omega, .inl ⟨rfl, by omega⟩⟩ (by simp; omega) ?_
  rintro ⟨s, j⟩ K2 ⟨q, hq, hq7, hI⟩ hK2
  simp only at hq hI hK2
  subst hq
  refine Yes.jn (Yes.cond (fun h => ?_) (fun h => Yes.some ?_))
  · have hq : q < r.length := by simp at h; omega
    refine Yes.bind (Yes.bindv (decide (q ∈ A.drop k ∧ (s = -1 ∨ bef (rn r q) (rn r s.toNat)))) ?_ ?_)
    · rw [idx_at (show q < fl.length by omega), Option.bind_some]
      have hv : fl[q]'(by omega) = decide (q ∈ A.take k) := by rw [← hfv q hq]; simp [show q < fl.length by omega]
      rw [hv]
      have htd := mem_td hnd (k := k) (n := q)
      by_cases ht : q ∈ A.take k
      · have : ¬ q ∈ A.drop k := fun h => (htd.1 h).2 ht
        simp [ht, this]
      · rw [decide_eq_false ht, idx_rn hq]
        simp only [Bool.not_false, cond_true, Option.bind_some]
        by_cases hlm : (rn r q).Loom = st.Loom
        · have hqd : q ∈ A.drop k := htd.2 ⟨(hA q).2 ⟨hq, hlm⟩, ht⟩
          have e1 : ((rn r q).Loom == st.Loom) = true := by simp [hlm]
          rw [e1, cond_true]
          rcases hI with ⟨rfl, _⟩ | ⟨n, rfl, hn, _, _⟩
          · simp [hqd]
          · have h0 : decide ((n : Int) < 0) = false := by simp
            have h1 : ¬ ((n : Int) = -1) := by omega
            rw [h0, idx_rn hn]
            simp only [cond_false, Option.bind_some, s76]
            simp [hqd, h1]
        · have hqd : ¬ q ∈ A.drop k := fun h => hlm ((hA q).1 (htd.1 h).1).2
          have e1 : ((rn r q).Loom == st.Loom) = false := by simp [hlm]
          simp [e1, hqd]
    · refine Yes.cond (fun hc => Yes.some (hK2 _ ?_ ?_)) (fun hc => Yes.some (hK2 _ ?_ ?_))
      · obtain ⟨hp, hs⟩ := of_decide_eq_true hc
        refine ⟨q + 1, by rw [w64_succ (by omega)], by omega, .inr ⟨q, rfl, hq, hp, fun j hj hpj hb => ?_⟩⟩
        rcases Nat.lt_succ_iff_lt_or_eq.1 hj with h3 | rfl
        · rcases hI with ⟨_, h2⟩ | ⟨n, rfl, hn, _, h2⟩
          · exact h2 j h3 hpj
          · rcases hs with hs | hs
            · omega
            · exact h2 j h3 hpj (bef_trans hb (by simpa using hs))
        · exact bef_irr hb
      · simp only [w64_succ (show q < 4611686018427387904 by omega)]; simp; omega
      · have hc := of_decide_eq_false hc
        refine ⟨q + 1, by rw [w64_succ (by omega)], by omega, ?_⟩
        rcases hI with ⟨rfl, h2⟩ | ⟨n, rfl, hn, hpn, h2⟩
        · refine .inl ⟨rfl, fun j hj hpj => ?_⟩
          rcases Nat.lt_succ_iff_lt_or_eq.1 hj with h3 | rfl
          · exact h2 j h3 hpj
          · exact hc ⟨hpj, .inl rfl⟩
        · refine .inr ⟨n, rfl, hn, hpn, fun j hj hpj hb => ?_⟩
          rcases Nat.lt_succ_iff_lt_or_eq.1 hj with h3 | rfl
          · exact h2 j h3 hpj hb
          · exact hc ⟨hpj, .inr (by simpa using hb)⟩
      · simp only [w64_succ (show q < 4611686018427387904 by omega)]; simp; omega
  · have hq : q = r.length := by simp at h; omega
    subst hq
    refine Yes.jn ?_
    rcases hI with ⟨rfl, h2⟩ | ⟨n, rfl, hn, hnd2, h2⟩
    · refine Yes.cond (fun _ => Yes.some ?_) (fun h => by simp at h)
      have hk : k = A.length := by
        rcases Nat.lt_or_ge k A.length with h3 | h3
        · have hm : A[k] ∈ A.drop k := by rw [List.drop_eq_getElem_cons h3]; exact List.mem_cons_self ..
          exact absurd hm (h2 _ ((hA _).1 (List.getElem_mem h3)).1)
        · omega
      rw [hk, List.drop_length, pushL] at hpu
      rw [← hpu] at wA ⊢
      unfold pushV
      refine Yes.jn ?_
      by_cases hfar : ∃ i, i < r1.length ∧ (rn r1 i).From > 300
      · rw [if_pos hfar]
        refine Yes.upto r1.length (by omega) (fun i s => s.length ≤ i ∧ ∀ j, j < i → (rn r1 j).From ≤ 300) ⟨Nat.le_refl _, fun j h => absurd h (Nat.not_lt_zero _)⟩ (fun i s k hi hI hk => ?_) (fun s k hI => ?_)
        · have h1 : decide ((i : Int) < (r1.length : Int)) = true := by simp; omega
          refine Yes.jn (Yes.cond (fun _ => Yes.jn (Yes.jn ?_)) (fun h => by rw [h1] at h; cases h))
          have hx := wA.inB R (by omega) (show i < r.length by omega)
          have hb := endB g hx
          have hx2 := hx.2.2
          rw [idx_rn hi, Option.bind_some]
          refine Yes.cond (fun _ => Yes.some rfl) (fun hc => ?_)
          have hc := of_decide_eq_false hc
          have hsl := hI.1
          simp only [Option.bind_some, idx_od hx.1.1 hx.1.2, apnd1 rfl (show s.length ≤ 1000 by omega)]
          refine Yes.cond (fun _ => ?_) (fun _ => hk _ ⟨by omega, fun j hj => ?_⟩)
          · refine hk _ ⟨by simp; omega, fun j hj => ?_⟩
            rcases Nat.lt_succ_iff_lt_or_eq.1 hj with h3 | rfl
            · exact hI.2 j h3
            · omega
          · rcases Nat.lt_succ_iff_lt_or_eq.1 hj with h3 | rfl
            · exact hI.2 j h3
            · omega
        · obtain ⟨i, hi, hf⟩ := hfar
          have := hI.2 i hi
          omega
      · rw [if_neg hfar]
        refine coll_loop r1.length (by omega) (fun i => decide (endR l (rn r1 i) > (od l (rn r1 i).Order).Late)) (fun i => (rn r1 i).Order) (fun k i s hi hsl => ?_) (fun k => ?_)
        · have h1 : decide ((i : Int) < (r1.length : Int)) = true := by simp; omega
          have hx := wA.inB R (by omega) (show i < r.length by omega)
          have hb := endB g hx
          have hx2 := hx.2.2
          have h3 : decide ((rn r1 i).From > 300) = false := by
            rw [decide_eq_false]; exact fun h => hfar ⟨i, hi, h⟩
          have hen : w64 ((rn r1 i).From + (od l (rn r1 i).Order).Woven) = endR l (rn r1 i) := w64_id (by have : endR l (rn r1 i) = (rn r1 i).From + (od l (rn r1 i).Order).Woven := rfl; omega) (by have : endR l (rn r1 i) = (rn r1 i).From + (od l (rn r1 i).Order).Woven := rfl; omega)
          refine (cond_tt h1).trans ?_
          simp only [jn, idx_rn hi, Option.bind_some, h3, cond_false, idx_od hx.1.1 hx.1.2, hen, apnd1 rfl (show s.length ≤ 1000 by omega)]
          cases decide (endR l (rn r1 i) > (od l (rn r1 i).Order).Late) <;> rfl
        · have h1 : decide ((r1.length : Int) < (r1.length : Int)) = false := by simp
          exact Yes.jn (Yes.cond (fun h => by rw [h1] at h; cases h) (fun _ => Yes.some rfl))
    · refine Yes.cond (fun h => by simp at h; omega) (fun _ => ?_)
      obtain ⟨hkA, hnk⟩ := sel_is hpw hnd2 (fun j hj => h2 j ((hA j).1 (List.mem_of_mem_drop hj)).1 hj)
      have m0 := (hA n).1 (List.mem_of_mem_drop hnd2)
      have hb : (301 + 120 * (k : Int)) ≤ 1000000 := by omega
      have hx := w.inB R hb m0.1
      have hnr : n < r1.length := by omega
      have hl1 : ∀ j, last = some j → j < r.length := fun j h => (hl j h).1
      have hln : ∀ j, last = some j → j ≠ n := fun j h e => ((mem_td hnd).1 hnd2).2 (e ▸ (hl j h).2)
      rw [List.drop_eq_getElem_cons hkA, pushL, hnk] at hpu
      have hd := day1_bound g R w hb m0.1 hl1
      have hpb := push_bound g hs R w (by omega) hb m0.1 hl1
      have hle : (rn r1 n).From ≤ pushF m l st last r1 n := by
        unfold pushF
        split
        · rename_i hm
          have := hm.1
          simp only at this
          omega
        · exact hd.1
      have hloom : (rn r1 n).Loom = st.Loom := ((w.ord n m0.1).2.1).trans m0.2
      rw [idx_at (show n < fl.length by omega), Option.bind_some]
      refine Yes.bind ?_
      refine Yes.lp (fun s => ∃ d, s = r1.set n { rn r1 n with From := d } ∧ (rn r1 n).From ≤ d ∧ d ≤ pushF m l st last r1 n) (fun s => (pushF m l st last r1 n - (rn s n).From).toNat) ⟨(rn r1 n).From, (set_rn hnr).symm, by omega, hle⟩ (by have := hx.2.2.1; omega) ?_
      rintro r2 K3 ⟨d, rfl, hd1, hd2⟩ hK3
      have e2 : idx (r1.set n { rn r1 n with From := d }) (n : Int) = some { rn r1 n with From := d } := by
        rw [idx_rn (by rw [List.length_set]; exact hnr), rn_set hnr, if_pos rfl]
      have hx1 : inB m l { rn r1 n with From := d } := ⟨hx.1, hx.2.1, by have := hx.2.2; show 0 ≤ d; omega, by show d ≤ 1000000; omega⟩
      refine Yes.jn (Yes.bindv (decide (d < pushF m l st last r1 n)) ?_ (Yes.cond (fun hc => ?_) (fun hc => Yes.some ?_)))
      · have hwt := wait_iff (m := m) g hs hd1 hd2 hx.1
        have h75 : f75 l { rn r1 n with From := d } st = some (decide (meets l st { rn r1 n with From := d })) := by
          rw [s75 g hs hx1]
          simp [hloom]
        rcases (show last = none ∨ ∃ j, last = some j by cases last <;> simp) with hlast | ⟨j, hlast⟩
        · have : decide (lastI last ≥ 0) = false := by rw [hlast]; rfl
          rw [this, e2]
          simp only [cond_false, Option.bind_some, h75]
          congr 1
          rw [decide_eq_decide, ← hwt]
          exact ⟨.inr, fun h => h.elim (fun ⟨j, h, _⟩ => by rw [hlast] at h; cases h) id⟩
        · rw [← decide_eq_decide.2 hwt]
          have h0 : decide (lastI last ≥ 0) = true := by rw [hlast]; simp [lastI]
          have hj := hl1 j hlast
          have e3 : idx (r1.set n { rn r1 n with From := d }) (lastI last) = some (rn r1 j) := by
            rw [hlast]
            show idx _ (j : Int) = _
            rw [idx_rn (by rw [List.length_set]; omega), rn_set hnr, if_neg (hln j hlast)]
          rw [h0, e2, e3]
          simp only [cond_true, Option.bind_some, s77b g (w.inB R hb hj) hx1, h75]
          have hex : (∃ j', last = some j' ∧ d < freeR m l (rn r1 j') (rn r1 n).Order) ↔ d < freeR m l (rn r1 j) (rn r1 n).Order := by
            rw [hlast]
            exact ⟨fun ⟨j', h, h2⟩ => by cases h; exact h2, fun h => ⟨j, rfl, h⟩⟩
          by_cases hlt : d < freeR m l (rn r1 j) (rn r1 n).Order
          · refine (cond_tt (decide_eq_true hlt)).trans ?_
            congr 1
            exact (decide_eq_true (Or.inl (hex.2 hlt))).symm
          · refine (cond_nf (decide_eq_false hlt)).trans ?_
            congr 1
            rw [decide_eq_decide]
            exact ⟨.inr, fun h => h.elim (fun h => absurd (hex.1 h) hlt) id⟩
      · have hc := of_decide_eq_true hc
        have hd0 := hx.2.2.1
        simp only [e2, Option.bind_some, Int.toNat_natCast, List.set_set]
        rw [w64_id (by omega) (by omega)]
        refine hK3 _ ⟨d + 1, rfl, by omega, by omega⟩ ?_
        rw [rn_set hnr, rn_set hnr, if_pos rfl, if_pos rfl]
        simp only
        omega
      · have hc := of_decide_eq_false hc
        have hdT : d = pushF m l st last r1 n := by omega
        rw [hdT]
        have hfn : fl.getD n false = false := by
          rw [hfv n m0.1]
          exact decide_eq_false ((mem_td hnd).1 hnd2).2
        have htk : A.take (k + 1) = A.take k ++ [n] := by rw [List.take_succ_eq_append_getElem hkA, hnk]
        refine hK _ ⟨k + 1, by omega, ⟨some n, rfl, (fun j h => by cases h; exact ⟨m0.1, by rw [htk]; simp⟩), hpu, ?_⟩, by simp [hfl], fun i hi => ?_⟩ ?_
        · have := W.step g hs R w (by omega) hb m0.1 hl1
          have e : (301 + 120 * ((k + 1 : Nat) : Int)) = 301 + 120 * (k : Int) + 120 := by omega
          rw [e]; exact this
        · simp only [Int.toNat_natCast]
          rw [getDset (by omega), htk]
          by_cases hin : i = n
          · subst hin; simp
          · rw [if_neg hin, hfv i hi]; simp [hin]
        · simp only [Int.toNat_natCast]
          exact cf_set fl n (by omega) hfn
theorem s34e {m : LoomMill} {l : List LoomOrder} {r : List LoomRun} {st : LoomStop} (hr : r.length ≤ 1000) (he : stillE m l r st ≠ 0) : f34 m l r st = some ([], [], stillE m l r st) := by
  refine Yes.eq ?_
  unfold f34
  rw [s65 hr, if_neg he]
  have h0 : (stillE m l r st != 0) = true := by simp [he]
  exact Yes.bind (Yes.some (Yes.jn (Yes.cond (fun _ => Yes.some rfl) (fun h => by rw [h0] at h; cases h))))
theorem stopE_ref {m : LoomMill} {l : List LoomOrder} {r : List LoomRun} {st : LoomStop} (hm : m.Widths.length ≤ 10) : (bif planE m l r != 0 then some (planE m l r)
          else
            (f36 st.Loom 0 (w64 ((m.Widths.length : Int) - 1))).bind fun aA =>
              bif !aA then some 7
              else
                ((f36 st.Days.Low 0 st.Days.High).bind fun z7 =>
                      bif !z7 then some true else some (decide (st.Days.High > 300))).bind
                  fun a6 => bif a6 then some 2 else some (planE m l r)) = some (stillE m l r st) := by
  unfold stillE
  by_cases hp : planE m l r = 0
  · have h0 : (planE m l r != 0) = false := by simp [hp]
    rw [h0, cond_false, if_neg (fun h => h hp), s36, s36, btw_sub _ _ (by omega), Option.bind_some]
    unfold stopE
    by_cases h1 : 0 ≤ st.Loom ∧ st.Loom < (m.Widths.length : Int)
    · rw [if_neg (fun h => h h1), decide_eq_true h1]
      simp only [Bool.not_true, cond_false, Option.bind_some]
      by_cases h2 : 0 ≤ st.Days.Low ∧ st.Days.Low ≤ st.Days.High
      · have e : btw 0 st.Days.High st.Days.Low = true := by simp [btw, h2]
        by_cases h3 : st.Days.High ≤ 300
        · have e3 : decide (st.Days.High > 300) = false := by simp; omega
          rw [if_neg (fun h => h ⟨h2.1, h2.2, h3⟩), e, e3]
          simp [hp]
        · have e3 : decide (st.Days.High > 300) = true := by simp; omega
          rw [if_pos (fun h => h3 h.2.2), e, e3]
          simp
      · have e : btw 0 st.Days.High st.Days.Low = false := by unfold btw; rw [decide_eq_false]; exact h2
        rw [if_pos (fun h => h2 ⟨h.1, h.2.1⟩), e]
        simp
    · rw [if_pos h1, decide_eq_false h1]
      simp
  · have h0 : (planE m l r != 0) = true := by simp [hp]
    rw [h0, if_pos hp]; rfl
theorem s6 (m : LoomMill) (l : List LoomOrder) (sd : Standing) : f6 m l sd = some true := by
  unfold f6
  simp only [jn, s12, Option.bind_some, known_ok]
  by_cases hL : m.Widths.length > 10 ∨ (l.length : Int) > 7 ∧ l.length ≤ 7 ∨ l.length > 10
  · simp [hL]
  · have hm : m.Widths.length ≤ 10 := by omega
    have hl : l.length ≤ 10 := by omega
    rw [decide_eq_false hL]
    by_cases hr : (sd.Plan.length : Int) > 10
    · simp [hr]
    · rw [decide_eq_false hr]
      have hr1 : sd.Plan.length ≤ 1000 := by omega
      rw [s15 m (by omega), s16 l (by omega), s32 sd.Plan (by omega)]
      simp only [cond_false, Option.bind_some, s33 hr1, s18 m m (by omega), s19 l l (by omega), s22 sd.Plan sd.Plan (by omega), s20, decide_true, Bool.not_true]
      have hpE : (bif chkE m l == 0 then (f35 m l sd.Plan).bind fun y => some y.2 else some (chkE m l)) = some (planE m l sd.Plan) := by
        unfold planE
        by_cases hc : chkE m l = 0
        · simp [hc, s35 (good_of hc) sd.Plan hr1]
        · have : (chkE m l == 0) = false := by simp [hc]
          simp [hc, this]
      rw [hpE]
      simp only [Option.bind_some]
      rw [stopE_ref hm]
      by_cases he : stillE m l sd.Plan sd.Stop = 0
      · obtain ⟨g, R, hlo, hs⟩ := still_ok he
        have hr7 := R.r7
        obtain ⟨A, hf, hA, hpw⟩ := s68 g R sd.Stop.Loom
        have hA7 : A.length ≤ 7 := by
          have hnd : A.Nodup := hpw.imp fun {a b} h e => by subst e; exact bef_irr h
          have := nodup_lt _ _ hnd fun x hx => ((hA x).1 hx).1
          omega
        obtain ⟨h34, wA⟩ := s34 he hf hA hA7
        have h38 := s38 g R hs hA hpw hA7 wA
        have hsl : (stopsV l sd.Plan sd.Stop).length < 9223372036854775807 := by
          have := coll_len (fun i => decide ((rn sd.Plan i).Loom = sd.Stop.Loom ∧ meets l sd.Stop (rn sd.Plan i))) (fun i => (rn sd.Plan i).Order) sd.Plan.length
          unfold stopsV; omega
        have h28 := s28 _ (stopsV l sd.Plan sd.Stop) hsl
        rw [h34, he, if_pos rfl]
        simp only [Option.bind_some, s37 g R hs, h38, h28, decide_true]
        have z0 : ((0 : Int) != 0) = false := rfl
        simp only [z0, cond_false, Bool.not_true, Option.bind_some]
        generalize pushL m l sd.Stop none A sd.Plan = r1 at wA
        have hr1 : r1.length ≤ 7 := by rw [wA.len]; exact hr7
        unfold pushV
        by_cases hfar : ∃ i, i < r1.length ∧ (rn r1 i).From > 300
        · rw [if_pos hfar]; rfl
        · rw [if_neg hfar]
          have hll : (lates l r1).length < 9223372036854775807 := by
            have := coll_len (fun i => decide (endR l (rn r1 i) > (od l (rn r1 i).Order).Late)) (fun i => (rn r1 i).Order) r1.length
            unfold lates; omega
          simp [s22 r1 r1 (by omega), s28 (lates l r1) (lates l r1) hll]
      · have h0 : (stillE m l sd.Plan sd.Stop != 0) = true := by simp [he]
        rw [s34e hr1 he, if_neg he]
        simp [h0]
end Go.Proofs.Ytnfjhdagbknlbaa
