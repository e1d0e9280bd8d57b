/- BookLogs of chapter 13: the cloths of a log. -/
import Derived.Test.YtmebkoemfjlbcaaGreatDoorBkF1
set_option maxRecDepth 100000
set_option maxHeartbeats 4000000
namespace Go.Proofs.YtmebkoemfjlbcaaGreatDoor
open Go.RowKit
theorem Xx : ∀ (n : Nat) (b : List UInt8), b.length = 8 * n → ∃ L : List (List UInt8), L.length = n ∧ (∀ r ∈ L, r.length = 8) ∧ L.flatten = b
 | 0, b, h => ⟨[], rfl, by simp, by rw [List.eq_nil_of_length_eq_zero (by omega : b.length = 0)]; rfl⟩
 | n + 1, b, h => by
  obtain ⟨L, h1, h2, h3⟩ := Xx n (b.drop 8) (by rw [List.length_drop]; omega)
  refine ⟨b.take 8 :: L, by simp [h1], fun r hr => ?_, by rw [List.flatten_cons, h3, List.take_append_drop]⟩
  rcases List.mem_cons.1 hr with rfl | hr
  ·rw [List.length_take]; omega
  ·exact h2 r hr
theorem s160e {σ : Type} {L : List (List UInt8)} (h8 : ∀ r ∈ L, r.length = 8) (hL : L.length ≤ 1000) {cons : U9 σ (List UInt8)} {s : σ} {Q : σ → Prop} (I : Nat → σ → Prop) (h0 : I 0 s)
  (step : ∀ i s (hi : i < L.length), I i s → Yes (cons s L[i]) fun r => (r.1 = true ∧ I (i + 1) r.2) ∨ (r.1 = false ∧ Q r.2)) (he : ∀ s, I L.length s → Q s) : Yes (f160 L.flatten 8 σ cons s) Q := by
 have hl := Hj L h8
 unfold f160
 refine Yes.lp (fun st => ∃ i : Nat, st.2 = ((8 * i : Nat) : Int) ∧ i ≤ L.length ∧ I i st.1) (fun st => 8 * L.length - st.2.toNat) ⟨0, rfl, Nat.zero_le _, h0⟩ (by simp; omega) ?_
 rintro ⟨st, j⟩ k ⟨i, hj, hi, hI⟩ hk
 simp only at hj hI
 subst hj
 refine Yes.jn ?_
 by_cases hlt : i < L.length
 ·refine Kg (decide_eq_true (by omega)) (Yes.jn ?_)
  have c1 : cut L.flatten ((8 * i : Nat) : Int) (L.flatten.length : Int) = some (L.flatten.drop (8 * i)) := by
   unfold cut
   rw [if_pos ⟨by omega, by omega, by omega⟩, Int.toNat_natCast, Int.toNat_natCast, List.take_length]
  have hm : Jy 8 ((L.flatten.drop (8 * i)).length : Int) = 8 := by
   unfold Jy
   rw [List.length_drop, if_neg (by omega)]
  have c2 : cut L.flatten ((8 * i : Nat) : Int) (w64 (((8 * i : Nat) : Int) + 8)) = some L[i] := by
   rw [T9 (by omega) (by omega)]
   unfold cut
   rw [if_pos ⟨by omega, by omega, by omega⟩]
   have := Rc L i h8 hlt
   rw [← this]
   congr 1
  refine Gm _ c1 ?_
  rw [hm]
  refine Gm _ c2 (Yes.bind ((step i st hlt hI).mono fun r hr => ?_))
  obtain ⟨b, st'⟩ := r
  rcases hr with ⟨hb, hI'⟩ | ⟨hb, hQ⟩
  ·simp only at hb hI'
   subst hb
   refine Qo rfl (hk _ ⟨i + 1, ?_, hlt, hI'⟩ ?_)
   ·show w64 (((8 * i : Nat) : Int) + 8) = _
    rw [T9 (by omega) (by omega)]; omega
   ·show 8 * L.length - (w64 (((8 * i : Nat) : Int) + 8)).toNat < 8 * L.length - (((8 * i : Nat) : Int)).toNat
    rw [T9 (by omega) (by omega)]; omega
  ·simp only at hb hQ
   subst hb
   exact Kg rfl (Yes.some hQ)
 ·obtain rfl : i = L.length := by omega
  exact Qo (decide_eq_false (by omega)) (Yes.some (he _ hI))
theorem s132e {σ : Type} {L : List (List UInt8)} (h8 : ∀ r ∈ L, r.length = 8) (hL : L.length ≤ 1000) {cons : U9 σ (Vector UInt8 8)} {s : σ} {Q : σ → Prop} (I : Nat → σ → Prop) (h0 : I 0 s)
  (step : ∀ i s (hi : i < L.length) (v : Vector UInt8 8), v.toList = L[i] → I i s → Yes (cons s v) fun r => (r.1 = true ∧ I (i + 1) r.2) ∨ (r.1 = false ∧ Q r.2)) (he : ∀ s, I L.length s → Q s) : Yes (f132 L.flatten σ cons s) Q := by
 unfold f132
 have h108 : f133 L.flatten 8 = some (fun σ cons s => f160 L.flatten 8 σ cons s) := rfl
 rw [h108]
 simp only [Option.bind_some]
 refine (Yes.bind (Yes.mono (s160e (Q := fun st => Q st.2) h8 hL (fun i st => st.1 = 0 ∧ I i st.2) ⟨rfl, h0⟩ (fun i st hi hI => ?_) fun st hI => he _ hI.2) fun r hr => ?_))
 ·obtain ⟨n, st⟩ := st
  obtain ⟨hn, hI⟩ := hI
  simp only at hn hI
  subst hn
  have h8i := h8 L[i] (List.getElem_mem hi)
  have hv : St 8 L[i] = some ⟨(L[i].take 8).toArray, by simp [h8i]⟩ := by unfold St; rw [dif_pos ⟨by omega, by omega⟩]
  show Yes ((St 8 L[i]).bind _) _
  refine Gm _ hv (Yes.bind ((step i st hi _ ?_ hI).mono fun r hr => ?_))
  ·show (L[i].take 8) = L[i]
   rw [List.take_of_length_le (by omega)]
  ·obtain ⟨b, st'⟩ := r
   rcases hr with ⟨hb, hI'⟩ | ⟨hb, hQ⟩
   ·simp only at hb hI'
    subst hb
    exact Qo rfl (Yes.some (.inl ⟨rfl, rfl, hI'⟩))
   ·simp only at hb hQ
    subst hb
    exact Kg rfl (Yes.some (.inr ⟨rfl, hQ⟩))
 ·obtain ⟨n, st⟩ := r
  exact Yes.cond (fun _ => Yes.some hr) (fun _ => Yes.some hr)
def Uy (b : List UInt8) : List Z2 × Int × Int := bif decide ((b.length : Int) > 800) then ([], 0, 5) else bif ((b.length : Int) % 8 != 0) then ([], 0, 4) else cS ((List.range (b.length / 8)).map fun i => (b.take (8 * i + 8)).drop (8 * i)) 0 none []
theorem V2 {L : List (List UInt8)} (h8 : ∀ r ∈ L, r.length = 8) : ((List.range (L.flatten.length / 8)).map fun i => (L.flatten.take (8 * i + 8)).drop (8 * i)) = L := by
 have hl := Hj L h8
 have hn : L.flatten.length / 8 = L.length := by omega
 rw [hn]
 refine List.ext_getElem (by simp) fun i h1 h2 => ?_
 rw [List.getElem_map, List.getElem_range]
 exact Rc L i h8 h2
theorem Ov {L : List (List UInt8)} {i : Nat} (hi : i < L.length) (pv : Option Z2) (acc : List Z2) : cS (L.drop i) i pv acc = bif Yj pv L[i] == 0 then cS (L.drop (i + 1)) (i + 1) (some (cE L[i]).1) (acc ++ [(cE L[i]).1]) else ([], (i : Int), Yj pv L[i]) := by
 rw [List.drop_eq_getElem_cons hi]; rfl
theorem Nw {r : List UInt8} (h : r.length = 8) : (cE r).2 = 0 → vB (cE r).1 = true := fun h0 => (A6 h h0).2
theorem B4 {α : Type} (xs : List α) (x : α) : (xs ++ [x]).getLast? = some x := by simp
theorem L2 {α : Type} {xs : List α} {i : Nat} (h : xs.length = i) (h0 : 0 < i) : xs.getLast? = some (xs[i - 1]'(by omega)) := by
 subst h; rw [List.getLast?_eq_getElem?, List.getElem?_eq_getElem (by omega)]
theorem s34v (b : List UInt8) (hb : b.length ≤ 900) : f34 b = some (Uy b) := by
  refine Yes.eq ?_
  unfold f34 Uy
  refine Yes.jn (Yes.cond (fun h => Yes.some (by rw [show decide ((b.length : Int) > 800) = true from h]; rfl)) (fun h => Yes.jn ?_))
  rw [show decide ((b.length : Int) > 800) = false from h]
  have hl : b.length ≤ 800 := by have := of_decide_eq_false h; omega
  refine Gm _ (Lx (by omega) (by omega)) (Yes.cond (fun h => Yes.some (by rw [h]; rfl)) (fun h => Yes.jn ?_))
  rw [h]
  have hm : b.length % 8 = 0 := by have : ((b.length : Int) % 8) = 0 := by simpa using h
                                   omega
  obtain ⟨L, hn, h8, rfl⟩ := Xx (b.length / 8) b (by omega)
  rw [V2 h8]
  have hfl := Hj L h8
  refine Yes.upto L.length (by omega) (fun i acc => acc.length = i ∧ cS (L.drop i) i acc.getLast? acc = cS L 0 none []) ⟨rfl, rfl⟩ (fun i acc k hi hI hk => ?_) (fun acc k hI => ?_)
  · obtain ⟨hL, hI⟩ := hI
    rw [Ov hi] at hI
    have hq : U2 (L.flatten.length : Int) 8 = some (L.length : Int) := by
      unfold U2
      rw [if_neg (by omega), Int.tdiv_eq_ediv_of_nonneg (by omega), T9 (by omega) (by omega)]
      congr 1; omega
    have h8i := h8 L[i] (List.getElem_mem hi)
    have hcut : cut L.flatten (w64 (8 * (i : Int))) (w64 (w64 (8 * (i : Int)) + 8)) = some L[i] := by
      rw [T9 (n := 8 * (i : Int)) (by omega) (by omega), T9 (by omega) (by omega)]
      unfold cut
      rw [if_pos ⟨by omega, by omega, by omega⟩]
      have := Rc L i h8 hi
      rw [← this, show (8 * (i : Int) + 8).toNat = 8 * i + 8 by omega, show (8 * (i : Int)).toNat = 8 * i by omega]
    obtain ⟨o, ho, hoc⟩ := s38c h8i
    refine Yes.jn (Gm _ hq (Kg (decide_eq_true (by omega)) (Yes.jn (Gm _ hcut (Gm _ ho (Yes.jn ?_))))))
    unfold Yj at hI
    cases o with
    | false =>
      rw [hoc] at hI
      exact Kg rfl (Yes.some hI)
    | true =>
      refine Qo rfl (Yes.jn (Gm _ (s39v _) ?_))
      cases hv : vB (cE L[i]).1 with
      | false =>
        rw [hoc, hv] at hI
        exact Kg rfl (Yes.some hI)
      | true =>
        rw [hoc, hv] at hI
        refine Qo rfl (Yes.jn ?_)
        have done : Ja acc.getLast? (cE L[i]).1 = 0 → Yes ((apnd 40 acc [(cE L[i]).1]).bind fun nH => k (nH, w64 ((i : Int) + 1))) fun r => r = cS L 0 none [] := fun h0 => by
          refine Yes.bind (Yes.apnd (by simp; omega) (by simp; omega) (hk _ ⟨by simp [hL], ?_⟩))
          rw [B4]
          have hI : (bif Ja acc.getLast? (cE L[i]).1 == 0 then _ else _) = _ := hI
          rw [h0] at hI
          exact hI
        have hI : (bif Ja acc.getLast? (cE L[i]).1 == 0 then _ else ([], (i : Int), Ja acc.getLast? (cE L[i]).1)) = _ := hI
        by_cases h0 : 0 < i
        · have hlast : acc.getLast? = some (acc[i - 1]'(by omega)) := L2 hL h0
          rw [hlast, S4 hv] at hI done
          refine Yes.bind (Kg (decide_eq_true (by omega)) ?_)
          rw [T9 (by omega) (by omega), show ((i : Int) - 1) = ((i - 1 : Nat) : Int) by omega]
          refine Gm _ (Bn (by omega)) (Gm _ (s93b _ _) (Yes.some ?_))
          cases hb : bef (acc[i - 1]'(by omega)) (cE L[i]).1 with
          | false =>
            rw [hb] at hI
            exact Kg rfl (Yes.some hI)
          | true =>
            rw [hb] at done
            exact Qo rfl (done rfl)
        · obtain rfl : i = 0 := by omega
          obtain rfl : acc = [] := List.eq_nil_of_length_eq_zero hL
          exact Yes.bind (Qo (decide_eq_false (by omega)) (Yes.some (Qo rfl (done (Rq hv)))))
  · obtain ⟨hL, hI⟩ := hI
    rw [List.drop_length] at hI
    have hq : U2 (L.flatten.length : Int) 8 = some (L.length : Int) := by
      unfold U2
      rw [if_neg (by omega), Int.tdiv_eq_ediv_of_nonneg (by omega), T9 (by omega) (by omega)]
      congr 1; omega
    exact Yes.jn (Gm _ hq (Qo (decide_eq_false (by omega)) (Yes.some hI)))
end Go.Proofs.YtmebkoemfjlbcaaGreatDoor
