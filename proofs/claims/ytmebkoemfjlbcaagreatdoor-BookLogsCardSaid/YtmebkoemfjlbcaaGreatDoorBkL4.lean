/- BookLogs of chapter 13: the law, put together. -/
import Derived.Test.YtmebkoemfjlbcaaGreatDoorBkL3
set_option maxRecDepth 100000
set_option maxHeartbeats 4000000
namespace Go.Proofs.YtmebkoemfjlbcaaGreatDoor
open Go.RowKit
theorem s32v (b : List UInt8) (hb : b.length ≤ 900) : f32 b = some (Uy b) := by
  refine Yes.eq ?_
  unfold f32 Uy
  refine Yes.jn (Yes.cond (fun h => Yes.some (by rw [show decide ((b.length : Int) > 800) = true from h]; rfl)) (fun h => ?_))
  rw [show decide ((b.length : Int) > 800) = false from h]
  have hl : b.length ≤ 800 := by have := of_decide_eq_false h; omega
  refine Gm _ (Lx (by omega) (by omega)) (Yes.cond (fun h => Yes.some (by rw [h]; rfl)) (fun h => Yes.jn ?_))
  rw [h]
  have hm : b.length % 8 = 0 := by have : ((b.length : Int) % 8) = 0 := by simpa using h
                                   omega
  obtain ⟨L, hn, h8, rfl⟩ := Xx (b.length / 8) b (by omega)
  rw [V2 h8]
  have hfl := Hj L h8
  have h83 : f91 L.flatten = some (fun σ cons s => f132 L.flatten σ cons s) := rfl
  rw [h83]
  simp only [Option.bind_some]
  refine Yes.bind (s132e (σ := Nat × List Z2 × Int × Int) (Q := fun st => Yes (bif Nat.beq st.1 0 then some (st.2.1, (0 : Int), (0 : Int)) else some st.2) fun r => r = cS L 0 none []) h8 (by omega) (fun i st => st.1 = 0 ∧ st.2.2 = (0, 0) ∧ st.2.1.length = i ∧ cS (L.drop i) i st.2.1.getLast? st.2.1 = cS L 0 none []) ⟨rfl, rfl, rfl, rfl⟩ (fun i st hi v hv hI => ?_) fun st hI => ?_)
  · obtain ⟨n, acc, p, q⟩ := st
    obtain ⟨hn0, hpq, hL, hI⟩ := hI
    simp only at hn0 hpq hL hI
    subst hn0
    rw [Ov hi] at hI
    have h8i := h8 L[i] (List.getElem_mem hi)
    show Yes ((f92 v).bind _) _
    have e92 : f92 v = some (cE L[i]) := by rw [s92c, hv]
    have key : Yes (Option.bind (α := Bool) (bif ((cE L[i]).2 == (0 : Int)) then bif (decide ((acc.length : Int) > (0 : Int))) then (idx acc (w64 ((acc.length : Int) - (1 : Int)))).bind fun tK => (f89 tK (cE L[i]).1).bind fun yE => some ((decide (yE ≥ (0 : Int)))) else some (false) else some (false)) fun mE => bif mE then some ((4 : Int)) else some (cE L[i]).2) fun e => e = Yj acc.getLast? L[i] := by
      unfold Yj
      by_cases hz : (cE L[i]).2 = 0
      · have hv1 := Nw h8i hz
        rw [hz]
        show Yes (Option.bind _ _) fun e => e = Ja acc.getLast? (cE L[i]).1
        by_cases h0 : 0 < i
        · have hlast : acc.getLast? = some (acc[i - 1]'(by omega)) := L2 hL h0
          rw [hlast, S4 hv1]
          obtain ⟨z, hz1, hz2⟩ := s89b (acc[i - 1]'(by omega)) (cE L[i]).1
          refine Yes.bind (Kg rfl (Kg (decide_eq_true (by omega)) ?_))
          rw [T9 (by omega) (by omega), show ((acc.length : Int) - 1) = ((i - 1 : Nat) : Int) by omega]
          refine Gm _ (Bn (by omega)) (Gm _ hz1 (Yes.some ?_))
          rw [hz2]
          cases hb : bef (acc[i - 1]'(by omega)) (cE L[i]).1 with
          | false => exact Kg rfl (Yes.some rfl)
          | true => exact Qo rfl (Yes.some rfl)
        · obtain rfl : i = 0 := by omega
          obtain rfl : acc = [] := List.eq_nil_of_length_eq_zero hL
          exact Yes.bind (Kg rfl (Qo rfl (Yes.some (Qo rfl (Yes.some (Rq hv1).symm)))))
      · have hz1 : ((cE L[i]).2 == (0 : Int)) = false := by simpa using hz
        have hz2 : ((cE L[i]).2 != (0 : Int)) = true := by simpa using hz
        rw [hz2]
        exact Yes.bind (Qo hz1 (Yes.some (Qo rfl (Yes.some rfl))))
    refine Gm _ e92 (Yes.bind (key.mono fun e he => Yes.jn ?_))
    subst he
    by_cases hz : Yj acc.getLast? L[i] = 0
    · rw [hz] at hI ⊢
      refine Qo rfl (Yes.bind (Yes.apnd (by simp; omega) (by simp; omega) (Yes.some (.inl ⟨rfl, rfl, hpq, by simp [hL], ?_⟩))))
      show cS (L.drop (i + 1)) (i + 1) (acc ++ [(cE L[i]).1]).getLast? (acc ++ [(cE L[i]).1]) = _
      rw [B4]
      exact hI
    · have hz1 : (Yj acc.getLast? L[i] == (0 : Int)) = false := by simpa using hz
      rw [hz1] at hI
      refine Kg (by simpa using hz) (Yes.some (.inr ⟨rfl, ?_⟩))
      refine Qo rfl (Yes.some ?_)
      rw [← hI, hL]; rfl
  · obtain ⟨n, acc, p, q⟩ := st
    obtain ⟨hn0, hpq, hL, hI⟩ := hI
    simp only at hn0 hpq hL hI
    subst hn0
    rw [List.drop_length] at hI
    exact Kg rfl (Yes.some hI)
theorem Ox : ∀ (l : List Z2) (i : Nat) (pv : Option Z2) (acc : List UInt8) (x : List UInt8) (a : Int), lS l i pv acc = (x, a, 0) → x = acc ++ (l.map J6).flatten ∧ a = 0 ∧ ∀ ac, cS (l.map J6) i pv ac = (ac ++ l, 0, 0)
 | [], i, pv, acc, x, a, h => by
  obtain ⟨rfl, h2⟩ := Prod.mk.inj h
  obtain ⟨rfl, _⟩ := Prod.mk.inj h2
  exact ⟨by simp, rfl, fun ac => by simp [cS]⟩
 | c :: l, i, pv, acc, x, a, h => by
  have h : (bif Ja pv c == 0 then lS l (i + 1) (some c) (acc ++ J6 c) else ([], (i : Int), Ja pv c)) = (x, a, 0) := h
  by_cases h0 : Ja pv c = 0
  ·rw [h0] at h
   have hv : vB c = true := by
    cases hv : vB c with
    | true => rfl
    | false => rw [Dl hv] at h0; cases h0
   obtain ⟨rfl, rfl, h3⟩ := Ox l (i + 1) (some c) (acc ++ J6 c) x a h
   refine ⟨by simp, rfl, fun ac => ?_⟩
   show (bif Yj pv (J6 c) == 0 then cS (l.map J6) (i + 1) (some (cE (J6 c)).1) (ac ++ [(cE (J6 c)).1]) else _) = _
   unfold Yj
   rw [cE_rec hv]
   show (bif Ja pv c == 0 then cS (l.map J6) (i + 1) (some c) (ac ++ [c]) else _) = _
   rw [h0, show ((0 : Int) == 0) = true from rfl, cond_true, h3]
   simp
  ·have h1 : (Ja pv c == 0) = false := by simpa using h0
   rw [h1] at h
   obtain ⟨_, h2⟩ := Prod.mk.inj h
   obtain ⟨_, h3⟩ := Prod.mk.inj h2
   exact absurd h3 h0
theorem Ib : ∀ (L : List (List UInt8)) (i : Nat) (pv : Option Z2) (acc : List Z2) (x : List Z2) (a : Int), (∀ r ∈ L, r.length = 8) → cS L i pv acc = (x, a, 0) → x = acc ++ L.map (fun r => (cE r).1) ∧ a = 0 ∧ ∀ ac, lS (L.map fun r => (cE r).1) i pv ac = (ac ++ L.flatten, 0, 0)
 | [], i, pv, acc, x, a, _, h => by
  obtain ⟨rfl, h2⟩ := Prod.mk.inj h
  obtain ⟨rfl, _⟩ := Prod.mk.inj h2
  exact ⟨by simp, rfl, fun ac => by simp [lS]⟩
 | r :: L, i, pv, acc, x, a, h8, h => by
  have h : (bif Yj pv r == 0 then cS L (i + 1) (some (cE r).1) (acc ++ [(cE r).1]) else ([], (i : Int), Yj pv r)) = (x, a, 0) := h
  by_cases h0 : Yj pv r = 0
  ·rw [h0] at h
   have hz : (cE r).2 = 0 := by
    by_cases hz : (cE r).2 = 0
    ·exact hz
    ·unfold Yj at h0
     rw [show ((cE r).2 != 0) = true by simpa using hz] at h0
     exact absurd h0 hz
   have hl : Ja pv (cE r).1 = 0 := by
    unfold Yj at h0
    rw [hz] at h0
    exact h0
   obtain ⟨e1, hv⟩ := A6 (h8 r (by simp)) hz
   obtain ⟨rfl, rfl, h3⟩ := Ib L (i + 1) (some (cE r).1) (acc ++ [(cE r).1]) x a (fun q hq => h8 q (by simp [hq])) h
   refine ⟨by simp, rfl, fun ac => ?_⟩
   show (bif Ja pv (cE r).1 == 0 then lS (L.map fun r => (cE r).1) (i + 1) (some (cE r).1) (ac ++ J6 (cE r).1) else _) = _
   rw [hl, show ((0 : Int) == 0) = true from rfl, cond_true, h3, e1]
   simp
  ·have h1 : (Yj pv r == 0) = false := by simpa using h0
   rw [h1] at h
   obtain ⟨_, h2⟩ := Prod.mk.inj h
   obtain ⟨_, h3⟩ := Prod.mk.inj h2
   exact absurd h3 h0
theorem Pn (l : List Z2) : ((l.map J6).flatten).length = 8 * l.length := by
 rw [Hj _ fun r hr => by obtain ⟨c, _, rfl⟩ := List.mem_map.1 hr; rfl, List.length_map]
theorem back1 {l : List Z2} {x : List UInt8} {a : Int} (h : Xs l = (x, a, 0)) : Uy x = (l, 0, 0) ∧ x.length ≤ 800 := by
 unfold Xs at h
 by_cases hl : (l.length : Int) > 100
 ·rw [decide_eq_true hl] at h; cases h
 ·rw [decide_eq_false hl] at h
  obtain ⟨h1, h2, h3⟩ := Ox l 0 none [] x a h
  rw [List.nil_append] at h1
  subst h1
  have hf := Pn l
  refine ⟨?_, by omega⟩
  unfold Uy
  rw [decide_eq_false (by omega), V2 fun r hr => by obtain ⟨c, _, rfl⟩ := List.mem_map.1 hr; rfl]
  have : ((((l.map J6).flatten).length : Int) % 8 != 0) = false := by
   rw [hf]; simp
  rw [this]
  exact h3 []
theorem back2 {b : List UInt8} {x : List Z2} {a : Int} (h : Uy b = (x, a, 0)) : Xs x = (b, 0, 0) ∧ x.length ≤ 100 := by
  unfold Uy at h
  by_cases hl : (b.length : Int) > 800
  · rw [decide_eq_true hl] at h; cases h
  · rw [decide_eq_false hl] at h
    by_cases hm : ((b.length : Int) % 8 != 0) = true
    · rw [hm] at h; cases h
    · have hm : ((b.length : Int) % 8 != 0) = false := by simpa using hm
      rw [hm] at h
      have hm8 : b.length % 8 = 0 := by have : ((b.length : Int) % 8) = 0 := by simpa using hm
                                        omega
      obtain ⟨L, hn, h8, rfl⟩ := Xx (b.length / 8) b (by omega)
      rw [V2 h8] at h
      obtain ⟨h1, h2, h3⟩ := Ib L 0 none [] x a h8 h
      rw [List.nil_append] at h1
      subst h1
      have hfl := Hj L h8
      refine ⟨?_, by rw [List.length_map]; omega⟩
      unfold Xs
      rw [decide_eq_false (by rw [List.length_map]; omega)]
      exact h3 []
theorem s29v (l : List Z2) (h : l.length ≤ 1000) : f29 l = some l := by
 refine Yes.eq ?_
 unfold f29
 exact Yes.bind (Yes.apnd (by simp; omega) (by simp; omega) (Yes.some rfl))
theorem s30w (l : List UInt8) (h : l.length ≤ 1000) : f30 l = some l := by
 refine Yes.eq ?_
 unfold f30
 exact Yes.bind (Yes.apnd (by simp; omega) (by simp; omega) (Yes.some rfl))
theorem law6 (l : List Z2) (b : List UInt8) : f6 l b = some true := by
 refine Yes.eq ?_
 unfold f6
 refine Yes.jn (Yes.bind (Yes.cond (fun _ => Yes.some (Kg rfl (Gm _ B8 (Yes.some rfl)))) (fun hl => Yes.some (Yes.cond (fun _ => Gm _ B8 (Yes.some rfl)) (fun hb => ?_)))))
 have hl : l.length ≤ 110 := by have := of_decide_eq_false hl; omega
 have hb : b.length ≤ 900 := by have := of_decide_eq_false hb; omega
 refine Gm _ (s29v l (by omega)) (Gm _ (s30w b (by omega)) (Gm _ (s31v l) (Gm _ (s32v b hb) (Gm _ (s33v l) (Gm _ (s34v b hb) (Yes.jn ?_))))))
 have hx : (Uy b).1.length < 9223372036854775807 := by
  unfold Uy
  by_cases h1 : (b.length : Int) > 800
  ·rw [decide_eq_true h1]; simp
  ·rw [decide_eq_false h1]
   cases h2 : ((b.length : Int) % 8 != 0) with
   | true => simp
   | false =>
    have hcS : ∀ (L : List (List UInt8)) (i : Nat) (pv : Option Z2) (acc : List Z2), (cS L i pv acc).1.length ≤ acc.length + L.length := by
     intro L
     induction L with
     | nil => intro i pv acc; simp [cS]
     | cons r L ih =>
      intro i pv acc
      show (bif Yj pv r == 0 then cS L (i + 1) (some (cE r).1) (acc ++ [(cE r).1]) else ([], (i : Int), Yj pv r)).1.length ≤ _
      cases (Yj pv r == 0) with
      | true => have := ih (i + 1) (some (cE r).1) (acc ++ [(cE r).1]); simp at this ⊢; omega
      | false => simp
    have := hcS ((List.range (b.length / 8)).map fun i => (b.take (8 * i + 8)).drop (8 * i)) 0 none []
    simp at this ⊢
    omega
 refine Gm false ?_ (Qo rfl (Yes.jn ?_))
 ·refine Yes.eq ?_
  refine Gm _ (s35r l (by omega)) (Qo rfl (Gm _ (s36r b) (Qo rfl (Qo (by simp) (Qo (by simp) (Gm _ (s36r _) (Qo rfl (Qo (by simp) (Qo (by simp) (Gm _ (s35r _ hx) (Yes.some rfl)))))))))))
 have K2 : Yes (bif ((Uy b).2.2 == (0 : Int)) then (f29 (Uy b).1).bind fun pJ => (f31 pJ).bind fun y => Option.bind (α := Bool) (bif (y.2.2 != (0 : Int)) then some true else (f36 y.1 b).bind fun k => some (!k)) fun m => bif m then some false else (f13).bind fun j => some j else (f13).bind fun j => some j) fun r => r = true := by
  refine Yes.cond (fun h => ?_) (fun _ => Gm _ B8 (Yes.some rfl))
  have h0 : (Uy b).2.2 = 0 := by simpa using h
  obtain ⟨k1, k2⟩ := back2 (b := b) (x := (Uy b).1) (a := (Uy b).2.1) (by rw [← h0])
  have e31 : f31 (Uy b).1 = some (b, 0, 0) := by rw [s31v, k1]
  exact Gm _ (s29v _ (by omega)) (Gm _ e31 (Yes.bind (Qo rfl (Gm _ (s36r b) (Yes.some (Qo rfl (Gm _ B8 (Yes.some rfl))))))))
 refine Yes.cond (fun h => ?_) (fun _ => Yes.jn K2)
 have h0 : (Xs l).2.2 = 0 := by simpa using h
 obtain ⟨k1, k2⟩ := back1 (l := l) (x := (Xs l).1) (a := (Xs l).2.1) (by rw [← h0])
 have e32 : f32 (Xs l).1 = some (l, 0, 0) := by rw [s32v _ (by omega), k1]
 exact Gm _ (s30w _ (by omega)) (Gm _ e32 (Yes.bind (Qo rfl (Gm _ (s35r l (by omega)) (Yes.some (Qo rfl (Yes.jn K2)))))))
end Go.Proofs.YtmebkoemfjlbcaaGreatDoor
