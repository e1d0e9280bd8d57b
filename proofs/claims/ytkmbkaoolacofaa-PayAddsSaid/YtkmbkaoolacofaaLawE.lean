/- Plain laws: PayAdds. -/
import Derived.Test.YtkmbkaoolacofaaLawD
set_option maxRecDepth 8000
namespace Go.Proofs.Ytkmbkaoolacofaa
open Go.RowKit
open Classical

theorem s7z {m : Int} {ps : List Int} (hm : 0 ≤ m ∧ m ≤ 1000000000) (hl : ps.length ≤ 10) (hp : ∀ x ∈ ps, 0 ≤ x ∧ x ≤ 1000) (hs : ps.sum = 0) : f7 m ps = some ([], 2) := by
 have hsb := sum_bound hp
 refine Yes.eq ?_
 unfold f7
 refine Yes.bind (Yes.mono (Q' := fun r => r = ps.sum) ?_ fun r hr => ?_)
 ·refine Yes.upto ps.length (by omega) (fun i s => s = (ps.take i).sum) rfl (fun i s k hi hI hk => ?_) (fun s k hI => ?_)
  ·have hx := hp _ (List.getElem_mem hi)
   have hb := sum_bound (ps := ps.take i) fun x hx => hp x (List.mem_of_mem_take hx)
   rw [List.length_take] at hb
   refine qtake (by simp; omega) (Yes.bind (Yes.bind (Yes.idx rfl hi (Yes.some ?_))))
   rw [min64_eq, max64_eq, show min (max ps[i] 0) 1000 = ps[i] by omega, w64_id (by omega) (by omega)]
   exact hk _ (by rw [sum_take ps hi, hI])
  ·exact qskip (by simp) (Yes.some (by rw [hI, List.take_length]))
 subst hr
 refine Yes.jn ?_
 have h21 : ([m] : List Int).all (btw 0 1000000000) = true := by simp [btw]; omega
 have h22 : ps.all (btw 0 1000) = true := List.all_eq_true.2 fun x hx => btw_iff.2 (hp x hx)
 rw [s21 _ _ _ (by simp), s21 _ _ _ (by omega), h21, h22]
 exact Yes.bind (Yes.some (qskip rfl (qskip (by simp; omega) (Yes.bind (Yes.bind (Yes.some (qskip rfl (Yes.some (qtake (by simp [hs]) (Yes.some rfl))))))))))
theorem qu8 (c : UInt8) : 0 ≤ ((c.toNat : Nat) : Int) ∧ ((c.toNat : Nat) : Int) ≤ 255 := by have := c.toNat_lt; omega
theorem qu16 (c : UInt16) : 0 ≤ ((c.toNat : Nat) : Int) ∧ ((c.toNat : Nat) : Int) ≤ 65535 := by have := c.toNat_lt; omega
theorem qu32 (c : UInt32) : 0 ≤ ((c.toNat : Nat) : Int) ∧ ((c.toNat : Nat) : Int) ≤ 4294967295 := by have := c.toNat_lt; omega
section
variable {m : Int} {ps : List Int}
theorem rest_ok (g : Good m ps) {i k : Nat} (hi : i < ps.length) (hk : k < ps.length) (hm2 : ps.sum ≤ 1000) {li lk : Int} (h1 : (shareS m ps)[i]'(by rw [share_len]; exact hi) = li) (h2 : (shareS m ps)[k]'(by rw [share_len]; exact hk) = lk) :
  (bif (decide ((w64 (li * ps.sum)) > (w64 (m * ps[i])))) then
   bif (decide ((w64 (lk * ps.sum)) ≤ (w64 (m * ps[k])))) then
    (rem64 (w64 (m * ps[i])) ps.sum).bind fun a =>
    (idx ps (k : Int)).bind fun y =>
    (rem64 (w64 (m * y)) ps.sum).bind fun b =>
    some ((decide (a < b)))
   else some (false)
  else some (false)) = some false := by
 obtain ⟨l1, e1, b1, c1, d1⟩ := share_exact g hi
 obtain ⟨l2, e2, b2, c2, d2⟩ := share_exact g hk
 rw [h1] at e1; rw [h2] at e2; subst e1; subst e2
 have p1 := g.prod (i : Int); have p2 := g.prod (k : Int)
 rw [getD_in hi] at p1; rw [getD_in hk] at p2
 have r1 := rem_bound g (i : Int); have r2 := rem_bound g (k : Int)
 have hs := g.s
 have n1 : 0 ≤ li * ps.sum := Int.mul_nonneg b1 (by omega)
 have n2 : 0 ≤ lk * ps.sum := Int.mul_nonneg b2 (by omega)
 rw [w64_id (n := li * ps.sum) (by omega) (by omega), w64_id (n := lk * ps.sum) (by omega) (by omega), w64_id (n := m * ps[i]) (by omega) (by omega)]
 refine Yes.eq (Yes.cond (fun hu => ?_) (fun _ => Yes.some rfl))
 rw [w64_id (n := m * ps[k]) (by omega) (by omega)]
 refine Yes.cond (fun hd => ?_) (fun _ => Yes.some rfl)
 have hu : m * ps[i] < li * ps.sum := by simpa using hu
 have hd : lk * ps.sum ≤ m * ps[k] := by simpa using hd
 have hT : inT m ps i := by
  rcases d1 with h | h
  ·exact h.1
  ·have := h.2; omega
 have hN : ¬ inT m ps k := by
  rcases d2 with h | h
  ·have := h.2; omega
  ·exact h.1
 have hud := up_down g hT hN
 refine qbind _ (qrem p1.1 hs) (Yes.bind (Yes.idx rfl hk ?_))
 rw [w64_id (n := m * ps[k]) (by omega) (by omega)]
 refine qbind _ (qrem p2.1 hs) (Yes.some ?_)
 rw [decide_eq_false_iff_not]
 unfold remS at hud
 rw [getD_in hi, getD_in hk] at hud
 omega
end
theorem s4 (x0 : UInt32) (x1 : List UInt16) (x2 : UInt8) : f4 x0 x1 x2 = some true := by
  refine Yes.eq ?_
  unfold f4
  have hm0 : 0 ≤ ((x0.toNat : Nat) : Int) % 1000000001 ∧ ((x0.toNat : Nat) : Int) % 1000000001 ≤ 1000000000 := by omega
  refine qbind _ (qrem (qu32 x0).1 (by omega)) ?_
  generalize ((x0.toNat : Nat) : Int) % 1000000001 = m at hm0
  refine Yes.bind (Yes.mono (Q' := fun r => r.1.length ≤ 9 ∧ (∀ x ∈ r.1, 0 ≤ x ∧ x ≤ 100) ∧ r.2 = r.1.sum) ?_ ?_)
  · refine Yes.lp (fun s => ∃ i : Nat, s.2.2 = i ∧ i ≤ 9 ∧ s.1.length = i ∧ (∀ x ∈ s.1, 0 ≤ x ∧ x ≤ 100) ∧ s.2.1 = s.1.sum) (fun s => 9 - s.2.2.toNat) ⟨0, rfl, by omega, rfl, by simp, rfl⟩ (by simp) ?_
    rintro ⟨ps, sum, i'⟩ k ⟨i, hi, hi9, hl, hp, hs⟩ hk
    simp only at hi hl hp hs
    subst hi
    have stop : Yes (some (ps, sum)) (fun r => r.1.length ≤ 9 ∧ (∀ x ∈ r.1, 0 ≤ x ∧ x ≤ 100) ∧ r.2 = r.1.sum) := Yes.some ⟨by simp only; omega, hp, hs⟩
    refine Yes.jn (Yes.bind (Yes.cond (fun h => Yes.some (Yes.cond (fun h9 => ?_) (fun _ => stop))) (fun _ => Yes.some (qskip rfl stop))))
    have hlt : i < x1.length := by simp at h; omega
    have h9 : i < 9 := by simp at h9; omega
    have hu := qu16 x1[i]
    have hsb := sum_bound (ps := ps) fun x hx => by have := hp x hx; omega
    refine Yes.bind (Yes.bind (Yes.idx rfl hlt (qbind _ (qrem hu.1 (by omega)) (Yes.bind (Yes.apnd (by simp; omega) (by simp; omega) (Yes.bind (Yes.idx rfl hlt (qbind _ (qrem hu.1 (by omega)) (Yes.some ?_)))))))))
    rw [w64_id (n := (i : Int) + 1) (by omega) (by omega), w64_id (n := sum + _) (by omega) (by omega)]
    refine hk _ ⟨i + 1, by simp, by omega, by simp [hl], fun y hy => ?_, by simp [hs]⟩ (by simp only; omega)
    rcases List.mem_append.1 hy with h | h
    · exact hp y h
    · rw [List.mem_singleton.1 h]; omega
  rintro ⟨ps, sum⟩ ⟨hl, hp, hs⟩
  simp only at hl hp hs
  subst hs
  have hp' : ∀ x ∈ ps, 0 ≤ x ∧ x ≤ 1000 := fun x hx => by have := hp x hx; omega
  have hsum : 0 ≤ ps.sum ∧ ps.sum ≤ 900 := by
    have : ∀ l : List Int, (∀ x ∈ l, 0 ≤ x ∧ x ≤ 100) → 0 ≤ l.sum ∧ l.sum ≤ 100 * l.length := by
      intro l
      induction l with
      | nil => intro _; simp
      | cons a l ih => intro h; have := h a (by simp); have := ih fun x hx => h x (by simp [hx]); simp only [List.sum_cons, List.length_cons]; omega
    have := this ps hp; omega
  refine qbind _ (s6 ps (by omega)) ?_
  by_cases h0 : ps.sum = 0
  · refine qbind _ (s7z hm0 (by omega) hp' h0) (Yes.jn (qtake (by simp [h0]) ?_))
    exact Yes.bind (qtake rfl (qtake rfl (qbind _ known_ok (Yes.some (Yes.some rfl)))))
  have g : Good m ps := ⟨hm0.1, hm0.2, by omega, hp', by omega⟩
  have hs := g.s
  refine qbind _ (s7 g) (Yes.jn (qskip (by simpa using h0) (Yes.jn (Yes.bind (qskip rfl (Yes.some (qskip (by simp [share_len]) (Yes.jn ?_))))))))
  -- what comes behind the first loop
  have behind : Yes ((fun s13_20192 =>
        jn (σ := Unit) (fun _ =>
          Option.bind (α := (List Int)) (
            lp (σ := (List Int) × Int) (fun k20219 (s19_20220, s20_20220) =>
              jn (σ := Unit) (fun _ =>
                Option.bind (α := (List Int)) (
                  (idx ps s20_20220).bind fun y20232 =>
                  (rem64 ((x2).toNat : Int) (9 : Int)).bind fun y20235 =>
                  (apnd 8 s19_20220 (([(w64 (y20232 * (w64 ((1 : Int) + y20235))))] : List Int))).bind fun y20238 =>
                  some (y20238)
                  ) fun s19_20239 =>
                k20219 (s19_20239, (w64 (s20_20220 + (1 : Int))))
                ) fun k20222 =>
              bif (decide (s20_20220 < ((ps).length : Int))) then
                k20222 ()
              else
                some (s19_20220)
              ) big (([] : List Int), (0 : Int))
            ) fun s19_20240 =>
          (f7 m s19_20240).bind fun y20242 =>
          (f6 ps).bind fun y20244 =>
          (apnd 8 y20244 (([(0 : Int)] : List Int))).bind fun y20247 =>
          (f7 m y20247).bind fun y20249 =>
          jn (σ := Unit) (fun _ =>
            jn (σ := Unit) (fun _ =>
              (f5).bind fun y20815 =>
              some (y20815)
              ) fun k20548 =>
            lp (σ := Int) (fun k20549 s25_20550 =>
              jn (σ := Unit) (fun _ =>
                jn (σ := Unit) (fun _ =>
                  k20549 ((w64 (s25_20550 + (1 : Int))))
                  ) fun k20683 =>
                Option.bind (α := Bool) (
                  (idx (y20242.1) s25_20550).bind fun y20747 =>
                  (idx (shareS m ps) s25_20550).bind fun y20750 =>
                  bif (y20747 != y20750) then
                    some (true)
                  else
                    (idx (y20249.1) s25_20550).bind fun y20779 =>
                    (idx (shareS m ps) s25_20550).bind fun y20782 =>
                    some ((y20779 != y20782))
                  ) fun s300_20810 =>
                bif s300_20810 then
                  some (false)
                else
                  k20683 ()
                ) fun k20552 =>
              bif (decide (s25_20550 < ((shareS m ps).length : Int))) then
                k20552 ()
              else
                k20548 ()
              ) big ((0 : Int))
            ) fun k20266 =>
          Option.bind (α := Bool) (
            bif (y20242.2 != (0 : Int)) then
              some (true)
            else
              bif (y20249.2 != (0 : Int)) then
                some (true)
              else
                bif (((y20242.1).length : Int) != ((shareS m ps).length : Int)) then
                  some (true)
                else
                  bif (((y20249.1).length : Int) != (w64 (((shareS m ps).length : Int) + (1 : Int)))) then
                    some (true)
                  else
                    (idx (y20249.1) ((shareS m ps).length : Int)).bind fun y20278 =>
                    some ((y20278 != (0 : Int)))
            ) fun s274_20281 =>
          bif s274_20281 then
            some (false)
          else
            k20266 ()
          ) fun k20194 =>
        bif (s13_20192 != m) then
          some (false)
        else
          k20194 ()) m) fun r => r = true := by
    refine Yes.jn (qskip (by simp) ?_)
    have hx2 : 0 ≤ ((x2.toNat : Nat) : Int) % 9 ∧ ((x2.toNat : Nat) : Int) % 9 ≤ 8 := by omega
    obtain ⟨c, hc⟩ : ∃ c, c = 1 + ((x2.toNat : Nat) : Int) % 9 := ⟨_, rfl⟩
    refine Yes.bind (Yes.mono (Q' := fun r => r = ps.map (· * c)) ?_ fun r hr => ?_)
    · refine Yes.upto ps.length (by omega) (fun i s => s = (ps.take i).map (· * c)) rfl (fun i s k hi hI hk => ?_) (fun s k hI => ?_)
      · have hx := hp _ (List.getElem_mem hi)
        have hmul := mul_le hx.1 hx.2 (by omega : (0 : Int) ≤ c) (by omega : c ≤ 9)
        refine Yes.jn (qtake (by simp; omega) (Yes.bind (Yes.bind (Yes.idx rfl hi (qbind _ (qrem (qu8 x2).1 (by omega)) ?_)))))
        rw [w64_id (n := 1 + _) (by omega) (by omega), ← hc, w64_id (n := ps[i] * c) (by omega) (by omega)]
        refine Yes.bind (Yes.apnd (by simp [hI]; omega) (by simp [hI]; omega) (Yes.some (hk _ ?_)))
        rw [List.take_succ_eq_append_getElem hi, List.map_append, hI]; rfl
      · exact Yes.jn (qskip (by simp) (Yes.some (by rw [hI, List.take_length])))
    subst hr
    have hc1 : 0 < c := by omega
    have g1 : Good m (ps.map (· * c)) := by
      refine ⟨hm0.1, hm0.2, by rw [List.length_map]; omega, fun x hx => ?_, ?_⟩
      · obtain ⟨y, hy, rfl⟩ := List.mem_map.1 hx
        have h1 := hp y hy
        have := mul_le h1.1 h1.2 (by omega : (0 : Int) ≤ c) (by omega : c ≤ 9)
        omega
      · rw [sum_mul]; exact Int.mul_pos hs hc1
    have g2 : Good m (ps ++ [0]) := ⟨hm0.1, hm0.2, by simp; omega, fun x hx => by
      rcases List.mem_append.1 hx with h | h
      · exact hp' x h
      · rw [List.mem_singleton.1 h]; omega, by rw [sum_zero]; exact hs⟩
    refine qbind _ (s7 g1) (qbind _ (s6 ps (by omega)) (Yes.bind (Yes.apnd (by simp; omega) (by simp; omega) (qbind _ (s7 g2) ?_))))
    rw [share_mul hc1, share_zero g]
    have hlen := share_len m ps
    refine Yes.jn (Yes.bind (qskip rfl (qskip rfl (qskip (by simp) ?_))))
    rw [w64_id (n := ((shareS m ps).length : Int) + 1) (by omega) (by omega)]
    refine qskip (by simp) (Yes.bind (Yes.idx (n := (shareS m ps).length) rfl (by simp) (Yes.some (qskip (by simp) (Yes.jn ?_)))))
    refine Yes.upto0 (shareS m ps).length (by omega) (fun _ => True) trivial (fun i k hi _ hk => ?_) (fun k _ => ?_)
    · refine Yes.jn (qtake (by simp; omega) (Yes.jn (Yes.bind (Yes.bind (Yes.idx rfl hi (Yes.bind (Yes.idx rfl hi (qskip (by simp) ?_))))))))
      refine Yes.bind (Yes.idx (n := i) rfl (by simp; omega) (Yes.bind (Yes.idx rfl hi (Yes.some (qskip ?_ (hk trivial))))))
      rw [List.getElem_append_left hi]; simp
    · exact Yes.jn (qskip (by simp) (qbind _ known_ok (Yes.some rfl)))
  have hlen := share_len m ps
  have hsum' : ∀ i, i ≤ ps.length → ((shareS m ps).take i).sum ≤ 10000000000010 ∧ 0 ≤ ((shareS m ps).take i).sum := by
    have : ∀ i, i ≤ ps.length → ((shareS m ps).take i).sum ≤ 1000000000001 * i ∧ 0 ≤ ((shareS m ps).take i).sum := by
      intro i
      induction i with
      | zero => intro _; simp
      | succ i ih =>
        intro h
        have h1 := ih (by omega)
        obtain ⟨l, e, b, c, _⟩ := share_exact g (i := i) (by omega)
        rw [sum_take _ (by rw [hlen]; omega), e]
        omega
    intro i hi
    have := this i hi
    omega
  refine Yes.lp (fun s => ∃ i : Nat, s.2 = i ∧ i ≤ ps.length ∧ s.1 = ((shareS m ps).take i).sum) (fun s => ps.length - s.2.toNat) ⟨0, rfl, Nat.zero_le _, by simp⟩ (by simp only; omega) ?_
  rintro ⟨all, i'⟩ k ⟨i, hi', hile, hall⟩ hk
  simp only at hi' hall
  subst hi'
  refine Yes.jn (Yes.cond (fun h => ?_) (fun h => ?_))
  rotate_left
  · have : i = ps.length := by simp at h; omega
    subst this
    have e : all = m := by rw [hall, List.take_of_length_le (by omega), share_sum g]
    rw [e]
    exact behind
  have hi : i < ps.length := by simp at h; omega
  have his : i < (shareS m ps).length := by omega
  obtain ⟨li, el, bl, cl, dl⟩ := share_exact g hi
  have p1 := g.prod (i : Int)
  rw [getD_in hi] at p1
  have r1 := rem_bound g (i : Int)
  have n1 : 0 ≤ li * ps.sum := Int.mul_nonneg bl (by omega)
  have hti := hsum' i (by omega)
  refine Yes.jn (Yes.bind (Yes.idx rfl hi (Yes.jn ?_)))
  refine Yes.bind (Yes.mono (Q' := fun r => r = false) ?_ fun r hr => ?_)
  · refine Yes.bind (Yes.idx rfl his ?_)
    rw [el, w64_id (n := li * ps.sum) (by omega) (by omega), w64_id (n := m * ps[i]) (by omega) (by omega), w64_id (n := m * ps[i] - ps.sum) (by omega) (by omega), w64_id (n := m * ps[i] + ps.sum) (by omega) (by omega)]
    refine qskip ?_ (Yes.bind (Yes.idx rfl his (Yes.some ?_)))
    · rw [decide_eq_false_iff_not]; omega
    · rw [el, w64_id (n := li * ps.sum) (by omega) (by omega), decide_eq_false_iff_not]; omega
  subst hr
  refine qskip rfl (Yes.bind (Yes.idx rfl his ?_))
  rw [el]
  refine Yes.upto0 (shareS m ps).length (by omega) (fun _ => True) trivial (fun j k2 hj _ hk2 => ?_) (fun k2 _ => ?_)
  · have hjp : j < ps.length := by omega
    obtain ⟨lj, ej, bj, cj, dj⟩ := share_exact g hjp
    refine Yes.jn (qtake (by simp; omega) (Yes.jn ?_))
    refine Yes.bind (Yes.idx rfl his (Yes.bind (Yes.idx rfl hj (Yes.bind (Yes.idx rfl hjp ?_)))))
    rw [el, ej]
    refine Yes.bind (Yes.mono (Q' := fun r => r = false) ?_ fun r hr => by subst hr; exact qskip rfl (hk2 trivial))
    have rest := Yes.of (rest_ok g hi hjp (by omega) el ej) (Q := fun r => r = false) rfl
    refine Yes.cond (fun hij => ?_) (fun _ => rest)
    have hij : i < j := by simp at hij; omega
    refine Yes.bind (Yes.idx rfl hi (Yes.bind (Yes.idx rfl hjp (Yes.cond (fun he => ?_) (fun _ => rest)))))
    refine Yes.bind (Yes.idx rfl his (Yes.bind (Yes.idx rfl hj ?_)))
    rw [el, ej]
    refine Yes.cond (fun hne => ?_) (fun _ => rest)
    refine Yes.bind (Yes.idx rfl his (Yes.bind (Yes.idx rfl hj ?_)))
    rw [el, ej, w64_id (n := lj + 1) (by omega) (by omega)]
    refine qskip ?_ rest
    have he : ps[i] = ps[j] := by simpa using he
    have hne : li ≠ lj := by simpa using hne
    have hrr : remS m ps i = remS m ps j := by unfold remS; rw [getD_in hi, getD_in hjp, he]
    have hpp : m * ps[i] = m * ps[j] := by rw [he]
    have hcanc : ∀ a b : Int, a * ps.sum = b * ps.sum → a = b := fun a b h => Int.eq_of_mul_eq_mul_right (by omega) h
    have : li = lj + 1 := by
      rcases dl with ⟨t1, d1, _⟩ | ⟨t1, d1⟩ <;> rcases dj with ⟨t2, d2, _⟩ | ⟨t2, d2⟩
      · exact absurd (hcanc _ _ (by omega)) hne
      · exact hcanc _ _ (by rw [Int.add_mul]; omega)
      · exact absurd (same_part g hij hjp he t2) t1
      · exact absurd (hcanc _ _ (by omega)) hne
    simp [this]
  · refine Yes.jn (qskip (by simp) ?_)
    have hl := hsum' (i + 1) (by omega)
    rw [sum_take _ his, el] at hl
    rw [w64_id (n := all + li) (by omega) (by omega), w64_id (n := (i : Int) + 1) (by omega) (by omega)]
    refine hk _ ⟨i + 1, by simp, hi, ?_⟩ (by simp only; omega)
    simp only
    rw [sum_take _ his, el, hall]
end Go.Proofs.Ytkmbkaoolacofaa
