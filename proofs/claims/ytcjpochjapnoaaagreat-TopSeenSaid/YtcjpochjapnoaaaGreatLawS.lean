/- TopSeen: the plain law. -/
import Derived.Test.YtcjpochjapnoaaaGreatLawW
import Derived.Test.YtcjpochjapnoaaaGreatPub
set_option maxRecDepth 8000
namespace Go.Proofs.YtcjpochjapnoaaaGreat
open Go.RowKit
open Classical

theorem take_any {xs : List FaultDamage} {d : FaultDamage} {i : Nat} (hi : i < xs.length) : decide (d ∈ xs.take (i + 1)) = (decide (d ∈ xs.take i) || decide (xs[i] = d)) := by
 have : (d ∈ xs.take i ++ [xs[i]]) ↔ (d ∈ xs.take i ∨ xs[i] = d) := by rw [List.mem_append, List.mem_singleton]; exact or_congr Iff.rfl eq_comm
 rw [← List.take_succ_eq_append_getElem hi] at this
 by_cases h1 : d ∈ xs.take i <;> by_cases h2 : xs[i] = d <;> simp [this, h1, h2]
theorem s3 (x0 : List UInt16) (x1 : Vector UInt8 3) (x2 : Vector UInt8 4) : f3 x0 x1 x2 = some true := by
 refine Yes.eq ?_
 unfold f3
 refine Yes.bind (Yes.idx (n := 2) rfl (by simp) ?_)
 refine Yes.bind ((clo_is _ x0).mono fun l C => ?_)
 refine Yes.bind ((prices_is x2).mono fun p hp => ?_)
 refine Yes.bind ((damage_is C x1).mono fun d hd => ?_)
 have g := good_ofF C.ok
 have hr := C.r
 have hw := C.w
 have fr : f9 l = some l := c7 l (by omega) (by omega)
 have hal : f8 l = some (showsF l, 0) := by rw [s47F, if_pos C.ok]
 have hx : ∀ x ∈ [d], dmgF l x = true := fun x hx => by rw [List.mem_singleton.1 hx]; exact hd
 have hc1 := chk_okF (ds := [d]) C.ok (by simp) hx
 have hc0 := chk_okF (ds := []) C.ok (by simp) fun x hx => by cases hx
 have hok : ∀ k : Nat, 1 ≤ k → k ≤ 120 → f10 l [d] k = _ := fun k h1 h2 => s20F (s78_oneF d) (by simp) hx (open_okF hc1 (by omega) (by omega)) (open_okF hc0 (by omega) (by omega)) g h2
 have hno : f10 l [] (l.Design.Rows.length : Nat) = _ := s20F (ds := []) s78_nilF (by simp) (fun x hx => by cases hx) (open_okF hc0 (by omega) (by omega)) (open_okF hc0 (by omega) (by omega)) g (by omega)
 have w1 := hok l.Design.Rows.length (by omega) (by omega)
 have w2 := hok (l.Design.Rows.length + l.Design.Rows.length) (by omega) (by omega)
 rw [mod_rowF g] at w1 hno
 rw [pl_twoF (fun p w => rcF l [d] p w != rcF l [] p w) l.Design.Rows.length l.Harness.Warps.length] at w2
 have hapl : (plF l.Design.Rows.length l.Harness.Warps.length fun p w => rcF l [d] p w != rcF l [] p w) = aplF l [d] [] := rfl
 rw [hapl] at w2
 have hapn : aplF l [] [] = [] := by
  unfold aplF
  rw [pl_rangeF]
  have : ∀ i, rowFromF (fun w => rcF l [] i w != rcF l [] i w) i l.Harness.Warps.length l.Harness.Warps.length = [] := fun i => by
   have : ∀ k, rowFromF (fun w => rcF l [] i w != rcF l [] i w) i l.Harness.Warps.length k = [] := fun k => by
    induction k with
    | zero => rfl
    | succ k ih => unfold rowFromF; rw [ih]; simp
   exact this _
  exact List.flatMap_eq_nil_iff.2 fun i _ => this i
 rw [hapn] at hno
 generalize hc : (fun p w => rcF l [d] (p % l.Design.Rows.length) w) = c at w1 w2
 have hsl := shows_lenF g
 have hlen : (aplF l [d] []).length ≤ 1000 := by
  have := plFrom_lenF (fun p w => rcF l [d] p w != rcF l [] p w) l.Design.Rows.length l.Harness.Warps.length l.Design.Rows.length
  have h2 : l.Design.Rows.length * l.Harness.Warps.length ≤ 12 * 20 := Nat.mul_le_mul (by omega) (by omega)
  unfold aplF plF; omega
 have hshow : decide (d ∈ showsF l) = decide (((aplF l [d] []).length : Int) > 0) := by
  rw [decide_eq_decide, mem_showsF hd, sh_placesF g]
  constructor
  ·intro h
   have := List.length_pos_iff.2 h
   omega
  ·intro h e
   rw [e] at h; simp at h
 have hwl : (wrsF c (aplF l [d] [] ++ (aplF l [d] []).map (shiftPF l.Design.Rows.length))).length = 2 * (aplF l [d] []).length := by rw [wrs_lenF, List.length_append, List.length_map]; omega
 have hwl1 : (wrsF c (aplF l [d] [])).length = (aplF l [d] []).length := wrs_lenF _ _
 generalize hq1 : wrsF c (aplF l [d] []) = q1 at w1 hwl1
 generalize hq2 : wrsF c (aplF l [d] [] ++ (aplF l [d] []).map (shiftPF l.Design.Rows.length)) = q2 at w2 hwl
 generalize (aplF l [d] []).length = m at hlen hshow hwl hwl1
 refine qbind _ fr (qbind _ hal (Yes.jn (qskip rfl ?_)))
 generalize showsF l = xs at hsl hshow
 refine Yes.bind (Yes.mono (Q' := fun b => b = decide (d ∈ xs)) ?_ fun u hu => ?_)
 ·refine Yes.upto (σ := Bool) xs.length (by omega) (fun i s => s = decide (d ∈ xs.take i)) (by simp) (fun i s k hi hI hk => ?_) (fun s k hI => ?_)
  ·refine Yes.jn (qtake (by simp; omega) (Yes.jn (Yes.bind ?_)))
   refine Yes.cond (fun h => Yes.some (hk _ ?_)) (fun h => Yes.bind (Yes.idx rfl hi (Yes.some (hk _ ?_))))
   ·rw [take_any hi, ← hI, h]; rfl
   ·rw [take_any hi, ← hI, h]; simp
  ·refine Yes.jn (qskip (by simp) (Yes.some ?_))
   rw [hI, List.take_length]
 subst hu
 rw [hshow]
 refine Yes.jn ?_
 have hE := earn_bound (d := 50) hp (p := 5000) (by decide)
 have hmm : ∀ n : Nat, 0 ≤ min64 100 (n : Int) ∧ min64 100 (n : Int) ≤ 100 := fun n => by rw [min64_eq]; omega
 have hcap : 0 ≤ p.Cap ∧ p.Cap ≤ 1000 := by obtain ⟨a, b, c, f, k, rfl, -, -, -, -, h⟩ := hp; exact h
 refine Yes.lp (fun s => (s = (0, 1)) ∨ (s = (fineP p (earnP p 50 5000) (min64 100 (m : Int)), 2)) ∨ s.2 = 3) (fun s => (3 - s.2).toNat) (.inl rfl) (by decide) ?_
 rintro ⟨last, k⟩ K hI hk
 refine Yes.jn ?_
 have key : k ≤ 2 → ∃ (q : List FaultSight) (mm : Nat), f10 l [d] (w64 (k * (l.Design.Rows.length : Int))) = some (q, 0) ∧ q.length = mm ∧ (0 < mm ↔ 0 < m) ∧ last ≤ fineP p (earnP p 50 5000) (min64 100 (mm : Int)) ∧
   Yes (K (fineP p (earnP p 50 5000) (min64 100 (mm : Int)), w64 (k + 1))) (fun r => r = true) := fun hk2 => by
  rcases hI with h | h | h
  ·injection h with h1 h2; subst h1; subst h2
   refine ⟨q1, m, ?_, hwl1, Iff.rfl, (fine_bound hp hE (hmm m)).1, ?_⟩
   ·rw [Int.one_mul, w64_id (by omega) (by omega)]; exact w1
   ·exact hk (_, 2) (.inr (.inl rfl)) (by simp)
  ·injection h with h1 h2; subst h1; subst h2
   refine ⟨q2, 2 * m, ?_, hwl, by omega, fine_mono hp (by rw [min64_eq, min64_eq]; omega), ?_⟩
   ·rw [w64_id (by omega) (by omega), show (2 : Int) * (l.Design.Rows.length : Int) = ((l.Design.Rows.length + l.Design.Rows.length : Nat) : Int) by omega]; exact w2
   ·exact hk (_, 3) (.inr (.inr rfl)) (by simp)
  ·simp only at h; omega
 by_cases hk2 : k ≤ 2
 ·obtain ⟨q, mm, e1, e2, e3, e4, e5⟩ := key hk2
  have hF := fine_bound hp hE (hmm mm)
  refine qtake (decide_eq_true hk2) (Yes.jn (Yes.jn (qbind _ fr (qbind _ e1 (qbind _ (s12 hp) ?_)))))
  simp only [e2]
  refine qbind _ (s11 hp (w := 0) (by decide) (by decide) (by decide) (hmm mm)) (Yes.jn ?_)
  have hcl : earnP p 50 5000 * p.Cap ≤ 510000 * 1000 := Int.mul_le_mul hE.2 hcap.2 hcap.1 (by decide)
  have hcl0 : 0 ≤ earnP p 50 5000 * p.Cap := Int.mul_nonneg hE.1 hcap.1
  refine qbind false ?_ (qskip rfl e5)
  simp only
  clear key hk e5 hI hok w1 w2 hno
  generalize hfe : fineP p (earnP p 50 5000) (min64 100 (mm : Int)) = F at e4 hF ⊢
  generalize earnP p 50 5000 = E at hE hF hcl hcl0 hfe ⊢
  rw [qw64 (n := F * 1000) (by omega) (by omega), qw64 (n := E * p.Cap) (by omega) (by omega), qw64 (n := F + (E - F)) (by omega) (by omega)]
  have a1 : (decide ((mm : Int) > 0) == decide ((m : Int) > 0)) = true := by
   rw [beq_iff_eq, decide_eq_decide]; omega
  have a2 : decide (F < last) = false := decide_eq_false (by omega)
  have a3 : decide (F * 1000 > E * p.Cap) = false := decide_eq_false (by omega)
  have a4 : (E != F + (E - F)) = false := by simp; omega
  rw [a1, a2, a3, a4]
  simp only [bne_self_eq_false, cond_false, Bool.not_true]
  by_cases hm0 : (m : Int) > 0
  ·have hm1 : 0 < m := by omega
   simp [hm1]
  ·have : mm = 0 := by omega
   subst this
   have : F = 0 := by
    rw [← hfe, show min64 100 ((0 : Nat) : Int) = 0 from rfl]
    obtain ⟨a, b, c, f, kk, rfl, -, -, -, hf, hkk⟩ := hp
    unfold fineP prc at *
    simp only at *
    have : 0 ≤ E * kk := hcl0
    omega
   subst this
   simp [hm0]
 ·refine qskip (decide_eq_false hk2) (Yes.jn (qbind _ fr (qbind _ hno (Yes.bind ?_))))
  refine qtake rfl (qtake rfl (qbind true pubFault_ok (qtake rfl (qbind true pubPay_ok (Yes.some ?_)))))
  exact Yes.some rfl
end Go.Proofs.YtcjpochjapnoaaaGreat
