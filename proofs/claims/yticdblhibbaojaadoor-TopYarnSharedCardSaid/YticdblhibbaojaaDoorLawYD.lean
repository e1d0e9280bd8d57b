/- TopYarnShared: the harness. -/
import Derived.Test.YticdblhibbaojaaDoorLawYC
set_option maxRecDepth 8000
namespace Go.Proofs.YticdblhibbaojaaDoor
open Go.RowKit
open Classical

theorem pub6 : f6 = some true := by kernel_rfl
theorem pub7 : f7 = some true := by kernel_rfl
theorem vidx {α : Type} {n : Nat} (v : Vector α n) {i : Int} (h : 0 ≤ i ∧ i < n) : ∃ c, idx v.toList i = some c := by
 obtain ⟨k, rfl⟩ : ∃ k : Nat, i = k := ⟨i.toNat, by omega⟩
 exact ⟨_, zidx (by rw [Vector.length_toList]; omega)⟩
theorem mem_sum {xs : List Int} (h0 : ∀ x ∈ xs, 0 ≤ x) {x : Int} (hx : x ∈ xs) : x ≤ xs.sum := by
 obtain ⟨i, hi, rfl⟩ := List.getElem_of_mem hx
 have h1 := sum_take h0 (i + 1)
 have h2 := sum_take (xs := xs.take i) (fun x hx => h0 x (List.mem_of_mem_take hx)) 0
 have h3 := take_next hi
 simp at h2; omega
theorem sp_ne {a : Int} (h : a = 0) : (!(decide ((⟨a, a⟩ : Span) = ⟨0, 0⟩))) = false := by subst h; simp
theorem sp_ne2 {a b : Int} (h : a = b) : (!(decide ((⟨a, a⟩ : Span) = ⟨b, b⟩))) = false := by subst h; simp
theorem s3 (x0 : List (Vector UInt8 3)) (x1 : Vector UInt8 5) (x2 : Vector UInt8 2) : f3 x0 x1 x2 = some true := by
 refine Yes.eq ?_
 unfold f3
 refine Yes.bind (Yes.mono (Q' := Lots) ?_ fun l hl => ?_)
 ·refine Yes.mono (Q' := fun l => l.length ≤ 6 ∧ ∀ x ∈ l, (0 ≤ x.Colour ∧ x.Colour ≤ 1) ∧ (0 ≤ x.Shade.Low ∧ x.Shade.Low ≤ x.Shade.High ∧ x.Shade.High ≤ 1000) ∧ 1 ≤ x.Grams ∧ x.Grams ≤ 2000) ?_ fun l h => ⟨h.1, h.2⟩
  have hmin : min x0.length 6 ≤ 6 := Nat.min_le_right _ _
  refine Yes.upto (σ := List ShadeLot) (min x0.length 6) (by omega) (fun i s => s.length = i ∧ ∀ x ∈ s, (0 ≤ x.Colour ∧ x.Colour ≤ 1) ∧ (0 ≤ x.Shade.Low ∧ x.Shade.Low ≤ x.Shade.High ∧ x.Shade.High ≤ 1000) ∧ 1 ≤ x.Grams ∧ x.Grams ≤ 2000) ⟨rfl, by simp⟩ (fun i s k hi hI hk => ?_) (fun s k hI => ?_)
  ·have hi0 : i < x0.length := by omega
   obtain ⟨c0, h0⟩ := vidx x0[i] (i := 0) (by decide)
   obtain ⟨c1, h1⟩ := vidx x0[i] (i := 1) (by decide)
   obtain ⟨c2, h2⟩ := vidx x0[i] (i := 2) (by decide)
   have b0 := zu8 c0; have b1 := zu8 c1; have b2 := zu8 c2
   obtain ⟨r, hr, r0, r1⟩ := zrem (b := 2) b1.1 (by decide)
   have hq : quo64 ((c1).toNat : Int) 2 = some (((c1.toNat : Nat) : Int) / 2) := by
    unfold quo64
    rw [if_neg (by decide), Int.tdiv_eq_ediv_of_nonneg b1.1, zw64 (by omega) (by omega)]
   obtain ⟨q, hq2, q0, q1⟩ := zrem (a := ((c1.toNat : Nat) : Int) / 2) (b := 30) (by omega) (by decide)
   have e1 : w64 (((c0.toNat : Nat) : Int) + q) = ((c0.toNat : Nat) : Int) + q := zw64 (by omega) (by omega)
   have e2 : w64 (7 * ((c2.toNat : Nat) : Int)) = 7 * ((c2.toNat : Nat) : Int) := zw64 (by omega) (by omega)
   have e3 : w64 (1 + 7 * ((c2.toNat : Nat) : Int)) = 1 + 7 * ((c2.toNat : Nat) : Int) := zw64 (by omega) (by omega)
   refine Yes.jn (Yes.bind (ztake (decide_eq_true (by omega)) (Yes.some (ztake (decide_eq_true (by omega)) (Yes.bind (zbind _ (zidx hi0) (zbind _ h0 (zbind _ (zidx hi0) (zbind _ h1 (zbind _ hr (zbind _ (zidx hi0) (zbind _ h1 (zbind _ hq (zbind _ hq2 (zbind _ rfl (zbind _ (zidx hi0) (zbind _ h2 (Yes.bind (Yes.apnd (by simp; omega) (by simp; omega) (Yes.some (hk _ ⟨?_, ?_⟩)))))))))))))))))))))
   ·simp [hI.1]
   ·intro x hx
    rcases List.mem_append.1 hx with hx | hx
    ·exact hI.2 x hx
    ·obtain rfl := List.mem_singleton.1 hx
     simp only [e1, e2, e3]
     omega
  ·refine Yes.jn (Yes.bind ?_)
   by_cases hc : min x0.length 6 < x0.length
   ·exact ztake (decide_eq_true (by omega)) (Yes.some (zskip (decide_eq_false (by omega)) (Yes.some ⟨by omega, hI.2⟩)))
   ·exact zskip (decide_eq_false (by omega)) (Yes.some (zskip rfl (Yes.some ⟨by omega, hI.2⟩)))
 have hn := hl.n
 obtain ⟨c0, h0⟩ := vidx x2 (i := 0) (by decide)
 obtain ⟨c1, h1⟩ := vidx x2 (i := 1) (by decide)
 have b0 := zu8 c0; have b1 := zu8 c1
 have e2 : w64 (9 * ((c0.toNat : Nat) : Int)) = 9 * ((c0.toNat : Nat) : Int) := zw64 (by omega) (by omega)
 have e3 : w64 (1 + w64 (9 * ((c0.toNat : Nat) : Int))) = 1 + 9 * ((c0.toNat : Nat) : Int) := by rw [e2]; exact zw64 (by omega) (by omega)
 refine zbind _ h0 (zbind _ h1 (Yes.bind (Yes.apnd (by simp; omega) (by simp; omega) ?_)))
 rw [e3]
 refine Yes.bind (Yes.mono (y5 (l := l) hl (by omega) (q := ⟨0, 1 + 9 * ((c0.toNat : Nat) : Int)⟩) rfl (by simp only; omega)) fun v hv => Yes.jn ?_)
 obtain ⟨b, er⟩ := v
 rcases hv with hv | ⟨hv, hb⟩
 ·simp only [Prod.mk.injEq] at hv
  obtain ⟨rfl, rfl⟩ := hv
  exact ztake rfl (Yes.bind (ztake rfl (zbind _ pub6 (ztake rfl (zbind _ pub7 (Yes.some (Yes.some rfl)))))))
 simp only at hv hb
 subst hv
 refine zskip rfl (Yes.jn ?_)
 dsimp only
 have hb6 := hb.n
 refine Yes.upto (σ := Int) b.length (by omega) (fun i s => s = gs l (b.take i)) (by simp [gs]) (fun i s k hi hI hk => ?_) (fun s k hI => ?_)
 ·obtain ⟨m0, m1, m2⟩ := hb.m _ (List.getElem_mem hi)
  have hlt := lt_idx (l := l) ⟨m0, m1⟩
  obtain ⟨_, _, g1, g2⟩ := hl.ok _ (lt_mem (l := l) ⟨m0, m1⟩)
  have hcol : ((lt l b[i]).Colour != 0) = false := by rw [m2]; rfl
  refine ztake (decide_eq_true (by omega)) (Yes.jn (Yes.bind (Yes.mono (Q' := fun m => m = false) ?_ fun m hm => ?_)))
  ·refine zbind _ (zidx hi) (zskip (decide_eq_false (by omega)) (zbind _ (zidx hi) (zskip (decide_eq_false (by omega)) (Yes.cond (fun hc => ?_) (fun _ => zbind _ (zidx hi) (zbind _ hlt (Yes.some hcol)))))))
   have hc := of_decide_eq_true hc
   have e : w64 ((i : Int) - 1) = ((i - 1 : Nat) : Int) := by rw [zw64 (by omega) (by omega)]; omega
   have hlt2 : b[i - 1] < b[i] := List.pairwise_iff_getElem.1 hb.asc _ _ (by omega) hi (by omega)
   exact zbind _ (zidx hi) (zbind b[i - 1] (by rw [e]; exact zidx (by omega)) (zskip (decide_eq_false (by omega)) (zbind _ (zidx hi) (zbind _ hlt (Yes.some hcol)))))
  subst hm
  refine zskip rfl (zbind _ (zidx hi) (zbind _ hlt (Yes.bind (Yes.mono (Q' := fun ps => ps.length = 6 ∧ (∀ x ∈ ps, (0 : Int) ≤ x ∧ x ≤ 1000) ∧ 1 ≤ ps.sum) ?_ fun ps hps => ?_))))
  ·refine Yes.upto (σ := List Int) 5 (by decide) (fun i s => s.length = i + 1 ∧ (∀ x ∈ s, (0 : Int) ≤ x ∧ x ≤ 1000) ∧ 1 ≤ s.sum) ⟨rfl, by simp, by simp⟩ (fun i s k hi hI hk => ?_) (fun s k hI => ?_)
   ·obtain ⟨c, hc⟩ := vidx x1 (i := (i : Int)) (by omega)
    have bc := zu8 c
    have hsl : s.length = i + 1 := hI.1
    have hap : apnd 8 s [((c.toNat : Nat) : Int)] = some (s ++ [((c.toNat : Nat) : Int)]) := zapnd8 (by omega)
    refine Yes.jn (ztake (decide_eq_true (by omega)) (Yes.bind (zbind _ hc (zbind _ hap (Yes.some (hk _ ⟨?_, ?_, ?_⟩))))))
    ·rw [List.length_append, hI.1]; rfl
    ·intro x hx
     rcases List.mem_append.1 hx with hx | hx
     ·exact hI.2.1 x hx
     ·rw [List.mem_singleton.1 hx]
      exact ⟨bc.1, Int.le_trans bc.2 (by decide)⟩
    ·rw [List.sum_append, List.sum_singleton]
     exact Int.le_trans hI.2.2 (Int.le_add_of_nonneg_right bc.1)
   ·exact Yes.jn (zskip rfl (Yes.some hI))
  obtain ⟨p1, p2, p3⟩ := hps
  have G : GoodS (lt l b[i]).Grams ps := ⟨by omega, by omega, by omega, p2, by omega⟩
  have hss := share_sumS G
  have hsl := share_lenS (lt l b[i]).Grams ps
  have hs0 : ∀ x ∈ shareSS (lt l b[i]).Grams ps, 0 ≤ x := fun x hx => by
   obtain ⟨j, hj, rfl⟩ := List.getElem_of_mem hx
   exact (share_nnS G hj).1
  generalize hS : shareSS (lt l b[i]).Grams ps = ss at *
  have hf8 : f8 (lt l b[i]).Grams ps = some (ss, 0) := by rw [s7S G, hS]
  generalize hM : (lt l b[i]).Grams = M at *
  have hs2 : ∀ x ∈ ss, 0 ≤ x ∧ x ≤ 2000 := fun x hx => ⟨hs0 x hx, by have := mem_sum hs0 hx; omega⟩
  have h6 : ss.length = 6 := by omega
  refine zbind _ hf8 (Yes.jn (Yes.bind (zskip rfl (Yes.some (zskip (by simp only [h6]; rfl) ?_)))))
  refine Yes.jn ?_
  refine Yes.upto (σ := List ShadeEntry) 6 (by decide) (fun i s => s = (ss.take i).map eY) rfl (fun j s k2 hj hI2 hk2 => ?_) (fun s k2 hI2 => ?_)
  ·subst hI2
   have hjl : j < ss.length := by omega
   have key : ∀ {R : Option Bool}, R = (idx ss (j : Int)).bind (fun uQ => bif (decide (uQ < (0 : Int))) then some false else (idx ss (j : Int)).bind fun qI => (apnd 16 ((ss.take j).map eY) ([(⟨(1 : Int), qI⟩ : ShadeEntry)] : List ShadeEntry)).bind fun tQ => k2 (tQ, w64 ((j : Int) + 1))) → Yes R fun r => r = true := fun hR => by
    rw [hR]
    refine zbind _ (zidx hjl) (zskip (decide_eq_false (by have := hs0 _ (List.getElem_mem hjl); omega)) (zbind _ (zidx hjl) (Yes.bind (Yes.apnd (by simp; omega) (by simp; omega) (hk2 _ ?_)))))
    rw [List.take_succ_eq_append_getElem hjl, List.map_append]; rfl
   refine ztake (decide_eq_true (by omega)) (Yes.jn (Yes.jn (Yes.cond (fun hc => ?_) (fun _ => key rfl))))
   have hc : j = 5 := by simp at hc; omega
   have h5 : (ss.take 5).sum + ss[5] = ss.sum := by
    rw [← take_next (by omega), List.take_of_length_le (by omega)]
   have hf9 : f9 M 0 ([] ++ (ss.take j).map eY) = some (⟨M - (ss.take j).sum, M - (ss.take j).sum⟩, 0, 0) :=
    y9 (by rw [List.length_take]; omega) (fun x hx => hs2 x (List.mem_of_mem_take hx)) (by have := sum_take hs0 j; omega) (by omega)
   have i5 : idx ss (5 : Int) = some ss[5] := zidx (i := 5) (by omega)
   refine Yes.bind (Yes.apnd (by simp; omega) (by simp; omega) (zbind _ hf9 (Yes.bind (zskip rfl (zbind _ i5 (zbind _ i5 (zbind _ rfl (Yes.some (zskip (sp_ne2 ?_) (key rfl))))))))))
   rw [hc]; omega
  ·subst hI2
   have ht6 : ss.take 6 = ss := List.take_of_length_le (by omega)
   have hf9 : f9 M 0 ([] ++ (ss.take 6).map eY) = some (⟨M - ss.sum, M - ss.sum⟩, 0, 0) := by
    rw [ht6]; exact y9 (by omega) hs2 (by omega) (by omega)
   have hap : apnd 16 [] ((ss.take 6).map eY) = some ([] ++ (ss.take 6).map eY) := Yes.eq (Yes.apnd (by simp; omega) (by simp; omega) rfl)
   refine Yes.jn (zskip ?_ ?_)
   ·rfl
   refine zbind _ hap (zbind _ hf9 (Yes.bind (zskip rfl (Yes.some (zskip (sp_ne ?_) (hk _ ?_))))))
   ·omega
   ·have hg := gs_rng hl (b := b.take (i + 1)) fun x hx => ⟨(hb.m x (List.mem_of_mem_take hx)).1, (hb.m x (List.mem_of_mem_take hx)).2.1⟩
    have hlen : (b.take (i + 1)).length ≤ 6 := by rw [List.length_take]; omega
    rw [hI]
    show w64 (gs l (b.take i) + M) = _
    rw [gs_take hi, hM] at hg ⊢
    exact w64_id (by omega) (by omega)
 ·refine zskip (decide_eq_false (by omega)) (Yes.jn (Yes.bind (ztake (decide_eq_true ?_) (zbind _ pub6 (ztake rfl (zbind _ pub7 (Yes.some (Yes.some (Q := fun r => r = true) rfl))))))))
  rw [hI, List.take_length]; exact hb.g
end Go.Proofs.YticdblhibbaojaaDoor
