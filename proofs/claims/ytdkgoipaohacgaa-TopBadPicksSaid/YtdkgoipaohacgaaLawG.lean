/- TopBadPicks: the plain law. -/
import Derived.Test.YtdkgoipaohacgaaLawF
import Derived.Test.YtdkgoipaohacgaaArm
set_option maxRecDepth 8000
namespace Go.Proofs.Ytdkgoipaohacgaa
open Go.RowKit
open Classical

theorem quo16 {a : Int} (ha : 0 ≤ a) (h : a ≤ 1000) : ∃ q, quo64 a 16 = some q ∧ 0 ≤ q := by
 unfold quo64
 rw [if_neg (by decide), Int.tdiv_eq_ediv_of_nonneg ha]
 have h1 : 0 ≤ a / 16 := Int.ediv_nonneg ha (by decide)
 have h2 : a / 16 ≤ 1000 := by omega
 exact ⟨_, rfl, by rw [tw64 (by omega) (by omega)]; exact h1⟩
theorem apnd16 {xs : List SeamCut} {ys : List SeamCut} (h : xs.length ≤ 100) (h' : ys.length ≤ 100) : apnd 16 xs ys = some (xs ++ ys) := Yes.eq (Yes.apnd (by omega) (by omega) rfl)
theorem line_same {m : Nat} {c c' : Nat → Bool} (h : ∀ w, w < m → c w = c' w) : line m c = line m c' := by
 unfold line
 congr 1
 exact List.map_congr_left fun w hw => by rw [h w (List.mem_range.1 hw)]
theorem dmg5 {l : FaultLoom} {y : Int} (h1 : 0 ≤ y) (h2 : y < l.Harness.Warps.length) : dmg l ⟨5, 0, 0, y, false⟩ = true := by
 simp [dmg, btw]; omega
theorem dmg1 {l : FaultLoom} {p h : Int} (h1 : 0 ≤ p) (h2 : p < l.Design.Rows.length) (h3 : 0 ≤ h) (h4 : h < l.Design.Hooks) : dmg l ⟨1, p, h, 0, false⟩ = true := by
 simp [dmg, btw]; omega
theorem s4 (x0 : Loom) (x1 : Vector UInt8 4) (x2 : Vector UInt8 3) : f4 x0 x1 x2 = some true := by
 obtain ⟨l, hl, A⟩ := arm_is x0
 have g := good_of A.ok
 have hr10 := A.r10
 have hr1 := A.r1
 have hw1 := A.w1
 have hw30 := A.w30
 obtain ⟨_, hk1, hk12⟩ := A.hk
 have iv : ∀ (k : Nat) (h : k < 4), idx x1.toList (k : Int) = some (x1.toList[k]'(by simp; omega)) := fun k h => tidx (by simp; omega)
 have u8 : ∀ c : UInt8, (c.toNat : Int) ≤ 255 := fun c => by have := c.toNat_lt; omega
 have hcp := copy_is l (by omega) (by omega)
 refine Yes.eq ?_
 unfold f4
 refine bindv _ hl ?_
 have hra : rem64 (((x1.toList[0]'(by simp)).toNat : Nat) : Int) (l.Design.Rows.length : Int) = some _ := rem_is (by omega) (by omega)
 have hrb : rem64 (((x1.toList[1]'(by simp)).toNat : Nat) : Int) l.Design.Hooks = some _ := rem_is (by omega) (by omega)
 have hrc : rem64 (((x1.toList[3]'(by simp)).toNat : Nat) : Int) (l.Harness.Warps.length : Int) = some _ := rem_is (by omega) (by omega)
 have ha1 := Int.emod_nonneg (((x1.toList[0]'(by simp)).toNat : Nat) : Int) (show (l.Design.Rows.length : Int) ≠ 0 by omega)
 have ha2 := Int.emod_lt_of_pos (((x1.toList[0]'(by simp)).toNat : Nat) : Int) (show 0 < (l.Design.Rows.length : Int) by omega)
 have hb1 := Int.emod_nonneg (((x1.toList[1]'(by simp)).toNat : Nat) : Int) (show l.Design.Hooks ≠ 0 by omega)
 have hb2 := Int.emod_lt_of_pos (((x1.toList[1]'(by simp)).toNat : Nat) : Int) (show 0 < l.Design.Hooks by omega)
 have hc1 := Int.emod_nonneg (((x1.toList[3]'(by simp)).toNat : Nat) : Int) (show (l.Harness.Warps.length : Int) ≠ 0 by omega)
 have hc2 := Int.emod_lt_of_pos (((x1.toList[3]'(by simp)).toNat : Nat) : Int) (show 0 < (l.Harness.Warps.length : Int) by omega)
 refine bindv _ (iv 0 (by omega)) (bindv _ hra (bindv _ (iv 1 (by omega)) (bindv _ hrb ?_)))
 refine Yes.bind (Yes.mono (Q' := fun d => dmg l d = true) ?_ fun d hd => ?_)
 ·refine bindv _ (iv 2 (by omega)) (u8rem_is (by decide) (Yes.cond (fun _ => ?_) (fun _ => ?_)))
  ·refine bindv _ (iv 3 (by omega)) (bindv _ hrc (Yes.some (dmg5 hc1 hc2)))
  ·exact Yes.some (dmg1 ha1 ha2 hb1 hb2)
 generalize hn : l.Design.Rows.length = n at *
 have hall : ∀ e ∈ [d], dmg l e = true := fun e he => by rw [List.mem_singleton.1 he]; exact hd
 have hall0 : ∀ e ∈ ([] : List FaultDamage), dmg l e = true := fun e he => by cases he
 have ho := open_ok (chk_ok (l := l) (ds := [d]) A.ok (by simp) hall) (show (1 : Int) ≤ (n : Int) by omega) (by omega)
 have ho0 := open_ok (chk_ok (l := l) (ds := []) A.ok (by simp) hall0) (show (1 : Int) ≤ (n : Int) by omega) (by omega)
 have h22 := s20 (k := n) (s78_one d) (by simp) hall ho ho0 g (by omega)
 have h13 := s19 (s78_one d) (by simp) hall ho
 have h13n := s19 s78_nil (by simp) hall0 ho0
 rw [Int.toNat_natCast] at h13 h13n
 rw [hn] at h22
 generalize hW : wrs _ _ = W at h22
 generalize hC : cthN l [d] n = C at h13
 generalize hR : cthN l [] n = R at h13n
 refine bindv _ hcp (bindv _ h22 (bindv _ hcp (bindv _ h13 (bindv _ hcp (bindv _ h13n (Yes.jn (bindv false ?_ (skip rfl ?_))))))))
 ·have e1 : ((C.length : Int) != (n : Int)) = false := by rw [← hC, cthN_len]; simp
  have e2 : ((R.length : Int) != (n : Int)) = false := by rw [← hR, cthN_len]; simp
  show (bif ((C.length : Int) != (n : Int)) then some true else some ((R.length : Int) != (n : Int))) = some false
  rw [e1, e2]; rfl
 have hWm : ∀ p w, p < n → w < l.Harness.Warps.length → rc l [d] (p % n) w ≠ rc l [] (p % n) w → ∃ y ∈ W, y.Pick = (p : Int) := fun p w hp hw hne => by
  refine ⟨_, by rw [← hW]; exact List.mem_map.2 ⟨((p : Int), (w : Int)), mem_pl.2 ⟨p, w, hp, hw, by simpa using hne, rfl⟩, rfl⟩, rfl⟩
 have hWin : ∀ y ∈ W, 0 ≤ y.Pick ∧ y.Pick < (n : Int) := fun y hy => by
  rw [← hW] at hy
  obtain ⟨q, hq, rfl⟩ := List.mem_map.1 hy
  obtain ⟨p, w, hp, _, _, rfl⟩ := mem_pl.1 hq
  simp only; omega
 have hWup : W.Pairwise fun a b => a.Pick ≤ b.Pick := by
  rw [← hW]; unfold wrs
  rw [List.pairwise_map]
  exact pl_up
 have hWl : W.length ≤ 100000 := by
  rw [← hW]; unfold wrs pl
  rw [List.length_map]
  have := plFrom_len (fun p w => rc l [d] (p % n) w != rc l [] (p % n) w) n l.Harness.Warps.length n
  have h3 : n * l.Harness.Warps.length ≤ 10 * 30 := Nat.mul_le_mul hr10 hw30
  omega
 refine Yes.bind (Yes.mono (bad_loop (n := (n : Int)) (by omega) hWl hWup hWin) fun bad hbad => ?_)
 obtain ⟨hbl, hbn, hbs, hbm⟩ := hbad
 refine Yes.bind (Yes.mono (Q' := Cts (n : Int)) ?_ fun cuts hcuts => ?_)
 ·refine Yes.upto 3 (by omega) (fun i ys => ys.length = i ∧ ∀ c ∈ ys, (0 ≤ c.Begin ∧ c.Begin < (n : Int)) ∧ (1 ≤ c.Picks ∧ c.Picks ≤ 8)) ⟨rfl, fun c hc => by cases hc⟩ (fun i ys k hi hI hk => ?_) (fun ys k hI => ?_)
  ·obtain ⟨h1, h2⟩ := hI
   have hx : idx x2.toList (i : Int) = some (x2.toList[i]'(by simp; omega)) := tidx (by simp; omega)
   obtain ⟨q, hq, hq0⟩ := quo16 (a := (((x2.toList[i]'(by simp; omega)).toNat : Nat) : Int)) (by omega) (by have := u8 (x2.toList[i]'(by simp; omega)); omega)
   have hr : rem64 q (n : Int) = some (q % n) := rem_is hq0 (by omega)
   have hr8 : rem64 (((x2.toList[i]'(by simp; omega)).toNat : Nat) : Int) 8 = some _ := rem_is (by omega) (by omega)
   have e1 := Int.emod_nonneg q (show (n : Int) ≠ 0 by omega)
   have e2 := Int.emod_lt_of_pos q (show 0 < (n : Int) by omega)
   have e3 := Int.emod_nonneg (((x2.toList[i]'(by simp; omega)).toNat : Nat) : Int) (show (8 : Int) ≠ 0 by omega)
   have e4 := Int.emod_lt_of_pos (((x2.toList[i]'(by simp; omega)).toNat : Nat) : Int) (show 0 < (8 : Int) by omega)
   refine Yes.jn (take (decide_eq_true (show (i : Int) < 3 by omega)) ?_)
   refine Yes.bind (bindv _ hx (bindv _ hq (bindv _ hr (bindv _ hx (bindv _ hr8 ?_)))))
   refine bindv _ (apnd16 (ys := [⟨_, _⟩]) (by omega) (by simp)) (Yes.some (hk _ ⟨by simp [h1], fun c hc => ?_⟩))
   rcases List.mem_append.1 hc with hc | hc
   ·exact h2 c hc
   ·rw [List.mem_singleton.1 hc]
    simp only
    rw [tw64 (by omega) (by omega)]
    omega
  ·exact Yes.jn (skip rfl (Yes.some hI))
 refine bindv _ (apnd16 (xs := []) (by simp) (by have := hcuts.1; omega)) ?_
 rw [List.nil_append]
 refine Yes.bind (Yes.mono (cut_is (n := (n : Int)) ⟨by omega, by omega⟩ hbl hbn hbs hcuts) fun r hr => ?_)
 obtain ⟨hr0, hr3, hrs⟩ := hr
 obtain ⟨hcl, hcc⟩ := hcuts
 refine Yes.jn (bindv false ?_ (skip rfl (Yes.jn ?_)))
 ·rw [hr0, hr3]; rfl
 refine Yes.upto0 3 (by omega) (fun _ => True) trivial (fun i k hi _ hk => ?_) (fun k _ => ?_)
 ·have hic : i < cuts.length := by omega
  have hir : i < r.1.length := by omega
  have S := hrs i hic hir
  obtain ⟨_, hp1, hp8⟩ := hcc cuts[i] (List.getElem_mem hic)
  obtain ⟨P, hP⟩ : ∃ P : Nat, cuts[i].Picks = (P : Int) := ⟨cuts[i].Picks.toNat, by omega⟩
  have hs0 := S.nn
  have hsh := S.hi
  refine Yes.jn (take (decide_eq_true (by omega)) (Yes.jn (Yes.jn ?_)))
  refine Yes.upto0 P (by omega) (fun _ => True) trivial (fun j k' hj _ hk' => ?_) (fun k' _ => ?_)
  ·refine Yes.jn (bindv _ (tidx hic) (take (decide_eq_true (by omega)) (Yes.jn (bindv _ (tidx hir) (bindv false ?_ (skip rfl (hk' trivial)))))))
   rw [tw64 (n := r.1[i] + (j : Int)) (by omega) (by omega), decide_eq_false (show ¬ r.1[i] + (j : Int) < 0 by omega), cond_false]
   by_cases hlt : r.1[i] + (j : Int) < (n : Int)
   ·obtain ⟨p, hp⟩ : ∃ p : Nat, r.1[i] + (j : Int) = (p : Int) := ⟨(r.1[i] + (j : Int)).toNat, by omega⟩
    have hpn : p < n := by omega
    have hCl : C.length = n := by rw [← hC, cthN_len]
    have hRl : R.length = n := by rw [← hR, cthN_len]
    rw [decide_eq_true hlt, cond_true, hp, tidx (show p < C.length by omega), tidx (show p < R.length by omega)]
    have hsame : C[p]'(by omega) = R[p]'(by omega) := by
     subst hC hR
     rw [cthN_at (by omega) (by omega), cthN_at (by omega) (by omega)]
     refine line_same fun w hw => ?_
     by_cases he : rc l [d] p w = rc l [] p w
     ·exact he
     ·exfalso
      obtain ⟨y, hy, hyp⟩ := hWm p w hpn hw (by rw [Nat.mod_eq_of_lt hpn]; exact he)
      have := hbm y hy
      rw [hyp] at this
      exact S.no _ this ⟨by omega, by omega⟩
    simp only [Option.bind_some]
    rw [hsame]; simp
   ·rw [decide_eq_false hlt]; rfl
  ·refine Yes.jn (bindv _ (tidx hic) (skip (decide_eq_false (by omega)) ?_))
   refine bindv _ (tidx hir) (bindv _ (rem_is hs0 (by omega)) (bindv _ (tidx hic) (skip ?_ (hk trivial))))
   rw [S.m]; simp
 ·refine Yes.jn (skip rfl ?_)
  exact Yes.bind (bindv true arm_fault_ok (take rfl (bindv true arm_seam_ok (Yes.some (Yes.some rfl)))))
end Go.Proofs.Ytdkgoipaohacgaa
