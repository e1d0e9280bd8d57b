/- TopFaulty: what f3 answers. -/
import Derived.Test.YtlmibfohllgmeaaLawFA
set_option maxRecDepth 8000
namespace Go.Proofs.Ytlmibfohllgmeaa
open Go.RowKit
open Classical

theorem fined {l : PayList} {p : Th} (h : Vl l) (hp : Ye l p) (h1 : p.Extras.length ≤ 1000) {x : Kb} (hx : 0 ≤ x.Low ∧ x.Low ≤ x.High ∧ x.High ≤ 100) : f13 l p x = some (⟨Db l p x.High, Db l p x.Low⟩, 0) := by
 refine Yes.eq ?_
 unfold f13
 refine Wi _ (s55P h hp h1) (Yes.jn (Bd rfl ?_))
 have hall : ([x.Low, x.High] : List Int).all (Js 0 100) = true := by simp [Js]; omega
 rw [s54P _ _ _ (by simp), hall]
 refine Yes.bind (Yes.bind (Yes.some (Bd rfl (Yes.some (Bd ?_ ?_)))))
 ·rw [decide_eq_false_iff_not]; omega
 ·exact Wi _ (s58P h hp h1 ⟨by omega, hx.2.2⟩) (Wi _ (s58P h hp h1 ⟨hx.1, by omega⟩) (Yes.some rfl))
theorem Od {l : PayList} {p : Th} (h : Vl l) {a b : Int} (hab : a ≤ b) : Db l p b ≤ Db l p a := by
 have hf := Wl.1 h.ok.2.2.2.1
 have : a * l.Fine ≤ b * l.Fine := Int.mul_le_mul_of_nonneg_right hab hf.1
 unfold Db Dd
 omega
theorem El {R : List Int} : ∀ {ss : List Nat} {a : Nat}, a < R.length → ∀ c ∈ wk R a ss, c ∈ R
 | [], _, _, c, hc => by cases hc
 | s :: ss, a, ha, c, hc => by
  rw [wk] at hc
  rcases List.mem_cons.1 hc with rfl | hc
  ·rw [List.getD_eq_getElem?_getD, List.getElem?_eq_getElem ha]; exact List.getElem_mem _
  ·exact El (Nat.mod_lt _ (by omega)) c hc
theorem Ev : ∀ ss : List Nat, fs ss ≤ ss.length
 | [] => Nat.le_refl _
 | s :: ss => by
  have ih := Ev ss
  have : fs (s :: ss) = fa s + fs ss := by simp [fs]
  have h1 : fa s ≤ 1 := by unfold fa; split <;> omega
  rw [this, List.length_cons]; omega
theorem fs_snoc (ss : List Nat) (s : Nat) : fs (ss ++ [s]) = fs ss + fa s := by simp [fs]
theorem crd_un (rs : List Int) : (crd rs).map un = crd rs := by
 apply List.ext_getElem (by simp)
 intro i h1 h2
 have h3 : i < rs.length := by rw [Yc] at h2; exact h2
 rw [List.getElem_map, La h2 h3]; rfl
theorem des (rows : List UInt16) : Yes (f5 1 rows) (fun d => DOk 3 d ∧ d.Rows.length ≤ 12) := by
 unfold f5
 refine Wi 1 rfl ?_
 have hp : (4 : Int) ≤ 8 := by omega
 refine Yes.bind (Yes.mono (Q' := fun d => DOk 3 d ∧ d.Rows.length ≤ 12) ?_ fun d hd => Yes.some hd)
 refine Yes.upto (max 1 (min rows.length 12)) (by omega) (fun i d => d.Hooks = 3 ∧ d.Rows.length = i ∧ ∀ r ∈ d.Rows, 0 ≤ r ∧ r < 8) ⟨rfl, rfl, by simp⟩ (fun i d k hi hI hk => ?_) (fun d k hI => ?_)
 ·obtain ⟨i1, i2, i3⟩ := hI
  have go : (bif ((i : Int) == (0 : Int)) then some (true) else bif (decide ((i : Int) < ((rows).length : Int))) then some ((decide ((i : Int) < (12 : Int)))) else some (false)) = some true := by
   refine Yes.eq (Yes.cond (fun _ => Yes.some rfl) (fun hc => ?_))
   have h0 : ¬ (i : Int) = 0 := by simpa using hc
   exact Bl (decide_eq_true (by omega)) (Yes.some (decide_eq_true (by omega)))
  refine Yes.jn (Wi true go (Bl rfl (Yes.bind (Yes.bind (Yes.mono (Q' := fun r => 0 ≤ r ∧ r < (8 : Int)) ?_ fun r hr => ?_)))))
  ·refine Yes.cond (fun hc => ?_) (fun _ => Yes.some (by omega))
   have hlt : i < rows.length := by have := of_decide_eq_true hc; omega
   refine Wi _ (Ij hlt) ?_
   rw [i1]
   refine Wi 8 rfl (Wi _ (Ax (by omega) (by omega)) (Yes.some ?_))
   exact ⟨Int.emod_nonneg _ (by omega), Int.emod_lt_of_pos _ (by omega)⟩
  ·refine Yes.bind (Yes.apnd (by rw [i2]; simp; omega) (by rw [i2]; simp; omega) (Yes.some (hk _ ⟨i1, by simp [i2], fun x hx => ?_⟩)))
   rcases List.mem_append.1 hx with hx | hx
   ·exact i3 x hx
   ·rw [List.mem_singleton.1 hx]; exact hr
 ·obtain ⟨i1, i2, i3⟩ := hI
  have fin : DOk 3 d ∧ d.Rows.length ≤ 12 := ⟨⟨i1, by omega, i3⟩, by omega⟩
  refine Yes.jn (Yes.bind (Bd ?_ ?_))
  ·exact beq_eq_false_iff_ne.2 (by omega)
  ·refine Yes.cond (fun hc => Yes.some (Bd (decide_eq_false ?_) (Yes.some fin))) (fun _ => Yes.some (Bd rfl (Yes.some fin)))
   have := of_decide_eq_true hc
   omega
theorem s3 (x0 : List UInt16) (x1 : List UInt8) (x2 : Vector UInt8 4) : f3 x0 x1 x2 = some true := by
 refine Yes.eq ?_
 unfold f3
 refine Yes.bind ((des x0).mono fun d hd => ?_)
 obtain ⟨hd, hd12⟩ := hd
 have hH : 1 ≤ 3 ∧ 3 ≤ 12 := by omega
 refine Wi _ (p42 hH hd) ?_
 obtain ⟨H0, R⟩ := d
 obtain ⟨hd1, hd2, hd3⟩ := hd
 simp only at hd1 hd2 hd3 hd12
 subst hd1
 have hcl := Yc R
 have hb : BOk 3 ⟨((3 : Nat) : Int), crd R⟩ := bok_of (rs := R) hd2 hd3 rfl (by rw [crd_un])
 refine Yes.bind ((Np x2).mono fun P hP => ?_)
 obtain ⟨hP, hPx⟩ := hP
 refine Yes.bind (Yes.mono (Q' := fun r => ∃ ss : List Nat, ss.length ≤ 20 ∧ r.2 = ss.map (fun s : Nat => (s : Int)) ∧ (∀ s ∈ ss, s ≤ 2) ∧ r.1 = ((fs ss : Nat) : Int)) ?_ fun r hr => ?_)
 ·refine Yes.upto2 (σ := Int) (τ := List Int) (min x1.length 20) (by omega) (fun i t l => ∃ ss : List Nat, ss.length = i ∧ l = ss.map (fun s : Nat => (s : Int)) ∧ (∀ s ∈ ss, s ≤ 2) ∧ t = ((fs ss : Nat) : Int)) ⟨[], rfl, rfl, by simp, rfl⟩ (fun i t l k hi hI hk => ?_) (fun t l k hI => ?_)
  ·obtain ⟨ss, i1, i2, i3, i4⟩ := hI
   have hlt : i < x1.length := by omega
   have hfs := Ev ss
   refine Yes.jn (Wi true (by rw [decide_eq_true (Int.ofNat_lt.2 hlt), decide_eq_true (show (i : Int) < 20 by omega)]; rfl) (Bl rfl (Yes.bind (Yes.bind (Yes.mono (Q' := fun b => ∃ s : Nat, s ≤ 2 ∧ b.2 = (s : Int) ∧ b.1 = ((fs ss + fa s : Nat) : Int)) ?_ fun b hb => ?_)))))
   ·refine Wi _ (Ij hlt) (Wi _ rfl (Yes.cond (fun _ => ?_) (fun _ => Yes.some ⟨1, by omega, rfl, by rw [i4]; simp [fa]⟩)))
    have hb := zu8 x1[i]
    have hq : Xz ((x1[i]).toNat : Int) (4 : Int) = some (((x1[i]).toNat : Int) / 4) := by
     unfold Xz
     rw [if_neg (by decide), Int.tdiv_eq_ediv_of_nonneg hb.1, Qw (by omega) (by omega)]
    refine Wi _ (Ij hlt) (Wi _ hq (Wi _ (Ax (by omega) (by omega)) (Yes.some ?_)))
    have hm := Int.emod_two_eq (((x1[i]).toNat : Int) / 4)
    rw [i4, zw64 (by omega) (by omega)]
    rcases hm with hm | hm
    ·exact ⟨0, by omega, by rw [hm]; rfl, by simp [fa]⟩
    ·exact ⟨2, by omega, by rw [hm]; rfl, by simp [fa]⟩
   ·obtain ⟨s, b1, b2, b3⟩ := hb
    refine Yes.bind (Yes.apnd (by rw [i2]; simp; omega) (by rw [i2]; simp; omega) (Yes.some (hk _ _ ⟨ss ++ [s], by simp [i1], by rw [i2, b2]; simp, fun z hz => ?_, by rw [b3, fs_snoc]⟩)))
    rcases List.mem_append.1 hz with hz | hz
    ·exact i3 z hz
    ·rw [List.mem_singleton.1 hz]; exact b1
  ·obtain ⟨ss, i1, i2, i3, i4⟩ := hI
   refine Yes.jn (Wi false ?_ (Bd rfl (Yes.some ⟨ss, by omega, i2, i3, i4⟩)))
   by_cases h20 : x1.length ≤ 20
   ·rw [decide_eq_false (by omega)]; rfl
   ·rw [decide_eq_true (by omega), decide_eq_false (by omega)]; rfl
 obtain ⟨t, l⟩ := r
 obtain ⟨ss, i1, i2, i3, i4⟩ := hr
 simp only at i2 i4
 subst i2
 subst i4
 have hfs := Ev ss
 refine Yes.jn (Wi false (by
  show (bif ((0 : Int) != 0) then some true else some (((crd R).length : Int) == 0)) = some false
  rw [hcl, show ((0 : Int) != 0) = false from rfl, cond_false, beq_eq_false_iff_ne.2 (by omega)]) (Bd rfl ?_))
 have hv : ∀ (q : Nat) (h : q < 4), idx x2.toList (q : Int) = some (x2.toList[q]'(by simp; omega)) := fun q h => Ij (by simp; omega)
 obtain ⟨a, ha, ha0, ha1⟩ := zrem (a := ((x2.toList[0]'(by simp)).toNat : Int)) (b := ((crd R).length : Int)) (by omega) (by omega)
 obtain ⟨a, rfl⟩ := Int.eq_ofNat_of_zero_le ha0
 have haR : a < R.length := by omega
 have hwl := At (R := R) (ss := ss) (a := a)
 have hG := Er (R := R) ss a i3
 refine Wi _ (c59 hb) (Wi _ (hv 0 (by omega)) (Wi _ ha (Wi _ (c11 _ (by simp; omega)) (Wi _ (g11 hH hb haR i3 (by omega)) (Wi _ (c59 hb) (Wi _ (c11 _ (by simp only [hwl]; omega)) ?_))))))
 refine Yes.bind ((g19 hH hb (C := wk R a ss) (fun c hc => hd3 c (El haR c hc)) (by omega) ⟨a, haR, by omega⟩).mono fun r hr => ?_)
 obtain ⟨r1, r2, few, e⟩ := r
 obtain ⟨he, ⟨m, hm, hmin⟩, _⟩ := hr
 simp only at he hm
 subst he
 subst hm
 have hle : m ≤ fs ss := Nat.le_trans (hmin a haR) hG
 have hpc : ∀ n : Int, 0 ≤ n ∧ n ≤ 100 → Ye P ⟨0, 50, 3000, [], n⟩ := fun n hn => ⟨rfl, rfl, rfl, Wl.2 hn, fun x hx => (by cases hx), rfl⟩
 have h1 := hpc (fs ss : Nat) (by omega)
 have h2 := hpc (m : Nat) (by omega)
 have hP6 := hP.r6
 have hc19 := c19 P (by omega) (by rw [hPx]; simp)
 refine Yes.jn (Wi false ?_ (Bd rfl ?_))
 ·rw [decide_eq_false (show ¬ ((m : Nat) : Int) < 0 by omega), decide_eq_false (show ¬ ((m : Nat) : Int) > ((fs ss : Nat) : Int) by omega)]; rfl
 refine Wi _ hc19 (Wi _ (s16P hP h1 (by simp)) (Wi _ hc19 (Wi _ rfl (Wi _ (fined hP h1 (by simp) (by simp only; omega)) (Wi _ hc19 (Wi _ (s16P hP h2 (by simp)) (Yes.bind ?_)))))))
 have hw := Od (p := ⟨0, 50, 3000, [], ((fs ss : Nat) : Int)⟩) hP (a := ((m : Nat) : Int)) (b := ((fs ss : Nat) : Int)) (by omega)
 refine Bl rfl (Bl rfl (Bl rfl (Bl (decide_eq_true hw) (Wi _ rfl (Bl (decide_eq_true rfl) (Wi _ Lo (Bl rfl (Wi _ Mb (Yes.some (Yes.some rfl))))))))))
end Go.Proofs.Ytlmibfohllgmeaa
