/- A slip: PaySlip. -/
import Derived.Test.YtkmbkaoolacofaaGreatLawPA
set_option maxRecDepth 8000
namespace Go.Proofs.YtkmbkaoolacofaaGreat
open Go.RowKit
open Classical

theorem chk_tok {t : PayTable} (h : TOk t) : chkR t = 0 := by
 have hb := h.b
 have hc : chkT t = 0 := by
  have hl : ¬ lng t := by
   rintro (h1 | ⟨x, hx, h1⟩)
   ·have := h.r; omega
   ·have := h.s.c x hx; have := h.d; omega
  unfold chkT
  rw [if_neg hl, if_neg (fun hh => hh h.s), if_neg (fun hh => hh h.g), if_neg (by omega)]
 unfold chkR
 rw [if_neg (by omega), hc]
theorem tok_smt {t : PayTable} (h : TOk t) : Smt t := ⟨by have := h.r; omega, fun x hx => by have := h.s.c x hx; have := h.d; omega, by have := h.s.a; have := h.r; omega, by have := h.d; omega⟩
theorem tab_tok {c i : Nat} {t : PayTable} (h : TabR c i t) (hc : 1 ≤ c ∧ c ≤ 6) (hi : 1 ≤ i ∧ i ≤ 6) : TOk t := by
 refine ⟨⟨by rw [h.r]; omega, by rw [h.d]; omega, by rw [h.a, h.r], fun x hx => by rw [(h.w x hx).1, h.d]⟩, ⟨fun x hx n hn => btw_iff.2 ?_, fun n hn => btw_iff.2 ?_, fun n hn => btw_iff.2 ?_, btw_iff.2 ?_⟩, by rw [h.r]; omega, by rw [h.d]; omega, blo_zero.2 fun r hr n hn => ?_⟩
 ·have := (h.w x hx).2 n hn; omega
 ·have := h.ba n hn; omega
 ·have := h.bd n hn; omega
 ·have := h.bt; omega
 ·have := (h.w r hr).2 n hn; omega
theorem tab_right {c i : Nat} {t : PayTable} (h : TabR c i t) : RightP t := ⟨fun j hj => h.ro j (by rw [← h.r]; exact hj), fun k hk => h.co k (by rw [← h.d]; exact hk), h.ac, h.dn⟩
structure Slip (w : PayTable) (x : PayEntry) : Prop where
 k : TOk w
 n : ¬ RightP w
 i : x ∈ ents w
 g : Good w x
theorem Slip.run {w : PayTable} {x : PayEntry} (h : Slip w x) : f35 w = some w ∧ f41 w = some (false, 0) ∧ Yes (f42 w) (fun r => r = (x, 0)) := by
 have hs := tok_smt h.k
 have hc := chk_tok h.k
 refine ⟨s35 hs, ?_, (s42 hs hc).mono fun r hr => (hr.2 h.n).1 x h.i h.g⟩
 rw [s41 hs, if_pos hc, decide_eq_false h.n]
theorem slipC {t : PayTable} (h : TOk t) (hr : RightP t) {i : Nat} (hi : i < t.Across.length) {v : Int} (hv : v ≠ t.Across[i]) (hv0 : 0 ≤ v ∧ v ≤ 1000000000) : Slip { t with Across := t.Across.set i v } ⟨2, (i : Int), 0, t.Across[i]⟩ := by
 have hi' : i < t.Rows.length := by rw [← h.s.a]; exact hi
 have hro : ∀ j, ro { t with Across := t.Across.set i v } j = if i = j then ro t j + t.Across[i] - v else ro t j := fun j => by
  unfold ro
  simp only
  rw [getD_st hi]
  by_cases hij : i = j
  ·subst hij; rw [if_pos rfl, if_pos rfl, getD_is hi]; omega
  ·rw [if_neg hij, if_neg hij]
 have hco : ∀ k, co { t with Across := t.Across.set i v } k = co t k := fun k => rfl
 have hac : ac { t with Across := t.Across.set i v } = ac t - t.Across[i] + v := by unfold ac; simp only; rw [sum_set hi]; omega
 have hdn : dn { t with Across := t.Across.set i v } = dn t := rfl
 have hk : TOk { t with Across := t.Across.set i v } := by
  refine ⟨⟨h.s.r, h.s.d, by simp [h.s.a], h.s.c⟩, ⟨h.g.m, fun n hn => ?_, h.g.d, h.g.t⟩, h.r, h.d, h.b⟩
  rcases List.mem_or_eq_of_mem_set hn with hn | rfl
  ·exact h.g.a n hn
  ·exact btw_iff.2 hv0
 have h0 := hr.r i hi'
 have h1 := hr.a
 have h2 := hr.d
 refine ⟨hk, fun hw => ?_, ?_, ?_⟩
 ·have := hw.r i hi'
  rw [hro i, if_pos rfl] at this; omega
 ·refine mem_ents.2 (.inr (.inl ⟨i, hi', ?_⟩))
  unfold entC
  congr 1
  have := hr.r i hi'
  unfold ro at this
  rw [getD_is hi] at this
  simp only
  omega
 ·have e : (⟨2, (i : Int), 0, t.Across[i]⟩ : PayEntry) = entC { t with Across := t.Across.set i v } i := by
   unfold entC
   congr 1
   have := hr.r i hi'
   unfold ro at this
   rw [getD_is hi] at this
   simp only
   omega
  rw [e]
  refine (goodC hk hi').2 ⟨fun j hj hji => ?_, fun k hk => ?_, ?_, ?_⟩
  ·rw [hro j, if_neg (fun e => hji e.symm)]; exact hr.r j hj
  ·rw [hco k]; exact hr.c k hk
  ·rw [hac, hro i, if_pos rfl]; omega
  ·rw [hdn]; exact h2
theorem slipD {t : PayTable} (h : TOk t) (hr : RightP t) {k : Nat} (hk : k < t.Down.length) {v : Int} (hv : v ≠ t.Down[k]) (hv0 : 0 ≤ v ∧ v ≤ 1000000000) : Slip { t with Down := t.Down.set k v } ⟨3, 0, (k : Int), t.Down[k]⟩ := by
 have hco : ∀ j, co { t with Down := t.Down.set k v } j = if k = j then co t j + t.Down[k] - v else co t j := fun j => by
  unfold co
  simp only
  rw [getD_st hk]
  by_cases hij : k = j
  ·subst hij; rw [if_pos rfl, if_pos rfl, getD_is hk]; omega
  ·rw [if_neg hij, if_neg hij]
 have hro : ∀ j, ro { t with Down := t.Down.set k v } j = ro t j := fun k => rfl
 have hdn : dn { t with Down := t.Down.set k v } = dn t - t.Down[k] + v := by unfold dn; simp only; rw [sum_set hk]; omega
 have hac : ac { t with Down := t.Down.set k v } = ac t := rfl
 have hkk : TOk { t with Down := t.Down.set k v } := by
  refine ⟨⟨h.s.r, by simp [h.s.d], h.s.a, fun x hx => by simp [h.s.c x hx]⟩, ⟨h.g.m, h.g.a, fun n hn => ?_, h.g.t⟩, h.r, by simp [h.d], h.b⟩
  rcases List.mem_or_eq_of_mem_set hn with hn | rfl
  ·exact h.g.d n hn
  ·exact btw_iff.2 hv0
 have h0 := hr.c k hk
 have h1 := hr.a
 have h2 := hr.d
 have hlen : k < ({ t with Down := t.Down.set k v } : PayTable).Down.length := by simp [hk]
 have e : (⟨3, 0, (k : Int), t.Down[k]⟩ : PayEntry) = entD { t with Down := t.Down.set k v } k := by
  unfold entD
  congr 1
  unfold co at h0
  rw [getD_is hk] at h0
  simp only
  omega
 refine ⟨hkk, fun hw => ?_, ?_, ?_⟩
 ·have := hw.c k hlen
  rw [hco k, if_pos rfl] at this; omega
 ·rw [e]; exact mem_ents.2 (.inr (.inr (.inl ⟨k, hlen, rfl⟩)))
 ·rw [e]
  refine (goodD hkk hlen).2 ⟨fun j hj => ?_, fun j hj hji => ?_, ?_, ?_⟩
  ·rw [hro j]; exact hr.r j hj
  ·rw [hco j, if_neg (fun e => hji e.symm)]; exact hr.c j (by simpa using hj)
  ·rw [hac]; exact h1
  ·rw [hdn, hco k, if_pos rfl]; omega
theorem slipT {t : PayTable} (h : TOk t) (hr : RightP t) {v : Int} (hv : v ≠ t.Total) (hv0 : 0 ≤ v ∧ v ≤ 1000000000) : Slip { t with Total := v } ⟨4, 0, 0, t.Total⟩ := by
 have hro : ∀ j, ro { t with Total := v } j = ro t j := fun k => rfl
 have hco : ∀ j, co { t with Total := v } j = co t j := fun k => rfl
 have hac : ac { t with Total := v } = ac t + t.Total - v := by unfold ac; simp only; omega
 have hdn : dn { t with Total := v } = dn t + t.Total - v := by unfold dn; simp only; omega
 have hkk : TOk { t with Total := v } := ⟨⟨h.s.r, h.s.d, h.s.a, h.s.c⟩, ⟨h.g.m, h.g.a, h.g.d, btw_iff.2 hv0⟩, h.r, h.d, h.b⟩
 have h1 := hr.a
 have h2 := hr.d
 have ht := btw_iff.1 h.g.t
 have e : (⟨4, 0, 0, t.Total⟩ : PayEntry) = entT { t with Total := v } := by
  unfold entT
  congr 1
  unfold ac at h1
  simp only
  omega
 refine ⟨hkk, fun hw => ?_, ?_, ?_⟩
 ·have := hw.a
  rw [hac] at this; omega
 ·rw [e]; exact mem_ents.2 (.inr (.inr (.inr rfl)))
 ·rw [e]
  refine (goodT hkk).2 ⟨fun j hj => ?_, fun j hj => ?_, ?_, ?_, ?_⟩
  ·rw [hro j]; exact hr.r j hj
  ·rw [hco j]; exact hr.c j hj
  ·rw [hac, hdn]; omega
  ·rw [hac]; simp only; omega
  ·rw [hac]; simp only; omega
theorem slipA {t : PayTable} (h : TOk t) (hr : RightP t) {i k : Nat} (hi : i < t.Rows.length) (hk : k < t.Rows[i].length) {v : Int} (hv : v ≠ t.Rows[i][k]) (hv0 : 0 ≤ v ∧ v ≤ 1000000) : Slip { t with Rows := t.Rows.set i (t.Rows[i].set k v) } ⟨1, (i : Int), (k : Int), t.Rows[i][k]⟩ := by
 have hlen := h.s.c _ (List.getElem_mem hi)
 have hkd : k < t.Down.length := by omega
 have hrow : ∀ j, (t.Rows.set i (t.Rows[i].set k v)).getD j [] = if i = j then t.Rows[i].set k v else t.Rows.getD j [] := fun j => getD_sL hi
 have hro : ∀ j, ro { t with Rows := t.Rows.set i (t.Rows[i].set k v) } j = if i = j then ro t j - t.Rows[i][k] + v else ro t j := fun j => by
  unfold ro
  simp only
  rw [hrow]
  by_cases hij : i = j
  ·subst hij; rw [if_pos rfl, if_pos rfl, sum_set hk, h.row hi]; omega
  ·rw [if_neg hij, if_neg hij]
 have hcl : (col t.Rows k).length = t.Rows.length := by simp [col]
 have hci : (col t.Rows k)[i]'(by rw [hcl]; exact hi) = t.Rows[i][k] := by simp [col, List.getElem?_eq_getElem hk]
 have hco : ∀ m, co { t with Rows := t.Rows.set i (t.Rows[i].set k v) } m = if k = m then co t m - t.Rows[i][k] + v else co t m := fun m => by
  unfold co
  simp only
  rw [col_set]
  by_cases hkm : k = m
  ·subst hkm
   rw [if_pos rfl, getD_st hk, if_pos rfl, sum_set (by rw [hcl]; exact hi), hci]; omega
  ·rw [if_neg hkm, getD_st hk, if_neg hkm]
   have hcl2 : (col t.Rows m).length = t.Rows.length := by simp [col]
   rw [sum_set (by rw [hcl2]; exact hi)]
   have : (col t.Rows m)[i]'(by rw [hcl2]; exact hi) = t.Rows[i].getD m 0 := by simp [col]
   omega
 have hac : ac { t with Rows := t.Rows.set i (t.Rows[i].set k v) } = ac t := rfl
 have hdn : dn { t with Rows := t.Rows.set i (t.Rows[i].set k v) } = dn t := rfl
 have hold := h.num (List.getElem_mem hi) (List.getElem_mem hk)
 have hnum : ∀ x ∈ t.Rows.set i (t.Rows[i].set k v), x.length = t.Down.length ∧ ∀ n ∈ x, 0 ≤ n ∧ n ≤ 1000000 := fun x hx => by
  rcases List.mem_or_eq_of_mem_set hx with hx | rfl
  ·exact ⟨h.s.c x hx, fun n hn => h.num hx hn⟩
  ·refine ⟨by simp [hlen], fun n hn => ?_⟩
   rcases List.mem_or_eq_of_mem_set hn with hn | rfl
   ·exact h.num (List.getElem_mem hi) hn
   ·exact hv0
 have hkk : TOk { t with Rows := t.Rows.set i (t.Rows[i].set k v) } := by
  refine ⟨⟨by simp [h.s.r], h.s.d, by simp [h.s.a], fun x hx => (hnum x hx).1⟩, ⟨fun x hx n hn => btw_iff.2 ?_, h.g.a, h.g.d, h.g.t⟩, by simp [h.r], h.d, blo_zero.2 fun x hx n hn => ?_⟩
  ·have := (hnum x hx).2 n hn; omega
  ·have := (hnum x hx).2 n hn; omega
 have h0 := hr.r i hi
 have h3 := hr.c k hkd
 have h1 := hr.a
 have h2 := hr.d
 have hil : i < ({ t with Rows := t.Rows.set i (t.Rows[i].set k v) } : PayTable).Rows.length := by simp [hi]
 have hent : (({ t with Rows := t.Rows.set i (t.Rows[i].set k v) } : PayTable).Rows.getD i []).getD k 0 = v := by
  simp only
  rw [hrow, if_pos rfl, getD_st hk, if_pos rfl]
 have e : (⟨1, (i : Int), (k : Int), t.Rows[i][k]⟩ : PayEntry) = entA { t with Rows := t.Rows.set i (t.Rows[i].set k v) } i k := by
  unfold entA
  congr 1
  rw [hent, hro i, if_pos rfl]; omega
 refine ⟨hkk, fun hw => ?_, ?_, ?_⟩
 ·have := hw.r i hil
  rw [hro i, if_pos rfl] at this; omega
 ·rw [e]; exact mem_ents.2 (.inl ⟨i, k, hil, hkd, rfl⟩)
 ·rw [e]
  refine (goodA hkk hil hkd).2 ⟨fun j hj hji => ?_, fun m hm hmk => ?_, ?_, ?_, ?_, ?_, ?_⟩
  ·rw [hro j, if_neg (fun e => hji e.symm)]; exact hr.r j (by simpa using hj)
  ·rw [hco m, if_neg (fun e => hmk e.symm)]; exact hr.c m hm
  ·rw [hco k, if_pos rfl, hro i, if_pos rfl]; omega
  ·rw [hac]; exact h1
  ·rw [hdn]; exact h2
  ·rw [hent, hro i, if_pos rfl]; omega
  ·rw [hent, hro i, if_pos rfl]; omega
theorem v3 (x : Vector UInt8 3) : idx x.toList (0 : Int) = some x[0] ∧ idx x.toList (1 : Int) = some x[1] ∧ idx x.toList (2 : Int) = some x[2] :=
 ⟨idx_vec (v := x) (i := 0) (by decide), idx_vec (v := x) (i := 1) (by decide), idx_vec (v := x) (i := 2) (by decide)⟩
theorem u8rem4 (a : UInt8) : ∃ r, u8rem a 4 = some r ∧ r.toNat < 4 := by
 unfold u8rem
 rw [if_neg (by decide)]
 exact ⟨_, rfl, by rw [UInt8.toNat_mod]; exact Nat.mod_lt _ (by decide)⟩
theorem s8 (x0 : Sheet) (x1 : Vector UInt8 3) (x2 : UInt16) : f8 x0 x1 x2 = some true := by
 refine Yes.eq ?_
 unfold f8
 refine Yes.bind ((s40 x0).mono fun t ht => ?_)
 obtain ⟨c, n, hc1, hc6, hn1, hn6, hT⟩ := ht
 have hk := tab_tok hT ⟨hc1, hc6⟩ ⟨hn1, hn6⟩
 have hr := tab_right hT
 have hs := tok_smt hk
 have hcr := chk_tok hk
 have h35 := s35 hs
 have h41 : f41 t = some (true, 0) := by rw [s41 hs, if_pos hcr, decide_eq_true hr]
 refine qbind _ h35 (qbind _ h41 (qbind _ h35 (Yes.bind ((s42 hs hcr).mono fun y hy => ?_))))
 have hy := hy.1 hr
 subst hy
 refine Yes.jn (qbind false rfl (qskip rfl ?_))
 obtain ⟨e0, e1, e2⟩ := v3 x1
 obtain ⟨i, hi, hi0, hi1⟩ := prem (pu8 x1[1]).1 (show (0 : Int) < (t.Rows.length : Int) by rw [hT.r]; omega)
 obtain ⟨k, hkm, hk0, hk1⟩ := prem (pu8 x1[2]).1 (show (0 : Int) < (t.Down.length : Int) by rw [hT.d]; omega)
 obtain ⟨i, rfl⟩ : ∃ m : Nat, i = (m : Int) := ⟨i.toNat, by omega⟩
 obtain ⟨k, rfl⟩ : ∃ m : Nat, k = (m : Int) := ⟨k.toNat, by omega⟩
 have hil : i < t.Rows.length := by omega
 have hkl : k < t.Down.length := by omega
 have hal : i < t.Across.length := by rw [hk.s.a]; exact hil
 have hrl : k < t.Rows[i].length := by rw [hk.s.c _ (List.getElem_mem hil)]; exact hkl
 obtain ⟨r, hr4, hrlt⟩ := u8rem4 x1[0]
 refine qbind _ e1 (qbind _ hi (qbind _ e2 (qbind _ hkm (qbind _ h35 (qbind _ e0 (qbind _ hr4 ?_))))))
 have hby := u16_nn x2
 have h1r : ((1 + r).toNat : Nat) = 1 + r.toNat := by rw [UInt8.toNat_add]; simp; omega
 rw [h1r]
 have hac := hk.acb
 refine Yes.bind (Yes.mono (Q' := fun q => Slip q.1 q.2) ?_ fun q hq => ?_)
 ·refine Yes.cond (fun h => ?_) (fun _ => Yes.cond (fun h => ?_) (fun _ => Yes.cond (fun h => ?_) (fun h4 => ?_)))
  ·have h := beq_iff_eq.1 h
   have hb := hk.num (List.getElem_mem hil) (List.getElem_mem hrl)
   refine qbind _ (qidx hil) (qbind _ (qidx hrl) (qbind _ (qidx hil) (qbind _ (qidx hil) (qbind _ (qidx hrl) (Yes.bind ((s43 hb.1 hb.2 (by omega) (by omega) hby.1 hby.2).mono fun v hv => qbind _ (qidx hrl) (Yes.some ?_)))))))
   rw [Int.toNat_natCast, Int.toNat_natCast, h]
   exact slipA hk hr hil hrl hv.1 hv.2
  ·have h := beq_iff_eq.1 h
   have hb := hac.1 _ (List.getElem_mem hal)
   refine qbind _ (qidx hal) (qbind _ (qidx hal) (Yes.bind ((s43 hb.1 hb.2 (by omega) (by omega) hby.1 hby.2).mono fun v hv => qbind _ (qidx hal) (Yes.some ?_))))
   rw [Int.toNat_natCast, h]
   exact slipC hk hr hal hv.1 hv.2
  ·have h := beq_iff_eq.1 h
   have hb := hac.2.1 _ (List.getElem_mem hkl)
   refine qbind _ (qidx hkl) (qbind _ (qidx hkl) (Yes.bind ((s43 hb.1 hb.2 (by omega) (by omega) hby.1 hby.2).mono fun v hv => qbind _ (qidx hkl) (Yes.some ?_))))
   rw [Int.toNat_natCast, h]
   exact slipD hk hr hkl hv.1 hv.2
  ·rename_i h1 h2
   have h1 := beq_eq_false_iff_ne.1 h1
   have h2 := beq_eq_false_iff_ne.1 h2
   have h4 := beq_eq_false_iff_ne.1 h4
   have h := show ((1 + r.toNat : Nat) : Int) = 4 by omega
   have hb := hac.2.2
   refine Yes.bind ((s43 hb.1 hb.2 (by omega) (by omega) hby.1 hby.2).mono fun v hv => Yes.some ?_)
   rw [h]
   exact slipT hk hr hv.1 hv.2
 ·obtain ⟨q1, q2⟩ := q
  simp only at hq
  obtain ⟨r1, r2, r3⟩ := hq.run
  refine qbind _ r1 (qbind _ r2 (qbind _ r1 (Yes.bind (r3.mono fun y hy => ?_))))
  subst hy
  exact Yes.bind (qtake rfl (qtake rfl (qtake rfl (qtake (decide_eq_true rfl) ⟨true, rfl, true, rfl, rfl⟩))))
end Go.Proofs.YtkmbkaoolacofaaGreat
