/- Plain laws: all entries of a table (PayMends). -/
import Derived.Test.YtkmbkaoolacofaaGreatLawME
set_option maxRecDepth 8000
namespace Go.Proofs.YtkmbkaoolacofaaGreat
open Go.RowKit
open Classical

def entA (t : PayTable) (i : Nat) (k : Nat) : PayEntry := ⟨1, (i : Int), (k : Int), (t.Rows.getD i []).getD k 0 - ro t i⟩
def entC (t : PayTable) (i : Nat) : PayEntry := ⟨2, (i : Int), 0, (t.Rows.getD i []).sum⟩
def entD (t : PayTable) (k : Nat) : PayEntry := ⟨3, 0, (k : Int), (col t.Rows k).sum⟩
def entT (t : PayTable) : PayEntry := ⟨4, 0, 0, t.Across.sum⟩
def entsA (t : PayTable) (n : Nat) : List PayEntry := (List.range n).flatMap fun i => (List.range t.Down.length).map (entA t i)
def ents (t : PayTable) : List PayEntry := entsA t t.Rows.length ++ (List.range t.Rows.length).map (entC t) ++ (List.range t.Down.length).map (entD t) ++ [entT t]
theorem entsA_len {t : PayTable} : ∀ n, (entsA t n).length = n * t.Down.length
 | 0 => by simp [entsA]
 | n + 1 => by
  have ih := entsA_len (t := t) n
  unfold entsA at ih ⊢
  rw [List.range_succ, List.flatMap_append, List.length_append, ih]
  simp [Nat.add_mul]
theorem s73 {t : PayTable} (h : TOk t) : f73 t = some (ents t) := by
 obtain ⟨ha, hd, ht⟩ := h.acb
 have hr := h.r; have hdl := h.d; have hal := h.s.a
 have hlA : ∀ n, n ≤ t.Rows.length → (entsA t n).length ≤ 36 := fun n hn => by
  rw [entsA_len]; exact Nat.le_trans (Nat.mul_le_mul (Nat.le_trans hn hr) hdl) (by omega)
 refine Yes.eq ?_
 unfold f73
 refine Yes.bind (Yes.mono (Q' := fun r => r = entsA t t.Rows.length) ?_ fun r hr1 => Yes.bind (Yes.mono (Q' := fun r => r = (entsA t t.Rows.length ++ (List.range t.Rows.length).map (entC t), t.Across.sum)) ?_ fun r2 hr2 => Yes.bind (Yes.mono (Q' := fun r => r = entsA t t.Rows.length ++ (List.range t.Rows.length).map (entC t) ++ (List.range t.Down.length).map (entD t)) ?_ fun r3 hr3 => ?_)))
 ·refine Yes.upto t.Rows.length (by omega) (fun i s => s = entsA t i) rfl (fun i s k hi hI hk => ?_) (fun s k hI => Yes.jn (qskip (by simp) (Yes.some hI)))
  have hia : i < t.Across.length := by omega
  have hl := h.s.c _ (List.getElem_mem hi)
  have hlen := hlA i (by omega)
  have h2 := ha _ (List.getElem_mem hia)
  refine Yes.jn (qtake (by simp; omega) (Yes.jn (Yes.bind ?_)))
  refine Yes.upto t.Rows[i].length (by omega) (fun j s' => s' = entsA t i ++ (List.range j).map (entA t i)) (by simp [hI]) (fun j s' k' hj hL hk' => ?_) (fun s' k' hL => Yes.jn (qbind _ (qidx hi) (qskip (by simp) (Yes.some (hk _ ?_)))))
  ·have h3 := h.num (List.getElem_mem hi) (List.getElem_mem hj)
   have hsl : s'.length ≤ 42 := by rw [hL]; simp; omega
   refine Yes.jn (qbind _ (qidx hi) (qtake (by simp; omega) (Yes.jn (Yes.bind (qbind _ (qidx hia) (qbind _ (qidx hi) (qbind _ (qidx hj) (Yes.bind (Yes.mono (Q' := fun r => r = (entA t i j).Number) ?_ fun r hr' => Yes.bind (Yes.apnd (by simp only [List.length_singleton]; omega) (by simp only [List.length_singleton]; omega) (Yes.some (hk' _ ?_))))))))))))
   ·refine Yes.upto t.Rows[i].length (by omega) (fun m s => s = t.Across[i] + t.Rows[i][j] - (t.Rows[i].take m).sum) (by simp only [List.take_zero, List.sum_nil]; rw [w64_id (by omega) (by omega)]; omega) (fun m s k2 hm hM hk2 => ?_) (fun s k2 hM => Yes.jn (qbind _ (qidx hi) (qskip (by simp) (Yes.some ?_))))
    ·have b1 := sum_bd (xs := t.Rows[i].take m) (B := 1000000) fun n hn => by have := h.num (List.getElem_mem hi) (List.mem_of_mem_take hn); omega
     have b2 := h.num (List.getElem_mem hi) (List.getElem_mem hm)
     have b3 : (t.Rows[i].take m).length ≤ 6 := by simp; omega
     refine Yes.jn (qbind _ (qidx hi) (qtake (by simp; omega) (Yes.jn (Yes.bind (qbind _ (qidx hi) (qbind _ (qidx hm) ?_))))))
     refine Yes.some (hk2 _ ?_)
     rw [sum_take hm, hM, w64_id (by omega) (by omega)]; omega
    ·rw [hM, List.take_length]
     show _ = (t.Rows.getD i []).getD j 0 - ro t i
     unfold ro
     rw [h.row hi, getD_is hj, getD_is hia]; omega
   ·subst hr'
    rw [hL, List.range_succ, List.map_append, List.append_assoc]
    rfl
  ·rw [hL, hl]
   unfold entsA
   rw [List.range_succ, List.flatMap_append]
   simp
 ·subst hr1
  refine Yes.upto2 (s0 := entsA t t.Rows.length) (t0 := (0 : Int)) t.Rows.length (by omega) (fun i s a => s = entsA t t.Rows.length ++ (List.range i).map (entC t) ∧ a = (t.Across.take i).sum) ⟨by simp, by simp⟩ (fun i s a k hi hI hk => ?_) (fun s a k hI => Yes.jn (qskip (by simp) (Yes.some ?_)))
  ·obtain ⟨hI1, hI2⟩ := hI
   have hia : i < t.Across.length := by omega
   have hl := h.s.c _ (List.getElem_mem hi)
   have hlen := hlA t.Rows.length (Nat.le_refl _)
   have h2 := ha _ (List.getElem_mem hia)
   have hsl : s.length ≤ 42 := by rw [hI1]; simp; omega
   have b0 := sum_bd (xs := t.Across.take i) (B := 1000000000) fun n hn => by have := ha n (List.mem_of_mem_take hn); omega
   have b4 : (t.Across.take i).length ≤ 6 := by simp; omega
   refine Yes.jn (qtake (by simp; omega) (Yes.jn (Yes.bind (Yes.bind (Yes.mono (Q' := fun r => r = t.Rows[i].sum) ?_ fun r hr' => qbind _ (qidx hia) (Yes.bind ?_))))))
   ·refine Yes.upto t.Rows[i].length (by omega) (fun m s => s = (t.Rows[i].take m).sum) (by simp) (fun m s k2 hm hM hk2 => ?_) (fun s k2 hM => Yes.jn (qbind _ (qidx hi) (qskip (by simp) (Yes.some (by rw [hM, List.take_length])))))
    have b1 := sum_bd (xs := t.Rows[i].take m) (B := 1000000) fun n hn => by have := h.num (List.getElem_mem hi) (List.mem_of_mem_take hn); omega
    have b2 := h.num (List.getElem_mem hi) (List.getElem_mem hm)
    have b3 : (t.Rows[i].take m).length ≤ 6 := by simp; omega
    refine Yes.jn (qbind _ (qidx hi) (qtake (by simp; omega) (Yes.jn (Yes.bind (qbind _ (qidx hi) (qbind _ (qidx hm) ?_))))))
    refine Yes.some (hk2 _ ?_)
    rw [sum_take hm, hM, w64_id (by omega) (by omega)]
   ·subst hr'
    refine Yes.apnd (by simp only [List.length_singleton]; omega) (by simp only [List.length_singleton]; omega) (Yes.some (hk _ _ ⟨?_, ?_⟩))
    ·rw [hI1, List.range_succ, List.map_append, List.append_assoc]
     unfold entC
     simp only [List.map_cons, List.map_nil, h.row hi]
    ·rw [hI2, sum_take hia, w64_id (by omega) (by omega)]
  ·obtain ⟨hI1, hI2⟩ := hI
   rw [← hal, List.take_length] at hI2
   rw [hI1, hI2]
 ·subst hr2
  refine Yes.upto t.Down.length (by omega) (fun i s => s = entsA t t.Rows.length ++ (List.range t.Rows.length).map (entC t) ++ (List.range i).map (entD t)) (by simp) (fun i s k hi hI hk => ?_) (fun s k hI => Yes.jn (qskip (by simp) (Yes.some hI)))
  have hlen := hlA t.Rows.length (Nat.le_refl _)
  have hsl : s.length ≤ 48 := by rw [hI]; simp; omega
  refine Yes.jn (qtake (by simp; omega) (Yes.jn (Yes.bind (Yes.bind (Yes.mono (Q' := fun r => r = (col t.Rows i).sum) ?_ fun r hr' => Yes.bind (Yes.apnd (by simp only [List.length_singleton]; omega) (by simp only [List.length_singleton]; omega) (Yes.some (hk _ ?_))))))))
  ·refine Yes.upto t.Rows.length (by omega) (fun j s => s = (col (t.Rows.take j) i).sum) (by simp [col]) (fun j s k' hj hL hk' => ?_) (fun s k' hL => Yes.jn (qskip (by simp) (Yes.some (by rw [hL, List.take_length]))))
   have hij : i < t.Rows[j].length := by rw [h.s.c _ (List.getElem_mem hj)]; exact hi
   have b1 := sum_bd (xs := col (t.Rows.take j) i) (B := 1000000) fun n hn => by
    have hm : n ∈ col t.Rows i := by
     unfold col at hn ⊢
     obtain ⟨r, hr, rfl⟩ := List.mem_map.1 hn
     exact List.mem_map.2 ⟨r, List.mem_of_mem_take hr, rfl⟩
    have := h.colm hi n hm; omega
   have b2 := h.num (List.getElem_mem hj) (List.getElem_mem hij)
   have b3 : (col (t.Rows.take j) i).length ≤ 6 := by simp [col]; omega
   refine Yes.jn (qtake (by simp; omega) (Yes.jn (Yes.bind (qbind _ (qidx hj) (qbind _ (qidx hij) ?_)))))
   refine Yes.some (hk' _ ?_)
   rw [hL, w64_id (by omega) (by omega), take_succ' hj]
   unfold col
   rw [List.map_append, List.map_cons, List.map_nil, List.sum_append, getD_is hij]; simp
  ·subst hr'
   rw [hI, List.range_succ, List.map_append, List.append_assoc _ _ [_]]
   rfl
 ·subst hr3
  have hlen := hlA t.Rows.length (Nat.le_refl _)
  subst hr2
  refine Yes.bind (Yes.apnd ?_ ?_ (Yes.some rfl))
  ·simp only [List.length_append, List.length_map, List.length_range, List.length_singleton]; omega
  ·simp only [List.length_append, List.length_map, List.length_range, List.length_singleton]; omega
end Go.Proofs.YtkmbkaoolacofaaGreat
/- Plain laws: all entries that make a table right alone, by the reference (PayMends). -/
set_option maxRecDepth 8000
namespace Go.Proofs.YtkmbkaoolacofaaGreat
open Go.RowKit
open Classical

theorem mem_ents {t : PayTable} {x : PayEntry} : x ∈ ents t ↔ (∃ i k, i < t.Rows.length ∧ k < t.Down.length ∧ x = entA t i k) ∨ (∃ i, i < t.Rows.length ∧ x = entC t i) ∨ (∃ k, k < t.Down.length ∧ x = entD t k) ∨ x = entT t := by
 unfold ents entsA
 simp only [List.mem_append, List.mem_flatMap, List.mem_map, List.mem_range, List.mem_singleton]
 constructor
 ·rintro (((⟨i, hi, k, hk, rfl⟩ | ⟨i, hi, rfl⟩) | ⟨k, hk, rfl⟩) | rfl)
  ·exact .inl ⟨i, k, hi, hk, rfl⟩
  ·exact .inr (.inl ⟨i, hi, rfl⟩)
  ·exact .inr (.inr (.inl ⟨k, hk, rfl⟩))
  ·exact .inr (.inr (.inr rfl))
 ·rintro (⟨i, k, hi, hk, rfl⟩ | ⟨i, hi, rfl⟩ | ⟨k, hk, rfl⟩ | rfl)
  ·exact .inl (.inl (.inl ⟨i, hi, k, hk, rfl⟩))
  ·exact .inl (.inl (.inr ⟨i, hi, rfl⟩))
  ·exact .inl (.inr ⟨k, hk, rfl⟩)
  ·exact .inr rfl
theorem ents_in {t : PayTable} (hs : Sqr t) {x : PayEntry} (h : x ∈ ents t) : inT t x := by
 rcases mem_ents.1 h with ⟨i, k, hi, hk, rfl⟩ | ⟨i, hi, rfl⟩ | ⟨k, hk, rfl⟩ | rfl
 ·exact ⟨fun _ => ⟨i, k, rfl, rfl, hi, hk⟩, fun h => absurd h (by show ¬ (1 : Int) = 2; omega), fun h => absurd h (by show ¬ (1 : Int) = 3; omega)⟩
 ·exact ⟨fun h => absurd h (by show ¬ (2 : Int) = 1; omega), fun _ => ⟨i, rfl, by have := hs.a; omega⟩, fun h => absurd h (by show ¬ (2 : Int) = 3; omega)⟩
 ·exact ⟨fun h => absurd h (by show ¬ (3 : Int) = 1; omega), fun h => absurd h (by show ¬ (3 : Int) = 2; omega), fun _ => ⟨k, rfl, hk⟩⟩
 ·exact ⟨fun h => absurd h (by show ¬ (4 : Int) = 1; omega), fun h => absurd h (by show ¬ (4 : Int) = 2; omega), fun h => absurd h (by show ¬ (4 : Int) = 3; omega)⟩
def Good (t : PayTable) (x : PayEntry) : Prop := chkT (wth t x) = 0 ∧ blo (wth t x).Rows = 0 ∧ RightP (wth t x)
theorem ents_len {t : PayTable} (h : TOk t) : (ents t).length ≤ 49 := by
 have hr := h.r; have hd := h.d
 have h1 : (entsA t t.Rows.length).length ≤ 36 := by rw [entsA_len]; exact Nat.le_trans (Nat.mul_le_mul hr hd) (by omega)
 unfold ents
 simp only [List.length_append, List.length_map, List.length_range, List.length_singleton]; omega
theorem s47 {t : PayTable} (hm : Smt t) (h : TOk t) : f47 t = some ((ents t).filter fun x => decide (Good t x)) := by
 have hel := ents_len h
 refine Yes.eq ?_
 unfold f47
 refine qbind _ (s73 h) (Yes.bind (Yes.mono (Q' := fun r => r = (ents t).filter fun x => decide (Good t x)) ?_ fun r hr => Yes.some hr))
 refine Yes.upto (ents t).length (by omega) (fun i s => s = ((ents t).take i).filter fun x => decide (Good t x)) (by simp) (fun i s k hi hI hk => ?_) (fun s k hI => Yes.jn (qskip (by simp) (Yes.some (by rw [hI, List.take_length]))))
 have hin := ents_in h.s (List.getElem_mem hi)
 have hsm := wth_smt hm (ents t)[i]
 have hsl : s.length ≤ 49 := by rw [hI]; exact Nat.le_trans (List.length_filter_le _ _) (by simp; omega)
 have hnext : ∀ b : Bool, b = decide (Good t (ents t)[i]) → (bif b then s ++ [(ents t)[i]] else s) = ((ents t).take (i + 1)).filter fun x => decide (Good t x) := fun b hb => by
  rw [take_succ' hi, List.filter_append, hI, hb]
  by_cases hg : Good t (ents t)[i] <;> simp [hg]
 refine Yes.jn (qtake (by simp; omega) (Yes.jn (Yes.bind (qbind _ (qidx hi) (qbind _ (s74 hm h.s hin) (Yes.bind (Yes.mono (Q' := fun b => b = decide (Good t (ents t)[i])) ?_ fun b hb => ?_)))))))
 ·refine qbind _ (s31 hsm) (Yes.cond (fun hc => Yes.bind ((s32 hsm).mono fun l hl => Yes.cond (fun hc2 => ?_) (fun hc2 => Yes.some ?_))) (fun hc => Yes.some ?_))
  ·have e1 : chkT (wth t (ents t)[i]) = 0 := beq_iff_eq.1 hc
   have e2 : blo (wth t (ents t)[i]).Rows = 0 := by have := beq_iff_eq.1 hc2; omega
   refine qbind _ (s46 (tok_of e1 e2)) (Yes.some ?_)
   rw [decide_eq_decide]
   exact ⟨fun h => ⟨e1, e2, h⟩, fun h => h.2.2⟩
  ·have e2 : (l.length : Int) ≠ 0 := beq_eq_false_iff_ne.1 hc2
   exact (decide_eq_false fun hg => by have := hg.2.1; omega).symm
  ·exact (decide_eq_false fun hg => beq_eq_false_iff_ne.1 hc hg.1).symm
 ·refine Yes.cond (fun hc => qbind _ (qidx hi) (Yes.bind ?_)) (fun hc => Yes.some (hk _ ?_))
  ·refine Yes.apnd (by simp only [List.length_singleton]; omega) (by simp only [List.length_singleton]; omega) (Yes.some (hk _ ?_))
   rw [← hnext b hb, hc]; rfl
  ·rw [← hnext b hb, hc]; rfl
end Go.Proofs.YtkmbkaoolacofaaGreat
