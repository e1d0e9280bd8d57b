/- LoomStill: what the law looks at, part by part. -/
import Derived.Test.YtnfjhdagbknlbaaLawAM
set_option maxRecDepth 8000
namespace Go.Proofs.Ytnfjhdagbknlbaa
open Go.RowKit
open Classical

theorem coll_get (p : Nat → Bool) (v : Nat → Int) {n i : Nat} (hi : i < n) (hp : p i = true) : (coll p v n)[(coll p v i).length]? = some (v i) := by
 obtain ⟨d, rfl⟩ : ∃ d, n = i + 1 + d := ⟨n - (i + 1), by omega⟩
 induction d with
 | zero => rw [Nat.add_zero, coll_succ, hp]; simp
 | succ d ih =>
  have h1 := ih (by omega)
  have h2 := (List.getElem?_eq_some_iff.1 h1).1
  rw [← Nat.add_assoc, coll_succ]
  cases p (i + 1 + d) with
  | true => rw [cond_true, List.getElem?_append_left h2]; exact h1
  | false => exact h1
theorem coll_next (p : Nat → Bool) (v : Nat → Int) {n i : Nat} (hi : i < n) (hn : n ≤ 1000) (hp : p i = true) {w : Int} (hw : v i = w) :
  (bif decide ((((coll p v i).length : Nat) : Int) ≥ ((coll p v n).length : Int)) then some true else (idx (coll p v n) ((coll p v i).length : Int)).bind fun x => some (x != w)) = some false ∧ (coll p v (i + 1)).length = (coll p v i).length + 1 := by
 have h1 := coll_get p v hi hp
 obtain ⟨h2, h3⟩ := List.getElem?_eq_some_iff.1 h1
 constructor
 ·rw [decide_eq_false (show ¬ ((((coll p v i).length : Nat) : Int) ≥ ((coll p v n).length : Int)) by omega), cond_false, idx_at h2, Option.bind_some, h3, hw]
  simp
 ·rw [coll_succ, hp]; simp
theorem coll_skip (p : Nat → Bool) (v : Nat → Int) {i : Nat} (hp : p i = false) : (coll p v (i + 1)).length = (coll p v i).length := by rw [coll_succ, hp]; rfl
theorem coll_nil {p : Nat → Bool} {v : Nat → Int} {n : Nat} : (coll p v n).length = 0 ↔ ∀ i, i < n → p i = false := by
 constructor
 ·intro h i hi
  cases hp : p i with
  | false => rfl
  | true =>
   have := (List.getElem?_eq_some_iff.1 (coll_get p v hi hp)).1
   omega
 ·intro h
  unfold coll
  rw [List.length_map, List.length_eq_zero_iff, List.filter_eq_nil_iff]
  intro x hx
  simp [h x (List.mem_range.1 hx)]
variable {m : LoomMill} {l : List LoomOrder} {st : LoomStop} {p q : List LoomRun}
theorem psh_in (M : Made m l p) (H : Psh m l st p q) {i : Nat} (hi : i < q.length) : inB m l (rn q i) := by
 have g := good_of M.ok
 have hn := H.n
 have hl := M.n
 obtain ⟨K, F, hf⟩ := M.fits
 obtain ⟨a1, a2, a3, a4, a5, a6⟩ := holdF_run g M.seq (by omega) hf (show i < p.length by omega)
 have h1 := H.seq i hi
 have h2 := H.loom i (by omega)
 have h3 := H.le i (by omega)
 have h4 := H.top i (by omega)
 refine ⟨by omega, by omega, by omega⟩
theorem psh_apart (M : Made m l p) (H : Psh m l st p q) : f44 m l q = some true := by
 have g := good_of M.ok
 have hn := H.n
 have hl := M.n
 have hl7 := g.l7
 have hc := g.c
 rw [s44 g (by omega) fun i hi => psh_in M H hi]
 congr 1
 rw [decide_eq_true_iff]
 rintro i j hi hj ⟨hs, hd⟩
 have hs := of_decide_eq_false hs
 have h1 := H.sep i j (by omega) (by omega) (fun h => hs (.inl h)) (by
  rw [← H.loom i (by omega), ← H.loom j (by omega)]
  by_cases h : (rn q i).Loom = (rn q j).Loom
  ·exact h
  ·exact absurd (.inr (.inl h)) hs) (by
  by_cases h : (rn q i).From > (rn q j).From
  ·exact absurd (.inr (.inr (.inl h))) hs
  ·omega)
 unfold dayB endR at hd
 rw [H.seq i hi, H.seq j hj] at hd
 unfold gap at h1
 by_cases hch : (od l (i : Int)).Chain = (od l (j : Int)).Chain
 ·rw [if_neg (fun h => h.2 hch)] at hd
  rw [if_pos hch] at h1
  omega
 ·rw [if_neg hch] at h1
  split at hd <;> omega
theorem psh_sooner (M : Made m l p) (H : Psh m l st p q) (hs : 0 ≤ st.Days.Low ∧ st.Days.Low ≤ st.Days.High ∧ st.Days.High ≤ 98) {i : Nat} (hi : i < p.length) (hne : rn q i ≠ rn p i) :
  ((idx (List.set q (Int.toNat (i : Int)) ({ rn q i with From := (w64 ((rn q i).From - (1 : Int))) })) (i : Int)).bind fun aQ => (f43 aQ st l).bind fun zC =>
   bif (!zC) then (f44 m l (List.set q (Int.toNat (i : Int)) ({ rn q i with From := (w64 ((rn q i).From - (1 : Int))) }))).bind fun eI => some (eI) else some (false)) = some false := by
 have g := good_of M.ok
 have hn := H.n
 have hl := M.n
 have hl7 := g.l7
 have hc := g.c
 obtain ⟨h1, h2, h3⟩ := H.why i hi hne
 have hin := psh_in M H (show i < q.length by omega)
 have hsq := H.seq i (by omega)
 obtain ⟨K, F, hf⟩ := M.fits
 obtain ⟨a1, a2, a3, a4, a5, a6⟩ := holdF_run g M.seq (by omega) hf hi
 have hlo := H.loom i hi
 have hto := H.top i hi
 have hwi := (g.od (show i < l.length by omega)).2.2.1
 rw [w64_id (show -9223372036854775808 ≤ (rn q i).From - 1 by omega) (by omega), show ((i : Int)).toNat = i by omega]
 generalize hx : ({ rn q i with From := (rn q i).From - 1 } : LoomRun) = x
 have hxo : x.Order = (i : Int) := by rw [← hx]; exact hsq
 have hxl : x.Loom = (rn p i).Loom := by rw [← hx]; exact hlo
 have hxf : x.From = (rn q i).From - 1 := by rw [← hx]
 have hxi : inB m l x := ⟨by rw [hxo]; omega, by rw [hxl]; omega, by rw [hxf]; omega⟩
 have hset : ∀ t, rn (q.set i x) t = if t = i then x else rn q t := fun t => rn_set (by omega)
 have hlen : (q.set i x).length = q.length := by simp
 rw [idx_rn (show i < (q.set i x).length by rw [hlen]; omega), hset i, if_pos rfl, Option.bind_some, s43 g hxi, Option.bind_some]
 by_cases hm : x.Loom = st.Loom ∧ meets l st x
 ·rw [decide_eq_true hm]; rfl
 ·rw [decide_eq_false hm, Bool.not_false, cond_true]
  have hor : ∃ j, j < p.length ∧ j ≠ i ∧ (rn p j).Loom = (rn p i).Loom ∧ (rn q i).From = (rn q j).From + (od l (j : Int)).Woven + gap m l j i := by
   rcases h3 with h3 | h3
   ·exact absurd ⟨by rw [hxl, h1], by unfold meets endR; rw [hxo]; omega⟩ hm
   ·exact h3
  obtain ⟨j, hj, hji, hjl, hjf⟩ := hor
  have hgn := fun a b => gap_nn (l := l) hc.1 a b
  have hwj := (g.od (show j < l.length by omega)).2.2.1
  have hsj := H.seq j (by omega)
  have hloj := H.loom j hj
  have hg0 := hgn j i
  rw [s44 g (by rw [hlen]; omega) fun t ht => by
   rw [hset]; split
   ·exact hxi
   ·exact psh_in M H (by rw [hlen] at ht; exact ht)]
  simp only [Option.bind_some]
  congr 1
  rw [decide_eq_false_iff_not]
  intro hno
  by_cases hcase : (rn q j).From < x.From ∨ j < i
  ·refine hno j i (by rw [hlen]; omega) (by rw [hlen]; omega) ⟨?_, ?_⟩
   ·unfold skpB
    rw [hset j, hset i, if_neg hji, if_pos rfl, decide_eq_false_iff_not]
    rw [hsj, hxo]
    rintro (h | h | h | h)
    ·exact hji h
    ·exact h (by rw [hloj, hxl, hjl])
    ·omega
    ·omega
   ·have hany : anyB (q.set i x) j i (q.set i x).length = false := by
     unfold anyB
     rw [List.any_eq_false]
     intro t ht hb
     have htl := List.mem_range.1 ht
     rw [hlen] at htl
     unfold btwB at hb
     simp only [Bool.and_eq_true, decide_eq_true_eq, Bool.or_eq_true] at hb
     obtain ⟨b1, b2, b3, b4, b5⟩ := hb
     rw [hset t, hset j, if_neg b2, if_neg hji] at b3 b4
     rw [hset t, hset i, if_neg b2, if_pos rfl] at b5
     have hst := H.seq t htl
     have hlt := H.loom t (by omega)
     have hwt := (g.od (show t < l.length by omega)).2.2.1
     have e1 := H.sep j t hj (by omega) (fun h => b1 h.symm) (by rw [← hlt, ← hloj, b3]) (by omega)
     have e2 := H.sep t i (by omega) hi b2 (by rw [← hjl, ← hlt, ← hloj, b3]) (by omega)
     have e3 := gap_tri (l := l) hc.1 j t i
     have e4 : gap m l i t = gap m l t i := by unfold gap; simp only [eq_comm]
     omega
    unfold dayB endR
    rw [hany, hset i, hset j, if_neg hji, if_pos rfl, hsj, hxo]
    unfold gap at hjf
    by_cases hch : (od l (j : Int)).Chain = (od l (i : Int)).Chain
    ·rw [if_pos hch] at hjf
     split <;> omega
    ·rw [if_neg hch] at hjf
     rw [if_pos ⟨rfl, hch⟩]; omega
  ·refine hno i j (by rw [hlen]; omega) (by rw [hlen]; omega) ⟨?_, ?_⟩
   ·unfold skpB
    rw [hset j, hset i, if_neg hji, if_pos rfl, decide_eq_false_iff_not]
    rw [hsj, hxo]
    rintro (h | h | h | h)
    ·exact hji h.symm
    ·exact h (by rw [hloj, hxl, hjl])
    ·omega
    ·omega
   ·unfold dayB endR
    rw [hset i, hset j, if_neg hji, if_pos rfl, hxo]
    have := hc.1
    split <;> omega
theorem psh_holds (M : Made m l p) (H : Psh m l st p q) : (holdsV m l q).2 = 0 ↔ (lates l q).length = 0 := by
 have g := good_of M.ok
 have hn := H.n
 have hl := M.n
 rw [holds_iff g (by omega) H.seq]
 unfold lates
 rw [coll_nil]
 constructor
 ·rintro ⟨K, F, hf⟩ i hi
  obtain ⟨h1, h2⟩ := holdF_at hf hi hi
  have h3 := (hf.one i hi).t
  unfold endR
  rw [H.seq i hi, h2, decide_eq_false_iff_not]
  omega
 ·intro h
  obtain ⟨K, F, hf⟩ := M.fits
  have hrun := fun i (hi : i < p.length) => holdF_run g M.seq (by omega) hf hi
  refine ⟨K, fun i => (rn q i).From, fun i hi => ?_, fun i j hi hj hne hk hle => ?_⟩
  ·have hi' : i < p.length := by omega
   have h1 := hf.one i hi'
   obtain ⟨a1, a2, a3, a4, a5, a6⟩ := hrun i hi'
   have h2 := h1.w
   have h3 := h1.e
   have h4 := H.le i hi'
   have h5 := of_decide_eq_false (h i hi)
   unfold endR at h5
   rw [H.seq i hi] at h5
   refine ⟨h1.il, h1.kw, fun r hr => ?_, h2, by omega, by omega⟩
   rw [pg_rn hi] at hr
   cases hr
   exact ⟨by rw [H.loom i hi', a2], rfl⟩
  ·exact H.sep i j (by omega) (by omega) hne (by rw [(hrun i (by omega)).2.1, (hrun j (by omega)).2.1, hk]) hle
end Go.Proofs.Ytnfjhdagbknlbaa
