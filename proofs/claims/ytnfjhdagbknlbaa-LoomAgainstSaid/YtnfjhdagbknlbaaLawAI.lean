/- LoomAgainst: which orders are against each other. -/
import Derived.Test.YtnfjhdagbknlbaaLawAH
set_option maxRecDepth 8000
namespace Go.Proofs.Ytnfjhdagbknlbaa
open Go.RowKit
open Classical

theorem tog_zero {m : LoomMill} {l : List LoomOrder} {g : Nat → Option LoomRun} {Ls : List Int} : TogP m l g Ls 0 :=
 ⟨fun _ => 0, fun _ => 0, fun i hi => absurd hi (by simp), fun i _ hi => absurd hi (by simp)⟩
theorem cpl_tog {m : LoomMill} {l : List LoomOrder} (g : Good m l) : Cpl m l [] ↔ TogP m l ng (allL m) (2 ^ l.length - 1) := by
 rw [tog_all (by have := g.w3; omega)]
 exact (fits_pg fun i => rfl).symm
theorem cpl_ag {m : LoomMill} {l : List LoomOrder} (g : Good m l) : Cpl m l [] ↔ best (AgP m l) (2 ^ l.length) = none := by
 have hp := pow7 g.l7
 constructor
 ·intro h
  cases hb : best (AgP m l) (2 ^ l.length) with
  | none => rfl
  | some s =>
   obtain ⟨h1, h2⟩ := best_lt hb
   exact absurd (tog_of_cpl g h h1) h2
 ·intro h
  rw [cpl_tog g]
  exact Classical.not_not.1 (best_none h (2 ^ l.length - 1) (by omega))
theorem lf_zero {m : LoomMill} {l : List LoomOrder} (g : Good m l) : LfP m l 0 ↔ Cpl m l [] := by
 have hp := pow7 g.l7
 rw [cpl_tog g]
 unfold LfP
 rw [← sub_dif g.l7 hp.2, Nat.sub_zero]
theorem cpl_lf {m : LoomMill} {l : List LoomOrder} (g : Good m l) {s : Nat} (hs : best (LfP m l) (2 ^ l.length) = some s) : Cpl m l [] ↔ s = 0 := by
 have hp := pow7 g.l7
 constructor
 ·intro h
  rw [best_zero ((lf_zero g).2 h) _ hp.2] at hs
  exact (Option.some.inj hs).symm
 ·rintro rfl
  exact (lf_zero g).1 (best_lt hs).2
theorem ag_less {m : LoomMill} {l : List LoomOrder} (g : Good m l) {s : Nat} (hs : best (AgP m l) (2 ^ l.length) = some s) {i : Nat} (hi : s.testBit i = true) : TogP m l ng (allL m) (dif s (2 ^ i)) := by
 have hp := pow7 g.l7
 have hl7 := g.l7
 obtain ⟨h1, h2⟩ := best_lt hs
 have hin := bit_lt h1 hi
 have hle := dif_le s (2 ^ i)
 have hbit := fun j => dif_pow (s := s) (j := i) (i := j) (by omega) (by omega)
 by_cases h : TogP m l ng (allL m) (dif s (2 ^ i))
 ·exact h
 ·have h3 := best_min hs (dif s (2 ^ i)) (by omega) h
  have h4 := nums_strict (a := dif s (2 ^ i)) (b := s) (lt_pow62 hl7 h1) (fun j hj => ((hbit j).1 hj).1) fun e => by
   have h := (hbit i).1
   rw [e] at h
   exact (h hi).2 rfl
  omega
theorem ag_meet {m : LoomMill} {l : List LoomOrder} (g : Good m l) {s t : Nat} (hs : best (AgP m l) (2 ^ l.length) = some s) (ht : best (LfP m l) (2 ^ l.length) = some t) : ∃ i, s.testBit i = true ∧ t.testBit i = true := by
 have hp := pow7 g.l7
 have hl7 := g.l7
 obtain ⟨h1, h2⟩ := best_lt hs
 obtain ⟨h3, h4⟩ := best_lt ht
 by_cases hx : ∃ i, s.testBit i = true ∧ t.testBit i = true
 ·exact hx
 ·exfalso
  refine h2 (tog_mono h4 fun i hi => ?_)
  rw [dif_bit (lt128_62 (by omega)) (lt_pow62 hl7 h3), all_bit]
  have hin := bit_lt h1 hi
  cases hb : t.testBit i with
  | true => exact absurd ⟨i, hi, hb⟩ hx
  | false => simp [hin]
theorem fits_less {m : LoomMill} {l : List LoomOrder} (g : Good m l) {s : Nat} (hs : s < 2 ^ l.length) {i : Nat} (hi : i < (inS l.length s).length)
  (h : TogP m l ng (allL m) (dif s (2 ^ (inS l.length s)[i]))) : Cpl m (pick (pick l (inS l.length s)) (outS (inS l.length s).length (2 ^ i))) [] := by
 have hp := pow7 g.l7
 have hl7 := g.l7
 have hnd := inS_nodup l.length s
 generalize hxs : inS l.length s = xs at hi h hnd ⊢
 have hmem : ∀ x, x ∈ xs ↔ s.testBit x = true := fun x => by rw [← hxs, mem_inS]; exact ⟨fun h => h.2, fun h => ⟨bit_lt hs h, h⟩⟩
 have hxi := (hmem _).1 (List.getElem_mem hi)
 have hxil := bit_lt hs hxi
 have e : pick (pick l xs) (outS xs.length (2 ^ i)) = pick l ((outS xs.length (2 ^ i)).map fun j => (xs[j]?).getD 0) := by
  unfold pick
  rw [List.map_map]
  refine List.map_congr_left fun j hj => ?_
  have hjl := (mem_outS.1 hj).1
  have := pick_od (l := l) hjl
  unfold pick at this
  rw [this]; simp [hjl]
 rw [e, pick_cpl]
 ·refine (fits_tog (s := dif s (2 ^ xs[i])) (by have := g.w3; omega) fun x => ?_).1 h
  rw [dif_pow (by omega) (by omega), ← hmem, List.mem_map]
  constructor
  ·rintro ⟨hx, hne⟩
   obtain ⟨j, hj, rfl⟩ := List.getElem_of_mem hx
   refine ⟨j, mem_outS.2 ⟨hj, ?_⟩, by simp [hj]⟩
   rw [pow_bit]; exact decide_eq_false fun e => hne (by subst e; rfl)
  ·rintro ⟨j, hj, rfl⟩
   obtain ⟨hjl, hb⟩ := mem_outS.1 hj
   rw [pow_bit] at hb
   have hne := of_decide_eq_false hb
   simp only [List.getElem?_eq_getElem hjl, Option.getD_some]
   refine ⟨List.getElem_mem hjl, fun e => ?_⟩
   rcases Nat.lt_or_gt_of_ne hne with h | h
   ·exact List.pairwise_iff_getElem.1 hnd i j hi hjl h e.symm
   ·exact List.pairwise_iff_getElem.1 hnd j i hjl hi h e
 ·rw [List.nodup_iff_pairwise_ne, List.pairwise_map]
  refine (outS_nodup xs.length (2 ^ i)).imp_of_mem fun {a b} ha hb hne e => ?_
  have hal := (mem_outS.1 ha).1
  have hbl := (mem_outS.1 hb).1
  simp only [List.getElem?_eq_getElem hal, List.getElem?_eq_getElem hbl, Option.getD_some] at e
  rcases Nat.lt_or_gt_of_ne hne with h | h
  ·exact List.pairwise_iff_getElem.1 hnd a b hal hbl h e
  ·exact List.pairwise_iff_getElem.1 hnd b a hbl hal h e.symm
 ·intro x hx
  obtain ⟨j, hj, rfl⟩ := List.mem_map.1 hx
  have hjl := (mem_outS.1 hj).1
  simp only [List.getElem?_eq_getElem hjl, Option.getD_some]
  exact bit_lt hs ((hmem _).1 (List.getElem_mem hjl))
end Go.Proofs.Ytnfjhdagbknlbaa
