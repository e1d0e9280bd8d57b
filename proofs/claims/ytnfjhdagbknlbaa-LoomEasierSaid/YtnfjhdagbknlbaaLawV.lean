/- One loom: which sets of orders it can weave. -/
import Derived.Test.YtnfjhdagbknlbaaLawJ
set_option maxRecDepth 8000
namespace Go.Proofs.Ytnfjhdagbknlbaa
open Go.RowKit
open Classical

def FixG (g : Nat → Option LoomRun) (i k : Nat) (d : Int) : Prop := ∀ r, g i = some r → r.Loom = (k : Int) ∧ r.From = d
def gm (f : List (Int × LoomRun)) (i : Nat) : Option LoomRun := mget f (i : Int)
def Days (g : Nat → Option LoomRun) : Prop := ∀ i r, g i = some r → 0 ≤ r.From ∧ r.From ≤ 1000
theorem Good.base {m : LoomMill} {l : List LoomOrder} (g : Good m l) : Base m l := by
 have h : ∀ i : Nat, i < l.length → od l i ∈ l := fun i hi => od_mem (by omega) (by omega)
 exact ⟨g.c.1, fun i hi => (g.o _ (h i hi)).2.2.1.1, fun i hi => (g.o _ (h i hi)).2.2.2.1.1, fun i hi => (g.o _ (h i hi)).2.1.1, fun i hi => (g.o _ (h i hi)).2.2.2.2.2⟩
theorem Good.od {m : LoomMill} {l : List LoomOrder} (g : Good m l) {i : Nat} (hi : i < l.length) : (1 ≤ (od l i).Width ∧ (od l i).Width ≤ 100) ∧ (0 ≤ (Go.Proofs.Ytnfjhdagbknlbaa.od l i).Chain ∧ (Go.Proofs.Ytnfjhdagbknlbaa.od l i).Chain ≤ 100) ∧ (1 ≤ (Go.Proofs.Ytnfjhdagbknlbaa.od l i).Woven ∧ (Go.Proofs.Ytnfjhdagbknlbaa.od l i).Woven ≤ 100) ∧ (0 ≤ (Go.Proofs.Ytnfjhdagbknlbaa.od l i).Early ∧ (Go.Proofs.Ytnfjhdagbknlbaa.od l i).Early ≤ 300) ∧ (0 ≤ (Go.Proofs.Ytnfjhdagbknlbaa.od l i).Late ∧ (Go.Proofs.Ytnfjhdagbknlbaa.od l i).Late ≤ 300) :=
 g.o _ (od_mem (by omega) (by omega))
theorem max_or (a b : Int) : max64 a b = max a b := by unfold max64; split <;> omega
theorem min_or (a b : Int) : min64 a b = min a b := by unfold min64; split <;> omega
theorem s105 {m : LoomMill} {l : List LoomOrder} (g : Good m l) {i k : Nat} (hi : i < l.length) (hk : k < m.Widths.length) {from' : Int} (h0 : 0 ≤ from') (h1 : from' ≤ 2000000) {f : List (Int × LoomRun)} (hf : Days (gm f)) :
  Yes (f105 ⟨m, l⟩ (i : Int) (k : Int) from' f) fun b => Beg m l (FixG (gm f)) i k from' b ∧ 0 ≤ b ∧ b ≤ 1048576 := by
 have go := g.od hi
 -- the end: the day is tried
 have tail : ∀ day : Int, 0 ≤ day → day ≤ 2000000 → (∀ f', Fit1 m l (FixG (gm f)) i k f' → from' ≤ f' → day ≤ f') → FixG (gm f) i k day → (od l i).Early ≤ day → from' ≤ day →
   Yes (Option.bind (α := Bool) ((idx m.Widths (k : Int)).bind fun z1 => bif decide ((od l i).Width > z1) then some true else some (decide (w64 (day + (od l i).Woven) > (od l i).Late))) fun j2 =>
    bif j2 then some (1048576 : Int) else jn (σ := Unit) (fun _ => some day) fun m5 => m5 ()) fun b => Beg m l (FixG (gm f)) i k from' b ∧ 0 ≤ b ∧ b ≤ 1048576 := by
  intro day hd0 hd1 hle hfx he hfr
  rw [idx_wd (by omega) (by omega), w64_id (by omega) (by omega)]
  simp only [Option.bind_some, jn]
  by_cases hw : (od l i).Width > wd m k
  ·rw [decide_eq_true hw]
   exact Yes.some ⟨⟨fun f' h _ => absurd h.w (by omega), fun h => by omega⟩, by omega, by omega⟩
  ·rw [decide_eq_false hw]
   by_cases ht : day + (od l i).Woven > (od l i).Late
   ·simp only [cond_false, Option.bind_some, ht, decide_true, cond_true]
    refine Yes.some ⟨⟨fun f' h h' => ?_, fun h => by omega⟩, by omega, by omega⟩
    have := hle f' h h'
    have := h.t
    omega
   ·simp only [cond_false, Option.bind_some, ht, decide_false]
    exact Yes.some ⟨⟨hle, fun _ => ⟨⟨hi, hk, hfx, by omega, he, by omega⟩, hfr⟩⟩, hd0, by omega⟩
 unfold f105
 rw [idx_od (l := l) (by omega) (by omega), Option.bind_some]
 cases hg : mget f (i : Int) with
 | none =>
  simp only [Option.isSome_none, cond_false]
  refine Yes.jn ?_
  rw [max_or]
  refine tail _ (by omega) (by omega) (fun f' h h' => ?_) (fun r hr => ?_) (by omega) (by omega)
  ·have := h.e; omega
  ·unfold gm at hr; rw [hg] at hr; cases hr
 | some r =>
  have hr := hf i r hg
  simp only [Option.isSome_some, cond_true, Option.getD_some]
  refine Yes.jn (Yes.jn ?_)
  rw [max_or]
  by_cases hl : r.Loom = (k : Int)
  ·have : (r.Loom != (k : Int)) = false := by simp [hl]
   rw [this, cond_false, Option.bind_some]
   by_cases hd : r.From < max (od l i).Early from'
   ·rw [decide_eq_true hd]
    refine Yes.some ⟨⟨fun f' h h' => ?_, fun h => by omega⟩, by omega, by omega⟩
    have := (h.a r hg).2
    have := h.e
    omega
   ·rw [decide_eq_false hd]
    refine tail _ (by omega) (by omega) (fun f' h h' => ?_) (fun r' hr' => ?_) (by omega) (by omega)
    ·have := (h.a r hg).2; omega
    ·have : r' = r := by unfold gm at hr'; rw [hg] at hr'; exact (Option.some.inj hr').symm
     subst this; exact ⟨hl, rfl⟩
  ·have : (r.Loom != (k : Int)) = true := by simp [hl]
   rw [this, cond_true, Option.bind_some]
   refine Yes.some ⟨⟨fun f' h h' => ?_, fun h => by omega⟩, by omega, by omega⟩
   exact absurd (h.a r hg).1 hl

/-! ### The table -/
abbrev Tbl := Vector (Vector Int 7) 128
def tg (T : Tbl) (s j : Nat) : Int := if h : s < 128 ∧ j < 7 then (T[s]'h.1)[j]'h.2 else 0
theorem tg_idx {T : Tbl} {s j : Nat} (hs : s < 128) (hj : j < 7) : (idx T.toList (s : Int)).bind (fun y => idx y.toList (j : Int)) = some (tg T s j) := by
 rw [idx_vec hs, Option.bind_some, idx_vec hj]
 unfold tg; rw [dif_pos ⟨hs, hj⟩]
theorem tg_mod {T : Tbl} {s j s' j' : Nat} {v : Int} (hs : s < 128) (hj : j < 7) (hs' : s' < 128) (hj' : j' < 7) : tg (vmod T (s : Int) (fun b => vset b (j : Int) v)) s' j' = if s' = s ∧ j' = j then v else tg T s' j' := by
 have hv : vmod T (s : Int) (fun b => vset b (j : Int) v) = T.set s (T[s].setIfInBounds j v) hs := by
  unfold vmod vset
  rw [dif_pos (show (s : Int).toNat < 128 from hs)]
  rfl
 rw [hv]
 unfold tg
 rw [dif_pos ⟨hs', hj'⟩, dif_pos ⟨hs', hj'⟩]
 by_cases h1 : s' = s
 ·subst h1
  simp only [Vector.getElem_set_self, Vector.getElem_setIfInBounds]
  by_cases h2 : j = j'
  ·subst h2; simp
  ·simp [h2, Ne.symm h2]
 ·have e : ∀ (h : s' < 128), (T.set s (T[s].setIfInBounds j v) hs)[s'] = T[s'] := fun h => Vector.getElem_set_ne hs h (fun e => h1 e.symm)
  simp [h1, e]
theorem lt128 {n s : Nat} (hn : n ≤ 7) (hs : s < 2 ^ n) : s < 128 := Nat.lt_of_lt_of_le hs (by calc 2 ^ n ≤ 2 ^ 7 := Nat.pow_le_pow_right (by decide) hn
                                                                                                 _ = 128 := rfl)
theorem lt128_62 {s : Nat} (hs : s < 128) : s < 2 ^ 62 := Nat.lt_trans hs (by decide)
theorem pow_lt128 {j : Nat} (h : j < 7) : 2 ^ j < 128 := by calc 2 ^ j < 2 ^ 7 := Nat.pow_lt_pow_right (by decide) h
                                                               _ = 128 := rfl
theorem dif_pow {s j i : Nat} (hs : s < 128) (hj : j < 7) : (dif s (2 ^ j)).testBit i = true ↔ s.testBit i = true ∧ i ≠ j := by
 rw [dif_bit (lt128_62 hs) (lt128_62 (pow_lt128 hj)), pow_bit]
 by_cases h : j = i
 ·subst h; simp
 ·simp [h, Ne.symm h]
def RdT (m : LoomMill) (l : List LoomOrder) (A : Nat → Nat → Int → Prop) (k : Nat) (T : Tbl) (s : Nat) : Prop := ∀ j, s.testBit j = true → Rdy m l A k (fun i => s.testBit i = true) j (tg T s j)
theorem least_step {P : Nat → Prop} {V : Nat → Int} {d : Int} {i : Nat} (h : Least (fun j => P j ∧ j < i) V d) :
  (¬ P i → Least (fun j => P j ∧ j < i + 1) V d) ∧ (P i → Least (fun j => P j ∧ j < i + 1) V (min d (V i))) := by
 constructor
 ·intro hp
  have e : ∀ j, (P j ∧ j < i + 1) ↔ (P j ∧ j < i) := fun j => ⟨fun ⟨a, b⟩ => ⟨a, by by_cases hj : j = i; (subst hj; exact absurd a hp); omega⟩, fun ⟨a, b⟩ => ⟨a, by omega⟩⟩
  exact ⟨fun j hj => h.le j ((e j).1 hj), fun hd => let ⟨j, hj, hv⟩ := h.ok hd; ⟨j, (e j).2 hj, hv⟩⟩
 ·intro hp
  refine ⟨fun j hj => ?_, fun hd => ?_⟩
  ·by_cases hji : j = i
   ·subst hji; omega
   ·have := h.le j ⟨hj.1, by omega⟩; omega
  ·by_cases hle : d ≤ V i
   ·obtain ⟨j, hj, hv⟩ := h.ok (by omega)
    exact ⟨j, ⟨hj.1, by omega⟩, by omega⟩
   ·exact ⟨i, ⟨hp, by omega⟩, by omega⟩
theorem gap_or {m : LoomMill} {l : List LoomOrder} (i j : Nat) (v : Int) : (if (od l i).Chain = (od l j).Chain then v else v + m.Change) = v + gap m l i j := by unfold gap; split <;> omega
theorem s98 {m : LoomMill} {l : List LoomOrder} (g : Good m l) {s t k : Nat} (hs : s < 2 ^ l.length) (ht : s.testBit t = true) (hk : k < m.Widths.length) {f : List (Int × LoomRun)} (hf : Days (gm f)) {T : Tbl}
  (hT : dif s (2 ^ t) ≠ 0 → RdT m l (FixG (gm f)) k T (dif s (2 ^ t))) :
  Yes (f98 ⟨m, l⟩ T (s : Int) (t : Int) (k : Int) f) fun d => 0 ≤ d ∧ d ≤ 1048576 ∧ (d < 1048576 → d + (od l t).Woven ≤ 300) ∧ Rdy m l (FixG (gm f)) k (fun i => s.testBit i = true) t (if d < 1048576 then d + (od l t).Woven else 1048576) := by
 have hn := g.l7
 have hs128 := lt128 hn hs
 have htl := bit_lt hs ht
 have hb128 : dif s (2 ^ t) < 128 := Nat.lt_of_le_of_lt (dif_le _ _) hs128
 have hbit : ∀ i, (dif s (2 ^ t)).testBit i = true ↔ s.testBit i = true ∧ i ≠ t := fun i => dif_pow hs128 (by omega)
 unfold f98
 rw [shl_bit (by omega), Option.bind_some, andn64 (lt128_62 hs128) (lt128_62 (pow_lt128 (by omega)))]
 refine Yes.jn (Yes.cond (fun h => ?_) (fun h => ?_))
 ·have hz : dif s (2 ^ t) = 0 := by simpa using h
  refine Yes.bind ((s105 g htl hk (Int.le_refl _) (by omega) hf).mono fun b hb => Yes.some ⟨hb.2.1, hb.2.2, fun hd => by have h1 := (hb.1.ok hd).1.t; have := (g.od htl).2.2.2.2; omega, rdy_one g.base (fun j => ?_) hb.1⟩)
  have h2 := hbit j
  rw [hz] at h2
  simp only [Nat.zero_testBit, Bool.false_eq_true, false_iff, not_and, Decidable.not_not] at h2
  exact ⟨h2, fun e => by rw [e]; exact ht⟩
 ·have hz : dif s (2 ^ t) ≠ 0 := by simpa using h
  have hR := hT hz
  -- what each order behind which the last can be woven gives
  have hex : ∀ j, ∃ b : Int, (s.testBit j = true ∧ j ≠ t ∧ tg T (dif s (2 ^ t)) j < 1048576 → f105 ⟨m, l⟩ (t : Int) (k : Int) (tg T (dif s (2 ^ t)) j + gap m l j t) f = some b ∧ Beg m l (FixG (gm f)) t k (tg T (dif s (2 ^ t)) j + gap m l j t) b ∧ 0 ≤ b ∧ b ≤ 1048576) := by
   intro j
   by_cases hj : s.testBit j = true ∧ j ≠ t ∧ tg T (dif s (2 ^ t)) j < 1048576
   ·have hr := hR j ((hbit j).2 ⟨hj.1, hj.2.1⟩)
    have hge : 0 ≤ tg T (dif s (2 ^ t)) j := by
     obtain ⟨F, hF, hSj, _, hv⟩ := hr.ok hj.2.2
     have h1 := hF.one j hSj
     have h2 := h1.e
     have h3 := (g.od h1.il).2.2
     omega
    have hgp : 0 ≤ gap m l j t ∧ gap m l j t ≤ 20 := by have := g.c; unfold gap; split <;> omega
    obtain ⟨b, hb1, hb2⟩ := s105 g htl hk (from' := tg T (dif s (2 ^ t)) j + gap m l j t) (by omega) (by omega) hf
    exact ⟨b, fun _ => ⟨hb1, hb2⟩⟩
   ·exact ⟨0, fun h => absurd h hj⟩
  obtain ⟨V, hV⟩ := Classical.axiomOfChoice hex
  refine Yes.bind ?_
  refine Yes.upto l.length (by omega) (fun i d => 0 ≤ d ∧ d ≤ 1048576 ∧ Least (fun j => (s.testBit j = true ∧ j ≠ t ∧ tg T (dif s (2 ^ t)) j < 1048576) ∧ j < i) V d) ⟨by omega, by omega, fun j hj => absurd hj.2 (Nat.not_lt_zero _), fun h => absurd h (by omega)⟩ (fun i d kk hi hI hk' => ?_) (fun d kk hI => ?_)
  ·have h1 : decide ((i : Int) < (l.length : Int)) = true := by simp; omega
   simp only [h1, cond_true]
   have hgo : Yes (kk (if s.testBit i = true ∧ i ≠ t ∧ tg T (dif s (2 ^ t)) i < 1048576 then min d (V i) else d, w64 ((i : Int) + 1))) fun d => Yes (some d) fun d => 0 ≤ d ∧ d ≤ 1048576 ∧ (d < 1048576 → d + (od l t).Woven ≤ 300) ∧ Rdy m l (FixG (gm f)) k (fun i => s.testBit i = true) t (if d < 1048576 then d + (od l t).Woven else 1048576) := by
    refine hk' _ ?_
    have hl := least_step hI.2.2
    split
    ·rename_i hp
     have := (hV i hp).2.2
     refine ⟨by omega, by omega, hl.2 hp⟩
    ·rename_i hp
     exact ⟨hI.1, hI.2.1, hl.1 hp⟩
   refine Yes.bind ?_
   refine Yes.jn (Yes.bind ?_)
   rw [shr_any (lt128_62 hb128), Option.bind_some, bitv (lt128_62 hb128)]
   by_cases hbi : (dif s (2 ^ t)).testBit i = true
   ·have hst := (hbit i).1 hbi
    have hl1 : (idx T.toList ((dif s (2 ^ t) : Nat) : Int)) = some (T[dif s (2 ^ t)]) := idx_vec hb128
    have hl2 : idx (T[dif s (2 ^ t)]).toList (i : Int) = some (tg T (dif s (2 ^ t)) i) := by
     have := tg_idx (T := T) hb128 (show i < 7 by omega)
     rw [hl1, Option.bind_some] at this; exact this
    rw [hbi, Bool.not_true, cond_false, hl1, Option.bind_some, hl2, Option.bind_some]
    by_cases hge : tg T (dif s (2 ^ t)) i ≥ 1048576
    ·rw [decide_eq_true hge]
     refine Yes.some (Yes.some ?_)
     rw [if_neg (by omega)] at hgo
     exact hgo
    ·rw [decide_eq_false hge]
     refine Yes.some ?_
     simp only [cond_false, Option.bind_some]
     rw [hl2, Option.bind_some, idx_od (l := l) (by omega) (by omega), Option.bind_some, idx_od (l := l) (by omega) (by omega), Option.bind_some]
     have hp : s.testBit i = true ∧ i ≠ t ∧ tg T (dif s (2 ^ t)) i < 1048576 := ⟨hst.1, hst.2, by omega⟩
     have hv := hV i hp
     have hb := hR i hbi
     have hge0 : 0 ≤ tg T (dif s (2 ^ t)) i := by
      obtain ⟨F, hF, hSj, _, hv⟩ := hb.ok hp.2.2
      have h1 := hF.one i hSj
      have h2 := h1.e
      have h3 := (g.od h1.il).2.2
      omega
     have hc := g.c
     have hch : (bif (od l i).Chain != (od l t).Chain then some (w64 (tg T (dif s (2 ^ t)) i + m.Change)) else some (tg T (dif s (2 ^ t)) i)) = some (tg T (dif s (2 ^ t)) i + gap m l i t) := by
      rw [← gap_or]
      by_cases hc : (od l i).Chain = (od l t).Chain
      ·have : ((od l i).Chain != (od l t).Chain) = false := by simp [hc]
       rw [this, if_pos hc]; rfl
      ·have : ((od l i).Chain != (od l t).Chain) = true := by simp [hc]
       rw [this, if_neg hc, w64_id (by omega) (by omega)]; rfl
     rw [hch, Option.bind_some, hv.1, Option.bind_some, min_or]
     rw [if_pos hp] at hgo
     exact Yes.some hgo
   ·rw [Bool.not_eq_true] at hbi
    rw [hbi, Bool.not_false, cond_true]
    refine Yes.some (Yes.some ?_)
    have : ¬ (s.testBit i = true ∧ i ≠ t ∧ tg T (dif s (2 ^ t)) i < 1048576) := fun h => by
     have := (hbit i).2 ⟨h.1, h.2.1⟩
     rw [hbi] at this; cases this
    rw [if_neg this] at hgo
    exact hgo
  ·have h1 : decide ((l.length : Int) < (l.length : Int)) = false := by simp
   simp only [h1, cond_false]
   refine Yes.some (Yes.some ⟨hI.1, hI.2.1, fun hd => ?_, ?_⟩)
   ·obtain ⟨j, hj, hv⟩ := hI.2.2.ok hd
    have h2 := ((hV j hj.1).2.1.ok (by omega)).1.t
    have := (g.od htl).2.2.2.2
    omega
   obtain ⟨j0, hj0⟩ := bit_ne hz
   refine rdy_step (R := tg T (dif s (2 ^ t))) (bb := V) g.base ht ⟨j0, (hbit j0).1 hj0⟩ (fun j hj hjt => ?_) (fun j hj hjt hjr => ?_) ⟨fun j hj => ?_, fun hd => ?_⟩
   ·have := hR j ((hbit j).2 ⟨hj, hjt⟩)
    have e : (fun i => (dif s (2 ^ t)).testBit i = true) = fun i => s.testBit i = true ∧ i ≠ t := funext fun i => propext (hbit i)
    rw [e] at this; exact this
   ·exact (hV j ⟨hj, hjt, hjr⟩).2.1
   ·exact hI.2.2.le j ⟨hj, bit_lt hs hj.1⟩
   ·obtain ⟨j, hj, hv⟩ := hI.2.2.ok hd
    exact ⟨j, hj.1, hv⟩
end Go.Proofs.Ytnfjhdagbknlbaa
