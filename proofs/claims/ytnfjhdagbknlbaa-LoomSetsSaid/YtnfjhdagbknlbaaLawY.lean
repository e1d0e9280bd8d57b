/- The reference: one order after another, in all ways. -/
import Derived.Test.YtnfjhdagbknlbaaLawX
set_option maxRecDepth 8000
namespace Go.Proofs.Ytnfjhdagbknlbaa
open Go.RowKit
open Classical

def eAt (e : List End) (k : Nat) : End := (e[k]?).getD default
def enF (e : List End) (k : Nat) : Int × Int := ((eAt e k).Chain, (eAt e k).Ready)
theorem eAt_idx {e : List End} {k : Nat} (h : k < e.length) : idx e (k : Int) = some (eAt e k) := by rw [idx_at h]; unfold eAt; rw [List.getElem?_eq_getElem h]; rfl
theorem enF_set {e : List End} {k : Nat} (h : k < e.length) (c r : Int) : enF (e.set k ⟨c, r⟩) = enU (enF e) k (c, r) := by
  funext j
  unfold enF enU eAt
  rw [List.getElem?_set]
  by_cases hj : k = j
  · subst hj; simp [h]
  · rw [if_neg hj, if_neg (fun e => hj e.symm)]
structure EndOk (m : LoomMill) (e : List End) : Prop where
  n : e.length = m.Widths.length
  r : ∀ k, k < e.length → 0 ≤ (eAt e k).Ready ∧ (eAt e k).Ready ≤ 1000
/-- Orders can be woven behind what is on the looms. -/
def RestP (m : LoomMill) (l : List LoomOrder) (q : Nat) (e : List End) (s : Nat) : Prop := ∃ K F, Fits m l (fun i => s.testBit i = true) (EndA m l (fun k => q.testBit k = true) (enF e)) K F
theorem rest_zero {m : LoomMill} {l : List LoomOrder} {q : Nat} {e : List End} : RestP m l q e 0 := ⟨fun _ => 0, fun _ => 0, fun i hi => absurd hi (by simp), fun i _ hi => absurd hi (by simp)⟩
/-- An order can be put on a loom's end, and the rest behind it. -/
def PutP (m : LoomMill) (l : List LoomOrder) (q : Nat) (e : List End) (s i k : Nat) : Prop :=
  s.testBit i = true ∧ q.testBit k = true ∧ k < m.Widths.length ∧ (od l i).Width ≤ wd m k ∧ endDay m l (enF e) i k + (od l i).Woven ≤ (od l i).Late ∧
    RestP m l q (e.set k ⟨(od l i).Chain, endDay m l (enF e) i k + (od l i).Woven⟩) (dif s (2 ^ i))
theorem rest_iff {m : LoomMill} {l : List LoomOrder} (g : Good m l) {q : Nat} {e : List End} (he : EndOk m e) {s : Nat} (hs : s < 2 ^ l.length) (hz : s ≠ 0) : RestP m l q e s ↔ ∃ i k, PutP m l q e s i k := by
  have hn := g.l7
  unfold RestP
  rw [rest_step g.base (fun i hi => bit_lt hs hi) (bit_ne hz)]
  have hset : ∀ i, s.testBit i = true → (fun j => s.testBit j = true ∧ j ≠ i) = fun j => (dif s (2 ^ i)).testBit j = true := fun i hi => funext fun j => propext (dif_pow (lt128 hn hs) (by have := bit_lt hs hi; omega)).symm
  constructor
  · rintro ⟨i, k, h1, h2, h3, h4, h5, h6⟩
    refine ⟨i, k, h1, h2, h3, h4, h5, ?_⟩
    unfold RestP
    rw [enF_set (by rw [he.n]; exact h3), ← hset i h1]; exact h6
  · rintro ⟨i, k, h1, h2, h3, h4, h5, h6⟩
    refine ⟨i, k, h1, h2, h3, h4, h5, ?_⟩
    unfold RestP at h6
    rw [enF_set (by rw [he.n]; exact h3), ← hset i h1] at h6; exact h6
theorem apnd16 {e : List End} (h : e.length ≤ 1000) : apnd 16 ([] : List End) e = some e := by
  unfold apnd; rw [if_pos ⟨by simp; omega, by simp; omega⟩]; rfl
theorem s86 {m : LoomMill} {l : List LoomOrder} (g : Good m l) {q : Nat} (hq : q < 2 ^ 62) : ∀ (n s : Nat) (e : List End), s < n → s < 2 ^ l.length → EndOk m e → Yes (f86 n m l (s : Int) (q : Int) e) fun r => (r = true ↔ RestP m l q e s) := by
  have hn := g.l7
  have hw3 := g.w3
  intro n
  induction n with
  | zero => intro s e h; exact absurd h (Nat.not_lt_zero _)
  | succ n ih =>
    intro s e hsn hs he
    have hs128 := lt128 hn hs
    unfold f86
    refine Yes.jn (Yes.cond (fun h => ?_) (fun h => ?_))
    · obtain rfl : s = 0 := by simpa using h
      exact Yes.some ⟨fun _ => rest_zero, fun _ => rfl⟩
    · have hz : s ≠ 0 := by simpa using h
      have hiff := rest_iff g (q := q) he hs hz
      refine Yes.jn ?_
      refine Yes.upto0 l.length (by omega) (fun i => ∀ j, j < i → ∀ k, ¬ PutP m l q e s j k) (fun _ h => absurd h (Nat.not_lt_zero _)) (fun i kk hi hI hk => ?_) (fun kk hI => ?_)
      · have h1 : decide ((i : Int) < (l.length : Int)) = true := decide_eq_true (Int.ofNat_lt.2 hi)
        refine Yes.jn ?_
        rw [h1, cond_true]
        refine Yes.jn (Yes.jn ?_)
        rw [wu64_id (show 0 ≤ (i : Int) by omega) (by omega), shr_any (lt128_62 hs128), Option.bind_some, bitv (lt128_62 hs128)]
        cases hb : s.testBit i with
        | false =>
          rw [Bool.not_false, cond_true]
          refine hk fun j hj k hp => ?_
          by_cases hji : j = i
          · subst hji; rw [PutP, hb] at hp; cases hp.1
          · exact hI j (by omega) k hp
        | true =>
          rw [Bool.not_true, cond_false]
          have go := g.od hi
          have hc := g.c
          dsimp only
          refine Yes.upto0 m.Widths.length (by omega) (fun k => ∀ k', k' < k → ¬ PutP m l q e s i k') (fun _ h => absurd h (Nat.not_lt_zero _)) (fun k kk' hkw hI' hk' => ?_) (fun kk' hI' => ?_)
          · have h2 : decide ((k : Int) < (m.Widths.length : Int)) = true := decide_eq_true (Int.ofNat_lt.2 hkw)
            have hke : k < e.length := by rw [he.n]; exact hkw
            have her := he.r k hke
            refine Yes.jn ?_
            rw [h2, cond_true]
            refine Yes.jn ?_
            -- when it fails, the next loom
            have hnext : ¬ PutP m l q e s i k → Yes (kk' (w64 ((k : Int) + 1))) fun r => (r = true ↔ RestP m l q e s) := fun hp => hk' fun k' hk'' => by
              by_cases hkk : k' = k
              · subst hkk; exact hp
              · exact hI' k' (by omega)
            have hfrom : Option.bind (α := Bool) ((idx e (k : Int)).bind fun u4 => bif (decide ((u4).Chain ≥ (0 : Int))) then (idx e (k : Int)).bind fun m6 => (idx l (i : Int)).bind fun n6 => some (((m6).Chain != (n6).Chain)) else some (false))
                (fun n5 => bif n5 then (idx l (i : Int)).bind fun o6 => (idx e (k : Int)).bind fun z5 => some ((max64 (o6).Early (w64 ((z5).Ready + (m).Change)))) else some ((max64 (od l i).Early (eAt e k).Ready))) = some (endDay m l (enF e) i k) := by
              rw [eAt_idx hke, idx_od (l := l) (by omega) (by omega)]
              simp only [Option.bind_some]
              unfold endDay enF
              simp only
              rw [max_or, max_or, w64_id (by omega) (by omega)]
              by_cases h3 : (eAt e k).Chain ≥ 0
              · have h3' : 0 ≤ (eAt e k).Chain := h3
                rw [decide_eq_true h3]
                simp only [cond_true, Option.bind_some, h3', true_and]
                by_cases h4 : (eAt e k).Chain = (od l i).Chain
                · have : ((eAt e k).Chain != (od l i).Chain) = false := by simp [h4]
                  rw [this, if_neg (by simp [h4])]; simp
                · have : ((eAt e k).Chain != (od l i).Chain) = true := by simp [h4]
                  rw [this, if_pos h4]; rfl
              · have h3' : ¬ 0 ≤ (eAt e k).Chain := h3
                rw [decide_eq_false h3]
                simp only [cond_false, Option.bind_some, h3', false_and, if_false]
                simp
            rw [idx_od (l := l) (show (0 : Int) ≤ (i : Int) by omega) (by omega), Option.bind_some, eAt_idx hke, Option.bind_some]
            rw [idx_od (l := l) (show (0 : Int) ≤ (i : Int) by omega) (by omega), eAt_idx hke] at hfrom
            refine Yes.bindv _ hfrom ?_
            have hday : 0 ≤ endDay m l (enF e) i k ∧ endDay m l (enF e) i k ≤ 2000 := by
              unfold endDay enF
              simp only
              split <;> omega
            refine Yes.jn ?_
            rw [wu64_id (show 0 ≤ (k : Int) by omega) (by omega), shr_any hq, Option.bind_some, bitv hq]
            -- the test
            have htest : (bif !q.testBit k then some true else (some (od l i)).bind fun i4 => (idx m.Widths (k : Int)).bind fun j4 => bif decide (i4.Width > j4) then some true else (some (od l i)).bind fun b6 => (some (od l i)).bind fun q6 => some (decide (w64 (endDay m l (enF e) i k + b6.Woven) > q6.Late))) =
                some (!decide (q.testBit k = true ∧ (od l i).Width ≤ wd m k ∧ endDay m l (enF e) i k + (od l i).Woven ≤ (od l i).Late)) := by
              rw [idx_wd (m := m) (by omega) (by omega)]
              simp only [Option.bind_some]
              rw [w64_id (by omega) (by omega)]
              cases q.testBit k with
              | false => simp
              | true =>
                by_cases h3 : (od l i).Width > wd m k
                · have : ¬ (od l i).Width ≤ wd m k := by omega
                  simp [h3, this]
                · have h3' : (od l i).Width ≤ wd m k := by omega
                  rw [decide_eq_false h3]
                  by_cases h4 : endDay m l (enF e) i k + (od l i).Woven > (od l i).Late
                  · have : ¬ endDay m l (enF e) i k + (od l i).Woven ≤ (od l i).Late := by omega
                    simp [h4, this]
                  · have h4' : endDay m l (enF e) i k + (od l i).Woven ≤ (od l i).Late := by omega
                    simp [h4, h3', h4']
            refine Yes.bindv _ htest ?_
            by_cases ht : q.testBit k = true ∧ (od l i).Width ≤ wd m k ∧ endDay m l (enF e) i k + (od l i).Woven ≤ (od l i).Late
            · rw [decide_eq_true ht, Bool.not_true, cond_false]
              dsimp only
              rw [apnd16 (by have := he.n; omega)]
              simp only [Option.bind_some]
              rw [eAt_idx hke, Option.bind_some, shl_bit (show i < 62 by omega), Option.bind_some, andn64 (lt128_62 hs128) (lt128_62 (pow_lt128 (by omega))), w64_id (by omega) (by omega), Int.toNat_natCast]
              have hdl := dif_lt hs128 (by omega) hb
              have hset : EndOk m (e.set k ⟨(od l i).Chain, endDay m l (enF e) i k + (od l i).Woven⟩) := by
                refine ⟨by rw [List.length_set]; exact he.n, fun j hj => ?_⟩
                rw [List.length_set] at hj
                have h5 : (eAt (e.set k ⟨(od l i).Chain, endDay m l (enF e) i k + (od l i).Woven⟩) j).Ready = (enF (e.set k ⟨(od l i).Chain, endDay m l (enF e) i k + (od l i).Woven⟩) j).2 := rfl
                rw [h5, enF_set hke]
                unfold enU
                split
                · simp only; omega
                · exact he.r j hj
              refine Yes.bind ((ih _ _ (by omega) (by omega) hset).mono fun r hr => ?_)
              cases r with
              | true => exact Yes.some ⟨fun _ => hiff.2 ⟨i, k, hb, ht.1, hkw, ht.2.1, ht.2.2, hr.1 rfl⟩, fun _ => rfl⟩
              | false => exact hnext fun hp => by have := hr.2 hp.2.2.2.2.2; cases this
            · rw [decide_eq_false ht, Bool.not_false, cond_true]
              exact hnext fun hp => ht ⟨hp.2.1, hp.2.2.2.1, hp.2.2.2.2.1⟩
          · have h2 : decide ((m.Widths.length : Int) < (m.Widths.length : Int)) = false := by simp
            refine Yes.jn ?_
            rw [h2, cond_false]
            refine hk fun j hj k hp => ?_
            by_cases hji : j = i
            · subst hji; exact hI' k hp.2.2.1 hp
            · exact hI j (by omega) k hp
      · have h1 : decide ((l.length : Int) < (l.length : Int)) = false := by simp
        refine Yes.jn ?_
        rw [h1, cond_false]
        refine Yes.some ⟨fun h => (by cases h), fun h => ?_⟩
        obtain ⟨i, k, hp⟩ := hiff.1 h
        exact absurd hp (hI i (bit_lt hs hp.1) k)
theorem mka_end {n : Nat} (h : n ≤ 7) : mka 16 (⟨0, 0⟩ : End) (n : Int) = some (List.replicate n ⟨0, 0⟩) := by
  unfold mka; rw [if_pos (by omega), Int.toNat_natCast]
theorem s63 {m : LoomMill} {l : List LoomOrder} (g : Good m l) {s q : Nat} (hs : s < 2 ^ l.length) (hq : q < 2 ^ 62) : f63 m l (s : Int) (q : Int) = some (decide (TogP m l (fun _ => none) (nums q) s)) := by
  have hw3 := g.w3
  have hl7 := g.l7
  have hp := pow7 hl7
  refine Yes.eq ?_
  unfold f63
  rw [mka_end (by omega), Option.bind_some]
  refine Yes.bind ?_
  refine Yes.upto m.Widths.length (by omega) (fun i e => e.length = m.Widths.length ∧ ∀ j, j < i → eAt e j = ⟨-1, 0⟩) ⟨by simp, fun _ h => absurd h (Nat.not_lt_zero _)⟩ (fun i e kk hi hI hk => ?_) (fun e kk hI => ?_)
  · have h1 : decide ((i : Int) < (e.length : Int)) = true := by rw [hI.1]; exact decide_eq_true (Int.ofNat_lt.2 hi)
    refine Yes.jn ?_
    rw [h1, cond_true, eAt_idx (by rw [hI.1]; exact hi)]
    dsimp only
    refine Yes.bind (Yes.some (hk _ ⟨by simp [hI.1], fun j hj => ?_⟩))
    unfold eAt
    rw [Int.toNat_natCast, List.getElem?_set]
    by_cases hij : i = j
    · subst hij; simp [hI.1, hi]
    · rw [if_neg hij]; exact hI.2 j (by omega)
  · have h1 : decide ((m.Widths.length : Int) < (e.length : Int)) = false := by rw [hI.1]; simp
    refine Yes.jn ?_
    rw [h1, cond_false]
    refine Yes.some (Yes.bind ((s86 g hq big s e (big_pos s (by omega)) hs ⟨hI.1, fun k hk => ?_⟩).mono fun r hr => Yes.some ?_))
    · rw [hI.2 k (by omega)]; simp
    · rw [Bool.eq_iff_iff, hr, decide_eq_true_iff]
      have hen : ∀ k, k < m.Widths.length → enF e k = (-1, 0) := fun k hk => by unfold enF; rw [hI.2 k hk]
      constructor
      · rintro ⟨K, F, h⟩
        refine ⟨K, F, h.mono (fun _ h => h) fun i hi ha => ⟨(mem_nums hq).2 ha.1, fun r hr => by cases hr⟩⟩
      · rintro ⟨K, F, h⟩
        refine ⟨K, F, h.mono (fun _ h => h) fun i hi ha => ⟨(mem_nums hq).1 ha.1, ?_⟩⟩
        have h2 := h.one i hi
        have h3 := h2.e
        have h4 := (g.od h2.il).2.2.2.1
        rw [hen _ h2.kw]
        simp
        omega
end Go.Proofs.Ytnfjhdagbknlbaa
