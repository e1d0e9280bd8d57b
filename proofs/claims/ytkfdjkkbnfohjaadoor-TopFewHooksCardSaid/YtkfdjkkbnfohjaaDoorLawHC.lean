/- TopFewHooks. -/
import Derived.Test.YtkfdjkkbnfohjaaDoorLawHB
set_option maxRecDepth 8000
namespace Go.Proofs.YtkfdjkkbnfohjaaDoor
open Go.RowKit
open Classical

theorem bl_at {rows : List Int} {k k' : Int} (h : bl rows k = bl rows k') {p : Nat} (hp : p < rows.length) : bit rows[p] k = bit rows[p] k' := by
 have h1 : (bl rows k)[p]'(by simp [bl]; exact hp) = (bl rows k')[p]'(by simp [bl]; exact hp) := by simp only [h]
 simpa [bl] using h1
theorem g55r {N : Nat} (hN : N ≤ 12) {V W : List Int} {r : Int} (hl : V.length = W.length) (hw : W.length ≤ 96) (hV : ∀ a ∈ V, 0 ≤ a ∧ a ≤ (N : Int) - 1) (hc : ∀ w w' (h1 : w < V.length) (h2 : w' < V.length) (h3 : w < W.length) (h4 : w' < W.length), V[w] = V[w'] → bit r W[w] = bit r W[w']) :
    Yes (lp (σ := Int × Int) (fun k189 (s8_190, s25_190) =>
              bif (decide (s25_190 < ((V).length : Int))) then
                Option.bind (α := Int) (
                  (idx V s25_190).bind fun y198 =>
                  (idx (ln W r).b s25_190).bind fun y201 =>
                  bif (y201 == (120 : UInt8)) then
                    (shl64 (1 : Int) y198).bind fun y203 =>
                    some ((bit64 .or s8_190 y203))
                  else
                    some (s8_190)
                  ) fun s8_204 =>
                k189 (s8_204, (w64 (s25_190 + (1 : Int))))
              else
                some (s8_190)
              ) big ((0 : Int), (0 : Int))) (fun a => 0 ≤ a ∧ a < ((2 ^ N : Nat) : Int) ∧ ∀ w (h1 : w < V.length) (h3 : w < W.length), bit a V[w] = bit r W[w]) := by
  have hp := pow_rng hN
  refine Yes.upto V.length (by omega) (fun i s => ∃ a : Nat, s = a ∧ a < 2 ^ N ∧ ∀ j : Nat, a.testBit j = true ↔ ∃ w, w < i ∧ ∃ (h1 : w < V.length) (h3 : w < W.length), V[w] = (j : Int) ∧ bit r W[w] = true)
    ⟨0, rfl, by omega, fun j => by simp⟩ (fun i s k hi hI hk => ?_) (fun s k hI => ?_)
  · obtain ⟨a, rfl, ha, hb⟩ := hI
    have hiW : i < W.length := by omega
    have hib : i < (ln W r).b.length := by rw [ln_len]; exact hiW
    have hbyte : (ln W r).b[i] = mk (bit r W[i]) := by simp [ln]
    have hv := hV _ (List.getElem_mem hi)
    obtain ⟨q, hq⟩ := Int.eq_ofNat_of_zero_le hv.1
    have hqN : q < N := by omega
    refine qtake (decide_eq_true (by omega)) (Yes.bind (qbind _ (qidx hi) (qbind _ (qidx hib) ?_)))
    rw [hbyte, mk_x]
    refine Yes.cond (fun ht => ?_) (fun hf => Yes.some (hk _ ⟨a, rfl, ha, fun j => ?_⟩))
    · rw [hq]
      refine qbind _ (shl_small (by omega)) (Yes.some (hk _ ?_))
      have h2q : 2 ^ q < 2 ^ N := Nat.pow_lt_pow_right (by decide) hqN
      have p62 := pow62
      refine ⟨a ||| 2 ^ q, or64 (by omega) (by omega), Nat.or_lt_two_pow ha h2q, fun j => ?_⟩
      rw [Nat.testBit_or, Nat.testBit_two_pow, Bool.or_eq_true, hb]
      constructor
      · rintro (⟨w, h, h1, h3, h4⟩ | h)
        · exact ⟨w, by omega, h1, h3, h4⟩
        · have h : q = j := by simpa using h
          exact ⟨i, by omega, hi, hiW, by rw [hq, h], ht⟩
      · rintro ⟨w, h, h1, h3, h4, h5⟩
        rcases (by omega : w < i ∨ w = i) with h | rfl
        · exact .inl ⟨w, h, h1, h3, h4, h5⟩
        · rw [hq] at h4
          exact .inr (by simp; exact Int.ofNat.inj h4)
    · rw [hb]
      constructor
      · rintro ⟨w, h, h1, h3, h4⟩; exact ⟨w, by omega, h1, h3, h4⟩
      · rintro ⟨w, h, h1, h3, h4, h5⟩
        rcases (by omega : w < i ∨ w = i) with h | rfl
        · exact ⟨w, h, h1, h3, h4, h5⟩
        · rw [hf] at h5; cases h5
  · obtain ⟨a, rfl, ha, hb⟩ := hI
    refine qskip (decide_eq_false (by omega)) (Yes.some ⟨by omega, by omega, fun w h1 h3 => ?_⟩)
    have hv := hV _ (List.getElem_mem h1)
    obtain ⟨q, hq⟩ := Int.eq_ofNat_of_zero_le hv.1
    have e : bit (a : Int) V[w] = a.testBit q := by rw [hq]; rfl
    rw [e, Bool.eq_iff_iff, hb]
    constructor
    · rintro ⟨w', _, h4, h5, h6, h7⟩
      rw [← hc w' w h4 h1 h5 h3 (by rw [h6, hq])]; exact h7
    · intro h; exact ⟨w, h1, h1, h3, by rw [hq], h⟩
structure Dsg (N : Nat) (W rows : List Int) (h : TieHarness) (D : Design) : Prop where
 hooks : D.Hooks = h.Hooks
 len : D.Rows.length = rows.length
 row : ∀ p (h1 : p < D.Rows.length) (h2 : p < rows.length), (0 ≤ D.Rows[p] ∧ D.Rows[p] < ((2 ^ N : Nat) : Int)) ∧ ∀ w (h3 : w < h.Warps.length) (h4 : w < W.length), bit D.Rows[p] h.Warps[w] = bit rows[p] W[w]
theorem g55 {N : Nat} (hN : N ≤ 12) {W rows : List Int} {h : TieHarness} (hl : h.Warps.length = W.length) (hw : W.length ≤ 96) (hr : rows.length ≤ 10) (hV : ∀ a ∈ h.Warps, 0 ≤ a ∧ a ≤ (N : Int) - 1)
  (hc : ∀ w w' (h1 : w < h.Warps.length) (h2 : w' < h.Warps.length) (h3 : w < W.length) (h4 : w' < W.length), h.Warps[w] = h.Warps[w'] → bl rows W[w] = bl rows W[w']) : Yes (f55 ⟨h⟩ (wv W rows)) (Dsg N W rows h) := by
 have hwl : (wv W rows).length = rows.length := by simp [wv]
 unfold f55
 refine Yes.bind (Yes.mono (Q' := Dsg N W rows h) ?_ fun D hD => Yes.some hD)
 refine Yes.upto rows.length (by omega) (fun i D => D.Hooks = h.Hooks ∧ D.Rows.length = i ∧ ∀ p (h1 : p < D.Rows.length) (h2 : p < rows.length), (0 ≤ D.Rows[p] ∧ D.Rows[p] < ((2 ^ N : Nat) : Int)) ∧ ∀ w (h3 : w < h.Warps.length) (h4 : w < W.length), bit D.Rows[p] h.Warps[w] = bit rows[p] W[w])
  ⟨rfl, rfl, fun p h1 => absurd h1 (Nat.not_lt_zero _)⟩ (fun i D k hi hI hk => ?_) (fun D k hI => qskip (decide_eq_false (by rw [hwl]; omega)) (Yes.some ⟨hI.1, hI.2.1, hI.2.2⟩))
 obtain ⟨i1, i2, i3⟩ := hI
 have hi2 : i < (wv W rows).length := by omega
 have e1 : (wv W rows)[i] = ln W rows[i] := by simp [wv]
 refine qtake (decide_eq_true (by rw [hwl]; omega)) (Yes.bind (qbind _ (qidx hi2) ?_))
 rw [e1]
 refine Yes.bind ((g55r hN hl hw hV (r := rows[i]) fun w w' h1 h2 h3 h4 e => bl_at (hc w w' h1 h2 h3 h4 e) hi).mono fun a ha => Yes.bind (Yes.apnd (by rw [i2]; simp; omega) (by rw [i2]; simp; omega) (Yes.some (hk _ ⟨i1, by show (D.Rows ++ [a]).length = _; rw [List.length_append, i2]; rfl, fun p h1 h2 => ?_⟩))))
 have h1 : p < (D.Rows ++ [a]).length := h1
 show (0 ≤ (D.Rows ++ [a])[p] ∧ (D.Rows ++ [a])[p] < _) ∧ ∀ w (h3 : w < h.Warps.length) (h4 : w < W.length), bit (D.Rows ++ [a])[p] h.Warps[w] = bit rows[p] W[w]
 by_cases hpi : p < D.Rows.length
 ·rw [List.getElem_append_left hpi]; exact i3 p hpi h2
 ·have : p = i := by rw [List.length_append] at h1; simp at h1; omega
  subst this
  have e : (D.Rows ++ [a])[p] = a := by rw [List.getElem_append_right (by omega)]; simp
  rw [e]
  exact ⟨⟨ha.1, ha.2.1⟩, fun w h3 h4 => ha.2.2 w h3 h4⟩
theorem g18 {H : Nat} (hH : H ≤ 12) {W rows : List Int} (hw : 1 ≤ W.length ∧ W.length ≤ 96) (hr : 1 ≤ rows.length ∧ rows.length ≤ 10) (hW : ∀ a ∈ W, 0 ≤ a ∧ a ≤ (H : Int) - 1) :
  Yes (f18 (wv W rows)) (fun r => r.2.2 = 0 ∧ Few W rows r.1 ∧ HOk ((W.map (bl rows)).foldl ins []).length r.1 ∧ Dsg ((W.map (bl rows)).foldl ins []).length W rows r.1 r.2.1) := by
 have hfew := few_le (rows := rows) hW
 unfold f18
 refine Yes.jn (Yes.bind ((g54 hH hw hr hW).mono fun r hr2 => ?_))
 obtain ⟨r1, r2⟩ := hr2
 have hHk : HOk ((W.map (bl rows)).foldl ins []).length r.1 := by
  refine ⟨r2.hooks, by have := r2.len; omega, fun a ha => ?_⟩
  obtain ⟨w, hw1, rfl⟩ := List.getElem_of_mem ha
  obtain ⟨j, j1, j2⟩ := r2.at_ w hw1 (by have := r2.len; omega)
  have := (List.getElem?_eq_some_iff.1 j2).1
  rw [ded_cs, List.length_map] at this
  rw [j1]; omega
 refine qskip (by rw [r1]; rfl) (Yes.bind ((g55 (N := ((W.map (bl rows)).foldl ins []).length) (by omega) r2.len hw.2 hr.2 hHk.2.2 fun w w' h1 h2 h3 h4 e => ?_).mono fun D hD => Yes.some ⟨rfl, r2, hHk, hD⟩))
 obtain ⟨j, j1, j2⟩ := r2.at_ w h1 h3
 obtain ⟨j', j3, j4⟩ := r2.at_ w' h2 h4
 have : j = j' := by rw [j1, j3] at e; omega
 subst this
 rw [j2] at j4
 exact cs_inj (Option.some.inj j4)
def vc (b : List Bool) : Vector Bool 10 := Vector.ofFn fun q => b.getD q.val false
theorem vc_at (b : List Bool) {q : Nat} (hq : q < 10) : (vc b)[q] = b.getD q false := by simp [vc]
theorem vc_inj {n : Nat} (hn : n ≤ 10) {a b : List Bool} (ha : a.length = n) (hb : b.length = n) (h : vc a = vc b) : a = b := by
 apply List.ext_getElem (by omega)
 intro i h1 h2
 have e : (vc a)[i]'(by omega) = (vc b)[i]'(by omega) := by rw [h]
 rw [vc_at, vc_at, List.getD_eq_getElem?_getD, List.getD_eq_getElem?_getD, List.getElem?_eq_getElem h1, List.getElem?_eq_getElem h2] at e
 exact e
theorem zero10 {q : Nat} (hq : q < 10) : (⟨List.toArray [false, false, false, false, false, false, false, false, false, false], rfl⟩ : Vector Bool 10)[q] = false := by
 rcases (by omega : q = 0 ∨ q = 1 ∨ q = 2 ∨ q = 3 ∨ q = 4 ∨ q = 5 ∨ q = 6 ∨ q = 7 ∨ q = 8 ∨ q = 9) with rfl | rfl | rfl | rfl | rfl | rfl | rfl | rfl | rfl | rfl <;> rfl
theorem vset_at {β : Type} {n : Nat} {v : Vector β n} {i : Nat} {y : β} {j : Nat} (hj : j < n) : (vset v (i : Int) y)[j] = if i = j then y else v[j] := by
 unfold vset
 rw [Int.toNat_natCast, Vector.getElem_setIfInBounds]
theorem vidx {α : Type} {n : Nat} (v : Vector α n) {i : Nat} (h : i < n) : idx v.toList (i : Int) = some v[i] := by
 rw [qidx (by simpa using h)]; simp
theorem c19 {xs : List Str} (h : xs.length ≤ 1000) : f19 xs = some xs := by
 refine Yes.eq ?_
 unfold f19
 exact Yes.bind (Yes.apnd (by simp; omega) (by simp; omega) (Yes.some rfl))
theorem arm_tie : f25 = some true := by kernel_rfl
theorem s4 {A D E F : Prop} (x : Loom) (hh : A ∧ (x.Warps.length ≤ 9223372036854775807 ∧ D) ∧ (x.Rows.length ≤ 9223372036854775807 ∧ E) ∧ (x.Cards.length ≤ 9223372036854775807 ∧ F)) : f4 x = some true := by
 obtain ⟨_, ⟨hw, _⟩, ⟨hr, _⟩, _⟩ := hh
 have hH := hk_rng x
 refine Yes.eq ?_
 unfold f4
 refine Yes.bind ((p54 x hw).mono fun h hh => Yes.bind ((p55 x hr).mono fun d hd => ?_))
 generalize hk x = H at hH hh hd
 obtain ⟨d1, d2, d3⟩ := id hd
 obtain ⟨h1, h2, h3⟩ := id hh
 have hp := pow_rng hH.2
 have hwl : (wv h.Warps d.Rows).length = d.Rows.length := by simp [wv]
 have hle := few_le (rows := d.Rows) h3
 refine qbind _ (c30 hh) (qbind _ (c31 hd) (qbind _ (g15 hH hh hd) (qbind _ (c19 (by rw [hwl]; omega)) (Yes.bind ((g18 hH.2 h2 d2 h3).mono fun r hr => ?_)))))
 obtain ⟨r1, r2, r3, r4⟩ := hr
 generalize hK : (h.Warps.map (bl d.Rows)).foldl ins [] = K at hle r3 r4
 have rh := r2.hooks
 rw [hK] at rh
 have hpos : 1 ≤ K.length := by
  have h0 : 0 < h.Warps.length := by omega
  have : bl d.Rows h.Warps[0] ∈ K := by rw [← hK]; exact ded_mem.2 (.inr (List.mem_map_of_mem (List.getElem_mem h0)))
  exact List.length_pos_of_mem this
 have hN : 1 ≤ K.length ∧ K.length ≤ 12 := by omega
 have hds : DOk K.length r.2.1 := ⟨by rw [r4.hooks]; exact rh, by have := r4.len; omega, fun a ha => by
  obtain ⟨p, hp1, rfl⟩ := List.getElem_of_mem ha
  exact (r4.row p hp1 (by have := r4.len; omega)).1⟩
 refine Yes.jn (Yes.bind (qskip rfl (qskip (by rw [r1]; rfl) (qskip (decide_eq_false (by omega)) (Yes.some (qskip (decide_eq_false (by omega)) ?_))))))
 have hcl := crd_len r.2.1.Rows
 have hb : BOk K.length ⟨r.2.1.Hooks, crd r.2.1.Rows⟩ := bok_of hds.2.1 hds.2.2 hds.1 (by rw [crd_un])
 refine qbind _ (p42 hN hds) (Yes.jn (Yes.bind (qskip rfl (qskip (by simp [hcl, r4.len]) (Yes.some (qskip (by simp [r4.hooks]) ?_))))))
 have hrep : f22 (d.Rows.length : Int) 1 = some (List.replicate (crd r.2.1.Rows).length 1) := by rw [c60 (by omega), hcl, r4.len]
 refine qbind _ hrep (Yes.bind ((p45 hN hb).mono fun v hv => ?_))
 obtain ⟨v1, v2, v3, v4⟩ := hv
 have hv : v.1 = r.2.1.Rows := by
  rw [v4 fun c hc => by
   obtain ⟨i, hi, rfl⟩ := List.getElem_of_mem hc
   have hi : i < (crd r.2.1.Rows).length := hi
   have hi' : i < r.2.1.Rows.length := by rw [crd_len] at hi; exact hi
   show (crd r.2.1.Rows)[i].Turned = false
   rw [crd_at hi hi']]
  exact crd_row _
 have hda : DOk K.length ⟨r.1.Hooks, v.1⟩ := ⟨rh, by rw [hv]; exact hds.2⟩
 have hagain : wv r.1.Warps v.1 = wv h.Warps d.Rows := by
  rw [hv]
  unfold wv
  apply List.ext_getElem (by simp [r4.len])
  intro p q1 q2
  have p1 : p < r.2.1.Rows.length := by simpa using q1
  have p2 : p < d.Rows.length := by simpa using q2
  rw [List.getElem_map, List.getElem_map]
  unfold ln
  congr 1
  apply List.ext_getElem (by simp [r2.len])
  intro w w1 w2
  have w3 : w < r.1.Warps.length := by simpa using w1
  have w4 : w < h.Warps.length := by simpa using w2
  rw [List.getElem_map, List.getElem_map, (r4.row p p1 p2).2 w w3 w4]
 refine qbind _ (by rw [g15 hN r3 hda, hagain]) ?_
 refine Yes.bind (Yes.mono (Q' := fun m : List (Vector Bool 10 × Bool) => m.map (·.1) = (h.Warps.map fun k => vc (bl d.Rows k)).foldl ins []) ?_ fun m hm => ?_)
 ·refine Yes.upto h.Warps.length (by omega) (fun i m => m.map (·.1) = ((h.Warps.take i).map fun k => vc (bl d.Rows k)).foldl ins []) rfl (fun i m k hi hI hk => ?_) (fun m k hI => Yes.jn (qskip (decide_eq_false (by omega)) (Yes.some (by rw [hI, List.take_length]))))
  refine Yes.jn (qtake (decide_eq_true (by omega)) (Yes.bind (Yes.bind (Yes.mono (Q' := fun v => v = vc (bl d.Rows h.Warps[i])) ?_ fun v hv => Yes.some (hk _ ?_)))))
  ·have hkr := h3 _ (List.getElem_mem hi)
   have hbl : (bl d.Rows h.Warps[i]).length = d.Rows.length := by simp [bl]
   refine Yes.upto d.Rows.length (by omega) (fun j v => ∀ q (hq : q < 10), v[q] = if q < j then (bl d.Rows h.Warps[i]).getD q false else false) (fun q hq => by rw [if_neg (by omega)]; exact zero10 hq) (fun j v k2 hj hJ hk2 => ?_) (fun v k2 hJ => Yes.jn (qskip (decide_eq_false (by omega)) (Yes.some ?_)))
   ·obtain ⟨y, hy, hyb⟩ := lift_bit (r := d.Rows[j]) (k := h.Warps[i]) (by have := d3 _ (List.getElem_mem hj); omega) (by omega)
    refine Yes.jn (qtake (decide_eq_true (by omega)) (Yes.bind (qbind _ (qidx hj) (qbind _ (qidx hi) ?_))))
    rw [wu_id (by omega) (by omega)]
    refine qbind _ hy (qbind _ (vidx v (by omega)) (Yes.some (hk2 _ fun q hq => ?_)))
    rw [hyb, vset_at hq]
    by_cases hqj : j = q
    ·subst hqj
     rw [if_pos rfl, if_pos (by omega), List.getD_eq_getElem?_getD, List.getElem?_eq_getElem (by omega)]
     simp [bl]
    ·rw [if_neg hqj, hJ q hq]
     by_cases h4 : q < j
     ·rw [if_pos h4, if_pos (by omega)]
     ·rw [if_neg h4, if_neg (by omega)]
   ·apply Vector.ext
    intro q hq
    rw [hJ q hq, vc_at _ hq]
    split
    ·rfl
    ·rw [List.getD_eq_getElem?_getD, List.getElem?_eq_none (by omega)]; rfl
  ·show (mset m v true).map (·.1) = _
   rw [mset_keys, hI, hv, take_succ hi, List.map_append, ← ded_snoc]; rfl
 have hml : m.length = K.length := by
  have e := ded_map (f := vc) (S := fun b => b.length = d.Rows.length) (fun a b ha hb e => vc_inj d2.2 ha hb e) (L := h.Warps.map (bl d.Rows)) (ks := []) (by simp) (fun b hb => by
   obtain ⟨k, _, rfl⟩ := List.mem_map.1 hb; simp [bl])
  rw [hK, List.map_nil, List.map_map] at e
  have e2 : m.map (·.1) = K.map vc := by rw [hm]; exact e
  have := congrArg List.length e2
  simpa using this
 refine Yes.bind (Yes.mono (Q' := fun r => r = true) ?_ fun r hr => Yes.some hr)
 refine qtake (by rw [v1]; rfl) (qtake rfl (qbind true (c32 (by rw [hwl]; omega)) (qtake rfl (qtake (beq_iff_eq.2 (by omega)) (qbind true rfl (qtake rfl (qbind true arm_tie (Yes.some rfl))))))))
end Go.Proofs.YtkfdjkkbnfohjaaDoor
