/- Plain laws: a cloth that a wrong drawing weaves; where it cannot be read. -/
import Derived.Test.YtkfdjkkbnfohjaaDoorLawRB
set_option maxRecDepth 8000
namespace Go.Proofs.YtkfdjkkbnfohjaaDoor
open Go.RowKit
open Classical

theorem bl_at {rows : List Int} {k k' : Int} (h : bl rows k = bl rows k') {p : Nat} (hp : p < rows.length) : bit rows[p] k = bit rows[p] k' := by
 have h1 : (bl rows k)[p]'(by simp [bl]; exact hp) = (bl rows k')[p]'(by simp [bl]; exact hp) := by simp only [h]
 simpa [bl] using h1
theorem g55r {N : Nat} (hN : N ≤ 13) {V W : List Int} {r : Int} (hl : V.length = W.length) (hw : W.length ≤ 96) (hV : ∀ a ∈ V, 0 ≤ a ∧ a ≤ (N : Int) - 1) (hc : ∀ w w' (h1 : w < V.length) (h2 : w' < V.length) (h3 : w < W.length) (h4 : w' < W.length), V[w] = V[w'] → bit r W[w] = bit r W[w']) :
    Yes (lp (σ := Int × Int) (fun k189 (s8_190, s25_190) =>
              bif (decide (s25_190 < ((V).length : Int))) then
                Option.bind (α := Int) (
                  (idx V s25_190).bind fun y198 =>
                  (idx (ln W r).b s25_190).bind fun y201 =>
                  bif (y201 == (120 : UInt8)) then
                    (shl64 (1 : Int) y198).bind fun y203 =>
                    some ((bit64 .or s8_190 y203))
                  else
                    some (s8_190)
                  ) fun s8_204 =>
                k189 (s8_204, (w64 (s25_190 + (1 : Int))))
              else
                some (s8_190)
              ) big ((0 : Int), (0 : Int))) (fun a => 0 ≤ a ∧ a < ((2 ^ N : Nat) : Int) ∧ ∀ w (h1 : w < V.length) (h3 : w < W.length), bit a V[w] = bit r W[w]) := by
  have hp : 1 ≤ 2 ^ N ∧ 2 ^ N ≤ 8192 := ⟨Nat.one_le_two_pow, Nat.pow_le_pow_right (n := 2) (by omega) hN⟩
  refine Yes.upto V.length (by omega) (fun i s => ∃ a : Nat, s = a ∧ a < 2 ^ N ∧ ∀ j : Nat, a.testBit j = true ↔ ∃ w, w < i ∧ ∃ (h1 : w < V.length) (h3 : w < W.length), V[w] = (j : Int) ∧ bit r W[w] = true)
    ⟨0, rfl, by omega, fun j => by simp⟩ (fun i s k hi hI hk => ?_) (fun s k hI => ?_)
  · obtain ⟨a, rfl, ha, hb⟩ := hI
    have hiW : i < W.length := by omega
    have hib : i < (ln W r).b.length := by rw [ln_len]; exact hiW
    have hbyte : (ln W r).b[i] = mk (bit r W[i]) := by simp [ln]
    have hv := hV _ (List.getElem_mem hi)
    obtain ⟨q, hq⟩ := Int.eq_ofNat_of_zero_le hv.1
    have hqN : q < N := by omega
    refine qtake (decide_eq_true (by omega)) (Yes.bind (qbind _ (qidx hi) (qbind _ (qidx hib) ?_)))
    rw [hbyte, mk_x]
    refine Yes.cond (fun ht => ?_) (fun hf => Yes.some (hk _ ⟨a, rfl, ha, fun j => ?_⟩))
    · rw [hq]
      refine qbind _ (shl_small (by omega)) (Yes.some (hk _ ?_))
      have h2q : 2 ^ q < 2 ^ N := Nat.pow_lt_pow_right (by decide) hqN
      have p62 := pow62
      refine ⟨a ||| 2 ^ q, or64 (by omega) (by omega), Nat.or_lt_two_pow ha h2q, fun j => ?_⟩
      rw [Nat.testBit_or, Nat.testBit_two_pow, Bool.or_eq_true, hb]
      constructor
      · rintro (⟨w, h, h1, h3, h4⟩ | h)
        · exact ⟨w, by omega, h1, h3, h4⟩
        · have h : q = j := by simpa using h
          exact ⟨i, by omega, hi, hiW, by rw [hq, h], ht⟩
      · rintro ⟨w, h, h1, h3, h4, h5⟩
        rcases (by omega : w < i ∨ w = i) with h | rfl
        · exact .inl ⟨w, h, h1, h3, h4, h5⟩
        · rw [hq] at h4
          exact .inr (by simp; exact Int.ofNat.inj h4)
    · rw [hb]
      constructor
      · rintro ⟨w, h, h1, h3, h4⟩; exact ⟨w, by omega, h1, h3, h4⟩
      · rintro ⟨w, h, h1, h3, h4, h5⟩
        rcases (by omega : w < i ∨ w = i) with h | rfl
        · exact ⟨w, h, h1, h3, h4, h5⟩
        · rw [hf] at h5; cases h5
  · obtain ⟨a, rfl, ha, hb⟩ := hI
    refine qskip (decide_eq_false (by omega)) (Yes.some ⟨by omega, by omega, fun w h1 h3 => ?_⟩)
    have hv := hV _ (List.getElem_mem h1)
    obtain ⟨q, hq⟩ := Int.eq_ofNat_of_zero_le hv.1
    have e : bit (a : Int) V[w] = a.testBit q := by rw [hq]; rfl
    rw [e, Bool.eq_iff_iff, hb]
    constructor
    · rintro ⟨w', _, h4, h5, h6, h7⟩
      rw [← hc w' w h4 h1 h5 h3 (by rw [h6, hq])]; exact h7
    · intro h; exact ⟨w, h1, h1, h3, by rw [hq], h⟩
structure Dsg (N : Nat) (W rows : List Int) (h : TieHarness) (D : Design) : Prop where
 hooks : D.Hooks = h.Hooks
 len : D.Rows.length = rows.length
 row : ∀ p (h1 : p < D.Rows.length) (h2 : p < rows.length), (0 ≤ D.Rows[p] ∧ D.Rows[p] < ((2 ^ N : Nat) : Int)) ∧ ∀ w (h3 : w < h.Warps.length) (h4 : w < W.length), bit D.Rows[p] h.Warps[w] = bit rows[p] W[w]
theorem g55 {N : Nat} (hN : N ≤ 13) {W rows : List Int} {h : TieHarness} (hl : h.Warps.length = W.length) (hw : W.length ≤ 96) (hr : rows.length ≤ 10) (hV : ∀ a ∈ h.Warps, 0 ≤ a ∧ a ≤ (N : Int) - 1)
  (hc : ∀ w w' (h1 : w < h.Warps.length) (h2 : w' < h.Warps.length) (h3 : w < W.length) (h4 : w' < W.length), h.Warps[w] = h.Warps[w'] → bl rows W[w] = bl rows W[w']) : Yes (f55 ⟨h⟩ (wv W rows)) (Dsg N W rows h) := by
 have hwl : (wv W rows).length = rows.length := by simp [wv]
 unfold f55
 refine Yes.bind (Yes.mono (Q' := Dsg N W rows h) ?_ fun D hD => Yes.some hD)
 refine Yes.upto rows.length (by omega) (fun i D => D.Hooks = h.Hooks ∧ D.Rows.length = i ∧ ∀ p (h1 : p < D.Rows.length) (h2 : p < rows.length), (0 ≤ D.Rows[p] ∧ D.Rows[p] < ((2 ^ N : Nat) : Int)) ∧ ∀ w (h3 : w < h.Warps.length) (h4 : w < W.length), bit D.Rows[p] h.Warps[w] = bit rows[p] W[w])
  ⟨rfl, rfl, fun p h1 => absurd h1 (Nat.not_lt_zero _)⟩ (fun i D k hi hI hk => ?_) (fun D k hI => qskip (decide_eq_false (by rw [hwl]; omega)) (Yes.some ⟨hI.1, hI.2.1, hI.2.2⟩))
 obtain ⟨i1, i2, i3⟩ := hI
 have hi2 : i < (wv W rows).length := by omega
 have e1 : (wv W rows)[i] = ln W rows[i] := by simp [wv]
 refine qtake (decide_eq_true (by rw [hwl]; omega)) (Yes.bind (qbind _ (qidx hi2) ?_))
 rw [e1]
 refine Yes.bind ((g55r hN hl hw hV (r := rows[i]) fun w w' h1 h2 h3 h4 e => bl_at (hc w w' h1 h2 h3 h4 e) hi).mono fun a ha => Yes.bind (Yes.apnd (by rw [i2]; simp; omega) (by rw [i2]; simp; omega) (Yes.some (hk _ ⟨i1, by show (D.Rows ++ [a]).length = _; rw [List.length_append, i2]; rfl, fun p h1 h2 => ?_⟩))))
 have h1 : p < (D.Rows ++ [a]).length := h1
 show (0 ≤ (D.Rows ++ [a])[p] ∧ (D.Rows ++ [a])[p] < _) ∧ ∀ w (h3 : w < h.Warps.length) (h4 : w < W.length), bit (D.Rows ++ [a])[p] h.Warps[w] = bit rows[p] W[w]
 by_cases hpi : p < D.Rows.length
 ·rw [List.getElem_append_left hpi]; exact i3 p hpi h2
 ·have : p = i := by rw [List.length_append] at h1; simp at h1; omega
  subst this
  have e : (D.Rows ++ [a])[p] = a := by rw [List.getElem_append_right (by omega)]; simp
  rw [e]
  exact ⟨⟨ha.1, ha.2.1⟩, fun w h3 h4 => ha.2.2 w h3 h4⟩
theorem g18 {W rows : List Int} (hw : 1 ≤ W.length ∧ W.length ≤ 96) (hr : 1 ≤ rows.length ∧ rows.length ≤ 10) (hK : ∀ L : List Int, (∀ a ∈ L, a ∈ W) → ((L.map (bl rows)).foldl ins []).length ≤ 13) :
  Yes (f18 (wv W rows)) (fun r => r.2.2 = 0 ∧ r.1.Hooks = (((W.map (bl rows)).foldl ins []).length : Int)) := by
 have hfew := hK W fun a h => h
 unfold f18
 refine Yes.jn (Yes.bind ((g54 hw hr hK).mono fun r hr2 => ?_))
 obtain ⟨r1, r2⟩ := hr2
 have hV : ∀ a ∈ r.1.Warps, 0 ≤ a ∧ a ≤ (((W.map (bl rows)).foldl ins []).length : Int) - 1 := fun a ha => by
  obtain ⟨w, hw1, rfl⟩ := List.getElem_of_mem ha
  obtain ⟨j, j1, j2⟩ := r2.at_ w hw1 (by have := r2.len; omega)
  have := (List.getElem?_eq_some_iff.1 j2).1
  rw [ded_cs, List.length_map] at this
  rw [j1]; omega
 refine qskip (by rw [r1]; rfl) (Yes.bind ((g55 hfew r2.len hw.2 hr.2 hV fun w w' h1 h2 h3 h4 e => ?_).mono fun D hD => Yes.some ⟨rfl, r2.hooks⟩))
 obtain ⟨j, j1, j2⟩ := r2.at_ w h1 h3
 obtain ⟨j', j3, j4⟩ := r2.at_ w' h2 h4
 have : j = j' := by rw [j1, j3] at e; omega
 subst this
 rw [j2] at j4
 exact cs_inj (Option.some.inj j4)
def eff (W dr : List Int) : List Int := dr.map fun e => if e = -1 then 62 else W.getD e.toNat 0
def Drw (n : Nat) (dr : List Int) : Prop := dr.length = n ∧ ∀ e ∈ dr, -1 ≤ e ∧ e ≤ (n : Int) - 1
theorem eff_len {W dr : List Int} : (eff W dr).length = dr.length := by simp [eff]
theorem bit62 {r : Int} (h : 0 ≤ r ∧ r < 4096) : bit r 62 = false := by
 unfold bit
 refine Nat.testBit_lt_two_pow (Nat.lt_of_lt_of_le (show r.toNat < 4096 by omega) ?_)
 show 4096 ≤ 2 ^ 62
 decide
theorem p26 {n : Nat} (hn : 1 ≤ n ∧ n ≤ 96) (by_ : List UInt8) (hl : by_.length ≤ 9223372036854775807) : Yes (f26 (n : Int) by_) (Drw n) := by
 unfold f26
 refine Yes.bind (Yes.mono (Q' := Drw n) ?_ fun d hd => Yes.some hd)
 refine Yes.upto n (by omega) (fun i d => d.length = i ∧ ∀ e ∈ d, -1 ≤ e ∧ e ≤ (n : Int) - 1) ⟨rfl, by simp⟩ (fun i d k hi hI hk => ?_) (fun d k hI => Yes.jn (qskip (decide_eq_false (by omega)) (Yes.some hI)))
 obtain ⟨i1, i2⟩ := hI
 refine Yes.jn (qtake (decide_eq_true (by omega)) (Yes.bind (Yes.bind (Yes.mono (Q' := fun e => -1 ≤ e ∧ e ≤ (n : Int) - 1) ?_ fun e he => Yes.bind (Yes.apnd (by rw [i1]; simp; omega) (by rw [i1]; simp; omega) (Yes.some (hk _ ⟨by simp [i1], fun x hx => ?_⟩)))))))
 ·refine Yes.cond (fun hc => ?_) (fun _ => Yes.some (by omega))
  have hlt : i < by_.length := by have := of_decide_eq_true hc; omega
  have hb := (by_[i]).toNat_lt
  refine qbind _ (qidx hlt) (qbind _ (rem_nn (by omega) (by omega)) (Yes.cond (fun _ => Yes.some (by omega)) (fun _ => Yes.cond (fun _ => ?_) (fun _ => Yes.some (by omega)))))
  refine qbind _ (rem_nn (by omega) (by omega)) (Yes.some ?_)
  have h1 := Int.emod_nonneg ((by_[i]).toNat : Int) (show (n : Int) ≠ 0 by omega)
  have h2 := Int.emod_lt_of_pos ((by_[i]).toNat : Int) (show (0 : Int) < n by omega)
  omega
 ·rcases List.mem_append.1 hx with hx | hx
  ·exact i2 x hx
  ·rw [List.mem_singleton.1 hx]; exact he
theorem b164 (x a b : Int) : f164 x a b = some (!btw a b x) := by unfold f164 btw; by_cases h1 : x < a <;> by_cases h2 : x > b <;> simp [h1, h2] <;> omega
theorem c112e (a b : Int) (xs : List Int) (hl : xs.length < 9223372036854775807) (h : ∀ x ∈ xs, a ≤ x ∧ x ≤ b) : f112 a b xs = some true := by
 unfold f112
 rw [c165 xs _ (fun x => !btw a b x) hl fun x _ => b164 x a b]
 simp only [Option.bind_some, Option.some.injEq, Bool.not_eq_true', List.any_eq_false]
 exact fun x hx => by rw [btw_iff.2 (h x hx)]; simp
theorem g64 {H : Nat} {h : TieHarness} {dr : List Int} (hH : 1 ≤ H ∧ H ≤ 12) (hk : HOk H h) (hd : Drw h.Warps.length dr) : f64 h dr = some 0 := by
 have h2 := hk.2.1
 refine Yes.eq ?_
 unfold f64
 refine Yes.jn (qbind _ (c105 hH hk) (qskip rfl (Yes.jn (qskip (by rw [hd.1]; simp) (qbind true (c112e _ _ _ (by rw [hd.1]; omega) fun x hx => ?_) (qskip rfl (Yes.some rfl)))))))
 rw [w64_id (by omega) (by omega)]; exact hd.2 x hx
theorem eff_at {W dr : List Int} {w : Nat} (hw : w < dr.length) (hw2 : w < (eff W dr).length) (hd : Drw W.length dr) : (dr[w] = -1 ∧ (eff W dr)[w] = 62) ∨ ∃ e : Nat, dr[w] = e ∧ ∃ he : e < W.length, (eff W dr)[w] = W[e] := by
 have hr := hd.2 _ (List.getElem_mem hw)
 have e0 : (eff W dr)[w] = if dr[w] = -1 then 62 else W.getD dr[w].toNat 0 := by simp [eff]
 by_cases h : dr[w] = -1
 ·exact .inl ⟨h, by rw [e0, if_pos h]⟩
 ·refine .inr ⟨dr[w].toNat, by omega, by omega, ?_⟩
  rw [e0, if_neg h, List.getD_eq_getElem?_getD, List.getElem?_eq_getElem (by omega)]; rfl
theorem g27 {H : Nat} {h : TieHarness} {d : Design} {dr : List Int} (hH : 1 ≤ H ∧ H ≤ 12) (hk : HOk H h) (hd : DOk H d) (hdr : Drw h.Warps.length dr) : f27 h dr d = some (wv (eff h.Warps dr) d.Rows, 0) := by
 have h2 := hk.2.1
 have d2 := hd.2.1
 have hp := pow_rng hH.2
 have hwl : (wv h.Warps d.Rows).length = d.Rows.length := by simp [wv]
 have hdl := hdr.1
 refine Yes.eq ?_
 unfold f27
 refine Yes.jn (qbind _ (g64 hH hk hdr) (qskip rfl (qbind _ (g15 hH hk hd) (Yes.jn (qskip rfl ?_)))))
 refine Yes.bind (Yes.mono (Q' := fun s => s = wv (eff h.Warps dr) d.Rows) ?_ fun s hs => Yes.some (by rw [hs]))
 refine Yes.upto d.Rows.length (by omega) (fun i s => s = wv (eff h.Warps dr) (d.Rows.take i)) rfl (fun i s k hi hI hk2 => ?_) (fun s k hI => qskip (decide_eq_false (by rw [hwl]; omega)) (Yes.some (by rw [hI, List.take_length])))
 have hsl : s.length = i := by rw [hI]; simp [wv]; omega
 have hi2 : i < (wv h.Warps d.Rows).length := by omega
 have e1 : (wv h.Warps d.Rows)[i] = ln h.Warps d.Rows[i] := by simp [wv]
 have hrr := hd.2.2 _ (List.getElem_mem hi)
 refine qtake (decide_eq_true (by rw [hwl]; omega)) (Yes.bind (qbind _ (qidx hi2) ?_))
 rw [e1]
 refine Yes.bind (Yes.mono (Q' := fun b => b = (ln (eff h.Warps dr) d.Rows[i]).b) ?_ fun b hb => Yes.bind (Yes.apnd (by rw [hsl]; simp; omega) (by rw [hsl]; simp; omega) (Yes.some (hk2 _ ?_))))
 ·refine Yes.upto dr.length (by omega) (fun j b => b = ((eff h.Warps dr).take j).map fun k => mk (bit d.Rows[i] k)) rfl (fun j b k hj hJ hk3 => ?_) (fun b k hJ => qskip (decide_eq_false (by omega)) (Yes.some ?_))
  ·have hje : j < (eff h.Warps dr).length := by rw [eff_len]; exact hj
   have hbl : b.length = j := by rw [hJ]; simp; omega
   have hsucc : ∀ c : UInt8, c = mk (bit d.Rows[i] (eff h.Warps dr)[j]) → b ++ [c] = ((eff h.Warps dr).take (j + 1)).map fun k => mk (bit d.Rows[i] k) := fun c hc => by rw [hJ, hc, take_succ hje, List.map_append]; rfl
   refine qtake (decide_eq_true (by omega)) (Yes.bind (qbind _ (qidx hj) ?_))
   rcases eff_at hj hje hdr with ⟨q1, q2⟩ | ⟨e, q1, he, q2⟩
   ·refine qtake (by rw [q1]; rfl) (Yes.bind (Yes.apnd (by rw [hbl]; simp; omega) (by rw [hbl]; simp; omega) (Yes.some (hk3 _ (hsucc _ ?_)))))
    rw [q2, bit62 (by omega)]; rfl
   ·have heb : e < (ln h.Warps d.Rows[i]).b.length := by rw [ln_len]; exact he
    rw [q1]
    refine qskip (beq_eq_false_iff_ne.2 (by omega)) (qbind _ (qidx heb) (Yes.bind (Yes.apnd (by rw [hbl]; simp; omega) (by rw [hbl]; simp; omega) (Yes.some (hk3 _ (hsucc _ ?_))))))
    rw [q2]; simp [ln]
  ·rw [hJ, ← eff_len (W := h.Warps) (dr := dr), List.take_length]; rfl
 ·rw [hI, hb, take_succ hi]
  unfold wv
  rw [List.map_append]
  rfl
theorem g29 {H : Nat} {h : TieHarness} {dr : List Int} (hH : 1 ≤ H ∧ H ≤ 12) (hk : HOk H h) (hdr : Drw h.Warps.length dr) :
  Yes (f29 h dr) (fun r => r.2 = 0 ∧ r.1.length ≤ 96 ∧ ∀ w (h1 : w < h.Warps.length) (h2 : w < (eff h.Warps dr).length), ¬ (w : Int) ∈ r.1 → (eff h.Warps dr)[w] = h.Warps[w]) := by
 have h2 := hk.2.1
 have hdl := hdr.1
 unfold f29
 refine Yes.jn (qbind _ (g64 hH hk hdr) (qskip rfl ?_))
 refine Yes.bind (Yes.mono (Q' := fun s => s.length ≤ 96 ∧ ∀ w (h1 : w < h.Warps.length) (h2 : w < (eff h.Warps dr).length), ¬ (w : Int) ∈ s → (eff h.Warps dr)[w] = h.Warps[w]) ?_ fun s hs => Yes.some ⟨rfl, hs⟩)
 refine Yes.upto dr.length (by omega) (fun i s => s.length ≤ i ∧ ∀ w (h1 : w < h.Warps.length) (h2 : w < (eff h.Warps dr).length), w < i → ¬ (w : Int) ∈ s → (eff h.Warps dr)[w] = h.Warps[w]) ⟨by simp, fun w _ _ h => absurd h (Nat.not_lt_zero _)⟩ (fun i s k hi hI hk2 => ?_) (fun s k hI => qskip (decide_eq_false (by omega)) (Yes.some ⟨by omega, fun w h1 h3 => hI.2 w h1 h3 (by omega)⟩))
 obtain ⟨i1, i2⟩ := hI
 have hie : i < (eff h.Warps dr).length := by rw [eff_len]; exact hi
 have hiW : i < h.Warps.length := by omega
 refine qtake (decide_eq_true (by omega)) (Yes.bind (Yes.bind (Yes.mono (Q' := fun b => b = true → (eff h.Warps dr)[i] = h.Warps[i]) ?_ fun b hb => ?_)))
 ·unfold f65
  refine qbind _ (qidx hi) (Yes.bind ?_)
  rcases eff_at hi hie hdr with ⟨q1, q2⟩ | ⟨e, q1, he, q2⟩
  ·exact qskip (by rw [q1]; rfl) (Yes.some (Yes.some fun h => nomatch h))
  ·rw [q1]
   refine qtake (bne_iff_ne.2 (by omega)) (qbind _ (qidx he) (qbind _ (qidx hiW) (Yes.some (Yes.some fun hc => ?_))))
   rw [q2]; exact beq_iff_eq.1 hc
 ·cases b
  ·refine qtake rfl (Yes.bind (Yes.apnd (by simp; omega) (by simp; omega) (Yes.some (hk2 _ ⟨by simp; omega, fun w h1 h3 hlt hn => ?_⟩))))
   rw [List.mem_append, not_or] at hn
   rcases (by omega : w < i ∨ w = i) with h | rfl
   ·exact i2 w h1 h3 h hn.1
   ·exact absurd (List.mem_singleton.2 rfl) hn.2
  ·refine qskip rfl (Yes.some (hk2 _ ⟨by omega, fun w h1 h3 hlt hn => ?_⟩))
   rcases (by omega : w < i ∨ w = i) with h | rfl
   ·exact i2 w h1 h3 h hn
   ·exact hb rfl
theorem mget_mset {κ ν : Type} [DecidableEq κ] (k : κ) (v : ν) (k' : κ) : ∀ m : List (κ × ν), mget (mset m k v) k' = if k' = k then some v else mget m k'
 | [] => by
  unfold mset mget
  by_cases h : k' = k
  ·subst h; simp
  ·have : ¬ k = k' := fun e => h e.symm
   simp [h, this]
 | p :: m => by
  have ih := mget_mset k v k' m
  unfold mset
  by_cases hp : p.1 = k
  ·rw [if_pos hp]
   by_cases h : k' = k
   ·subst h; unfold mget; simp
   ·have h1 : ¬ k = k' := fun e => h e.symm
    have h2 : ¬ p.1 = k' := fun e => h (e ▸ hp ▸ rfl)
    rw [if_neg h]; unfold mget; simp [h1, h2]
  ·rw [if_neg hp]
   by_cases h2 : p.1 = k'
   ·have h : ¬ k' = k := fun e => hp (h2.trans e)
    rw [if_neg h]; unfold mget; simp [h2]
   ·unfold mget at ih ⊢
    rw [List.find?_cons_of_neg (by simp [h2]), List.find?_cons_of_neg (by simp [h2])]
    exact ih
def Fst (W : List Int) (m : List (Int × Int)) : Prop := ∀ w (h : w < W.length), ∃ f : Nat, mget m W[w] = some (f : Int) ∧ f ≤ w ∧ ∃ hf : f < W.length, W[f] = W[w]
theorem g113 {h : TieHarness} (hl : h.Warps.length ≤ 96) : Yes (f113 ⟨h⟩) (Fst h.Warps) := by
 unfold f113 f115
 refine Yes.bind (Yes.bind (Yes.mono (Q' := Fst h.Warps) ?_ fun m hm => Yes.some (Yes.some hm)))
 unfold f165
 rw [w64_id (n := (h.Warps.length : Int) - 1) (by omega) (by omega)]
 refine Yes.lp (fun s => -1 ≤ s.2 ∧ s.2 < (h.Warps.length : Int) ∧ ∀ w (hw : w < h.Warps.length), s.2 < (w : Int) → ∃ f : Nat, mget s.1 h.Warps[w] = some (f : Int) ∧ f ≤ w ∧ ∃ hf : f < h.Warps.length, h.Warps[f] = h.Warps[w]) (fun s => (s.2 + 1).toNat)
  ⟨by show (-1 : Int) ≤ (h.Warps.length : Int) - 1; omega, by show (h.Warps.length : Int) - 1 < _; omega, fun w hw hlt => by have hlt : (h.Warps.length : Int) - 1 < (w : Int) := hlt; omega⟩ (by show ((h.Warps.length : Int) - 1 + 1).toNat < _; omega) ?_
 rintro ⟨m, i⟩ k ⟨h1, h2, h3⟩ hk
 simp only at h1 h2 h3
 refine Yes.jn (Yes.cond (fun hc => ?_) (fun hc => Yes.some fun w hw => h3 w hw ?_))
 ·have hc : i ≥ 0 := of_decide_eq_true hc
  obtain ⟨n, rfl⟩ := Int.eq_ofNat_of_zero_le hc
  have hn : n < h.Warps.length := by omega
  refine Yes.jn (qbind _ (qidx hn) (Yes.bind (Yes.some (qskip rfl (hk _ ⟨?_, ?_, fun w hw hlt => ?_⟩ ?_)))))
  ·show -1 ≤ w64 ((n : Int) - 1); rw [w64_id (by omega) (by omega)]; omega
  ·show w64 ((n : Int) - 1) < _; rw [w64_id (by omega) (by omega)]; omega
  ·have hlt : w64 ((n : Int) - 1) < (w : Int) := hlt
   rw [w64_id (by omega) (by omega)] at hlt
   show ∃ f : Nat, mget (mset m h.Warps[n] (n : Int)) h.Warps[w] = some (f : Int) ∧ _
   rw [mget_mset]
   by_cases he : h.Warps[w] = h.Warps[n]
   ·rw [if_pos he]; exact ⟨n, rfl, by omega, hn, he.symm⟩
   ·rw [if_neg he]
    refine h3 w hw ?_
    rcases (by omega : (n : Int) < w ∨ n = w) with h | rfl
    ·exact h
    ·exact absurd rfl he
  ·show (w64 ((n : Int) - 1) + 1).toNat < ((n : Int) + 1).toNat
   rw [w64_id (by omega) (by omega)]; omega
 ·have : ¬ i ≥ 0 := of_decide_eq_false hc
  omega
theorem g67 {H : Nat} {h : TieHarness} {E rows : List Int} (hk : HOk H h) (hE : E.length = h.Warps.length) (hr : rows.length ≤ 10) :
  Yes (f67 ⟨h⟩ (wv E rows)) (fun r => (r.2.2.2 = true ∧ ∃ p w f : Nat, r.1 = p ∧ r.2.1 = w ∧ r.2.2.1 = f ∧ f < w ∧ ∃ (_hp : p < rows.length) (h1 : w < h.Warps.length) (h2 : f < h.Warps.length) (h3 : w < E.length) (h4 : f < E.length), h.Warps[f] = h.Warps[w] ∧ E[w] ≠ E[f]) ∨
   (r.2.2.2 = false ∧ ∀ w w' (h1 : w < h.Warps.length) (h2 : w' < h.Warps.length) (h3 : w < E.length) (h4 : w' < E.length), h.Warps[w] = h.Warps[w'] → bl rows E[w] = bl rows E[w'])) := by
 have h2 := hk.2.1
 have hwl : (wv E rows).length = rows.length := by simp [wv]
 unfold f67
 refine Yes.bind ((g113 h2.2).mono fun m hm => Yes.jn ?_)
 refine Yes.lp (fun i => ∃ n : Nat, i = n ∧ n ≤ rows.length ∧ ∀ p (hp : p < rows.length), p < n → ∀ w (h1 : w < h.Warps.length) (h3 : w < E.length) (f : Nat), mget m h.Warps[w] = some (f : Int) → ∀ h4 : f < E.length, bit rows[p] E[w] = bit rows[p] E[f]) (fun i => rows.length + 1 - i.toNat)
  ⟨0, rfl, by omega, fun p hp h => absurd h (Nat.not_lt_zero _)⟩ (by show rows.length + 1 - _ < _; omega) ?_
 rintro _ k ⟨p, rfl, hp, hI⟩ hk2
 refine Yes.cond (fun hc => ?_) (fun hc => Yes.some (.inr ⟨rfl, fun w w' a1 a2 a3 a4 he => ?_⟩))
 ·have hc : (p : Int) < ((wv E rows).length : Int) := of_decide_eq_true hc
  have hpl : p < rows.length := by omega
  have hp2 : p < (wv E rows).length := by omega
  have e1 : (wv E rows)[p] = ln E rows[p] := by simp [wv]
  refine Yes.jn (qbind _ (qidx hp2) ?_)
  rw [e1]
  refine Yes.lp (fun i => ∃ n : Nat, i = n ∧ n ≤ h.Warps.length ∧ ∀ w (h1 : w < h.Warps.length) (h3 : w < E.length), w < n → ∀ f : Nat, mget m h.Warps[w] = some (f : Int) → ∀ h4 : f < E.length, bit rows[p] E[w] = bit rows[p] E[f]) (fun i => h.Warps.length + 1 - i.toNat)
   ⟨0, rfl, by omega, fun w h1 h3 h => absurd h (Nat.not_lt_zero _)⟩ (by show h.Warps.length + 1 - _ < _; omega) ?_
  rintro _ k3 ⟨w, rfl, hw, hJ⟩ hk3
  refine Yes.cond (fun hc2 => ?_) (fun hc2 => hk2 _ ⟨p + 1, ?_, by omega, fun q hq hlt => ?_⟩ ?_)
  ·have hc2 : (w : Int) < (h.Warps.length : Int) := of_decide_eq_true hc2
   have hwW : w < h.Warps.length := by omega
   have hwE : w < E.length := by omega
   obtain ⟨f, f1, f2, f3, f4⟩ := hm w hwW
   have hfE : f < E.length := by omega
   have hwb : w < (ln E rows[p]).b.length := by rw [ln_len]; exact hwE
   have hfb : f < (ln E rows[p]).b.length := by rw [ln_len]; exact hfE
   have b1 : (ln E rows[p]).b[w] = mk (bit rows[p] E[w]) := by simp [ln]
   have b2 : (ln E rows[p]).b[f] = mk (bit rows[p] E[f]) := by simp [ln]
   refine Yes.jn (qbind _ (qidx hwW) (qbind _ (qidx hwb) ?_))
   rw [f1]
   refine qbind _ (qidx hfb) ?_
   rw [b1, b2]
   refine Yes.cond (fun hne => Yes.some (.inl ⟨rfl, p, w, f, rfl, rfl, rfl, ?_, hpl, hwW, f3, hwE, hfE, f4, fun e => ?_⟩)) (fun heq => hk3 _ ⟨w + 1, ?_, by omega, fun w2 a1 a3 hlt g hg a4 => ?_⟩ ?_)
   ·rcases (by omega : f < w ∨ f = w) with h | rfl
    ·exact h
    ·simp at hne
   ·rw [e] at hne; simp at hne
   ·rw [w64_id (by omega) (by omega)]; simp
   ·rcases (by omega : w2 < w ∨ w2 = w) with h | rfl
    ·exact hJ w2 a1 a3 h g hg a4
    ·rw [f1] at hg
     have : f = g := by have := Option.some.inj hg; omega
     subst this
     exact mk_inj (by simpa using heq)
   ·rw [w64_id (by omega) (by omega)]; omega
  ·rw [w64_id (by omega) (by omega)]; simp
  ·intro w2 a1 a3 g hg a4
   have hc2 : ¬ (w : Int) < (h.Warps.length : Int) := of_decide_eq_false hc2
   rcases (by omega : q < p ∨ q = p) with h | rfl
   ·exact hI q hq h w2 a1 a3 g hg a4
   ·exact hJ w2 a1 a3 (by omega) g hg a4
  ·rw [w64_id (by omega) (by omega)]; omega
 ·have hc : ¬ (p : Int) < ((wv E rows).length : Int) := of_decide_eq_false hc
  obtain ⟨f, f1, f2, f3, f4⟩ := hm w a1
  have f1' : mget m h.Warps[w'] = some (f : Int) := by rw [← he]; exact f1
  unfold bl
  apply List.ext_getElem (by simp)
  intro q q1 q2
  have hq : q < rows.length := by simpa using q1
  rw [List.getElem_map, List.getElem_map, hI q hq (by omega) w a1 a3 f f1 (by omega), hI q hq (by omega) w' a2 a4 f f1' (by omega)]
end Go.Proofs.YtkfdjkkbnfohjaaDoor
