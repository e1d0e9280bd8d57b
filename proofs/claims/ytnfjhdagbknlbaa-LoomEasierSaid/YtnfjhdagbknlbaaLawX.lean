/- All looms together; the numbers of a set. -/
import Derived.Test.YtnfjhdagbknlbaaLawW
import Derived.Test.YtnfjhdagbknlbaaLawQ
set_option maxRecDepth 8000
namespace Go.Proofs.Ytnfjhdagbknlbaa
open Go.RowKit
open Classical

/-! ### The numbers of a set -/
def nums (a : Nat) : List Int := ((List.range 62).filter fun i => a.testBit i).map fun (i : Nat) => (i : Int)
theorem mem_nums {a : Nat} (ha : a < 2 ^ 62) {k : Nat} : (k : Int) ∈ nums a ↔ a.testBit k = true := by
 unfold nums
 simp only [List.mem_map, List.mem_filter, List.mem_range]
 constructor
 ·rintro ⟨i, ⟨_, hi⟩, he⟩
  have : i = k := by omega
  subst this; exact hi
 ·exact fun h => ⟨k, ⟨bit_lt ha h, h⟩, rfl⟩
theorem nums_nn {a : Nat} {x : Int} (h : x ∈ nums a) : ∃ k : Nat, x = k ∧ k < 62 ∧ a.testBit k = true := by
 unfold nums at h
 simp only [List.mem_map, List.mem_filter, List.mem_range] at h
 obtain ⟨i, ⟨h1, h2⟩, rfl⟩ := h
 exact ⟨i, rfl, h1, h2⟩
theorem nums_pw (a : Nat) : (nums a).Pairwise fun x y => x < y := by
 unfold nums
 rw [List.pairwise_map]
 exact (List.pairwise_lt_range.filter _).imp fun h => by omega
theorem nums_nodup (a : Nat) : (nums a).Nodup := (nums_pw a).imp fun h => by omega
theorem filter_cut {a n : Nat} (ha : a >>> n = 0) (hn : n ≤ 62) : (List.range n).filter (fun i => a.testBit i) = (List.range 62).filter fun i => a.testBit i := by
 have hb : ∀ i, n ≤ i → a.testBit i = false := fun i hi => by
  have : a < 2 ^ n := by
   rw [Nat.shiftRight_eq_div_pow] at ha
   exact Nat.lt_of_div_eq_zero (Nat.two_pow_pos n) ha
  exact Nat.testBit_lt_two_pow (Nat.lt_of_lt_of_le this (Nat.pow_le_pow_right (by decide) hi))
 have key : ∀ d, (List.range (n + d)).filter (fun i => a.testBit i) = (List.range n).filter fun i => a.testBit i := by
  intro d
  induction d with
  | zero => rfl
  | succ d ih =>
   rw [← Nat.add_assoc, List.range_succ, List.filter_append, ih]
   simp [hb (n + d) (by omega)]
 have := key (62 - n)
 rw [show n + (62 - n) = 62 by omega] at this
 exact this.symm
theorem nums_body {a : Nat} (ha : a < 2 ^ 62) {Q : List Int → Prop} (hQ : Q (nums a)) {body : (List Int × Int → Option (List Int)) → List Int × Int → Option (List Int)}
  (hb : ∀ (k : List Int × Int → Option (List Int)) (s : List Int) (i : Nat), i ≤ 62 → s.length ≤ 62 → body k (s, (i : Int)) = bif decide (0 < a >>> i) then k (bif a.testBit i then s ++ [(i : Int)] else s, ((i + 1 : Nat) : Int)) else some s) :
  Yes (lp body big ([], (0 : Int))) Q := by
 refine Yes.lp (fun s => ∃ i : Nat, s.2 = (i : Int) ∧ i ≤ 62 ∧ s.1 = ((List.range i).filter fun j => a.testBit j).map fun (j : Nat) => (j : Int)) (fun s => 62 - s.2.toNat) ⟨0, rfl, by omega, rfl⟩ (by simp) ?_
 rintro ⟨s, j⟩ k ⟨i, hi, hle, hs⟩ hk
 simp only at hi hs
 subst hi
 have hlen : s.length ≤ 62 := by
  rw [hs, List.length_map]
  have := List.length_filter_le (fun j => a.testBit j) (List.range i)
  rw [List.length_range] at this; omega
 rw [hb k s i hle hlen]
 by_cases h : 0 < a >>> i
 ·rw [decide_eq_true h, cond_true]
  have hi2 : i < 62 := by
   by_cases h62 : i < 62
   ·exact h62
   ·have : i = 62 := by omega
    subst this
    rw [Nat.shiftRight_eq_div_pow, Nat.div_eq_of_lt ha] at h; omega
  refine hk _ ⟨i + 1, rfl, by omega, ?_⟩ (by simp only [Int.toNat_natCast]; omega)
  rw [List.range_succ, List.filter_append, List.map_append]
  cases hb : a.testBit i <;> simp [hb, hs]
 ·rw [decide_eq_false h, cond_false]
  refine Yes.some ?_
  rw [hs, filter_cut ((Nat.eq_zero_or_pos _).resolve_right h) hle]; exact hQ
theorem dec_pos (n : Nat) : decide ((n : Int) > 0) = decide (0 < n) := by rw [decide_eq_decide]; omega
theorem s59 {a : Nat} (ha : a < 2 ^ 62) : f59 (a : Int) = some (nums a) := by
 refine Yes.eq ?_
 unfold f59
 refine Yes.bind (nums_body ha (Yes.some (Q := fun r => r = nums a) rfl) fun k s i hi hs => ?_)
 simp only [jn, shr_any ha, Option.bind_some, dec_pos, bitv1 ha, w64_succ (show i < 4611686018427387904 by omega)]
 cases a.testBit i with
 | false => simp
 | true => simp [apnd1 rfl (show s.length ≤ 1000 by omega)]
theorem pow_lt62 {n : Nat} (h : n ≤ 61) : 2 ^ n < 2 ^ 62 ∧ 0 < 2 ^ n := ⟨Nat.pow_lt_pow_right (by decide) (by omega), Nat.two_pow_pos n⟩
theorem pred_cast {a : Nat} (h0 : 0 < a) (ha : a < 2 ^ 62) : w64 ((a : Int) - 1) = ((a - 1 : Nat) : Int) := by rw [pow62] at ha; rw [w64_id (by omega) (by omega)]; omega
theorem s52 {m : LoomMill} {l : List LoomOrder} (g : Good m l) : f52 ⟨m, l⟩ = some (nums (2 ^ m.Widths.length - 1)) := by
 have hw := g.w3
 have hp := pow_lt62 (show m.Widths.length ≤ 61 by omega)
 unfold f52
 rw [shl_bit (show m.Widths.length < 62 by omega), Option.bind_some, pred_cast hp.2 hp.1, s59 (by omega)]
 rfl
theorem s53 {m : LoomMill} {l : List LoomOrder} (g : Good m l) : f53 ⟨m, l⟩ = some ((2 ^ l.length - 1 : Nat) : Int) := by
 have hw := g.l7
 have hp := pow_lt62 (show l.length ≤ 61 by omega)
 unfold f53
 rw [shl_bit (show l.length < 62 by omega), Option.bind_some, pred_cast hp.2 hp.1]
/-! ### All parts of a set -/
theorem part_le {p z : Nat} (h : p &&& z = p) : p ≤ z := by rw [← h]; exact Nat.and_le_right
theorem s99 {σ : Type} {z : Nat} (hz : z < 128) {cons : Cons σ Int} {s0 : σ} (J : Nat → σ → Prop) {R : σ → Prop} (h0 : J z s0)
  (hs : ∀ p s, p &&& z = p → J p s → ∃ s', cons s (p : Int) = some (true, s') ∧ (p = 0 → R s') ∧ (p ≠ 0 → J ((p - 1) &&& z) s')) : Yes (f99 (z : Int) σ cons s0) R := by
 unfold f99
 refine Yes.lp (fun s => ∃ p : Nat, s.2 = (p : Int) ∧ p &&& z = p ∧ J p s.1) (fun s => s.2.toNat) ⟨z, rfl, Nat.and_self z, h0⟩ (by simp; omega) ?_
 rintro ⟨s, j⟩ k ⟨p, hp, hpz, hJ⟩ hk
 simp only at hp hJ
 subst hp
 obtain ⟨s', h1, h2, h3⟩ := hs p s hpz hJ
 refine Yes.jn ?_
 simp only [h1, Option.bind_some, Bool.not_true, cond_false]
 have hle := part_le hpz
 by_cases hp0 : p = 0
 ·have : ((p : Int) == 0) = true := by simp [hp0]
  rw [this]
  exact Yes.some (h2 hp0)
 ·have : ((p : Int) == 0) = false := by simp [hp0]
  rw [this, cond_false]
  rw [pred_cast (by omega) (lt128_62 (by omega)), and64 (lt128_62 (by omega)) (lt128_62 hz)]
  refine hk _ ⟨_, rfl, part_sub _ _, h3 hp0⟩ ?_
  simp only [Int.toNat_natCast]
  have : (p - 1) &&& z ≤ p - 1 := Nat.and_le_left
  omega
def TogP (m : LoomMill) (l : List LoomOrder) (g : Nat → Option LoomRun) (Ls : List Int) (s : Nat) : Prop :=
 ∃ K F, Fits m l (fun i => s.testBit i = true) (fun i k d => (k : Int) ∈ Ls ∧ FixG g i k d) K F
theorem tog_nil {m : LoomMill} {l : List LoomOrder} {g : Nat → Option LoomRun} {s : Nat} : TogP m l g [] s ↔ s = 0 := by
 constructor
 ·rintro ⟨K, F, h⟩
  by_cases hs : s = 0
  ·exact hs
  ·obtain ⟨i, hi⟩ := bit_ne hs
   exact absurd (h.one i hi).a.1 (by simp)
 ·rintro rfl
  exact ⟨fun _ => 0, fun _ => 0, fun i hi => absurd hi (by simp), fun i _ hi => absurd hi (by simp)⟩
theorem tog_step {m : LoomMill} {l : List LoomOrder} {g : Nat → Option LoomRun} {Ls : List Int} {k : Nat} (hk : (k : Int) ∉ Ls) {s : Nat} (hs : s < 128) :
  TogP m l g (Ls ++ [(k : Int)]) s ↔ ∃ q, q &&& s = q ∧ CanP m l (FixG g) k q ∧ TogP m l g Ls (dif s q) := by
 have h := looms_step (m := m) (l := l) (A := FixG g) (Q := fun k' => (k' : Int) ∈ Ls) (k := k) (S := fun i => s.testBit i = true) hk
 have e : (fun (i k' : Nat) (f : Int) => ((k' : Int) ∈ Ls ∨ k' = k) ∧ FixG g i k' f) = fun (i k' : Nat) (f : Int) => (k' : Int) ∈ Ls ++ [(k : Int)] ∧ FixG g i k' f := by
  funext i k' f
  apply propext
  simp only [List.mem_append, List.mem_singleton, Int.ofNat_inj]
 rw [e] at h
 unfold TogP
 rw [h]
 have hdb : ∀ q, q ≤ s → ∀ i, (dif s q).testBit i = true ↔ s.testBit i = true ∧ ¬ q.testBit i = true := fun q hq i => by
  rw [dif_bit (lt128_62 hs) (lt128_62 (by omega))]; simp
 constructor
 ·rintro ⟨P, hP, h1, h2⟩
  obtain ⟨q, hq, hqb⟩ := set_of 7 P fun i hi => bit_lt (show s < 2 ^ 7 from hs) (hP i hi)
  have hqs : q &&& s = q := part_iff.2 fun i hi => hP i ((hqb i).1 hi)
  have e2 : P = fun i => q.testBit i = true := funext fun i => propext (hqb i).symm
  subst e2
  refine ⟨q, hqs, h1, ?_⟩
  have e3 : (fun i => (dif s q).testBit i = true) = fun i => s.testBit i = true ∧ ¬ q.testBit i = true := funext fun i => propext (hdb q (part_le hqs) i)
  rw [e3]; exact h2
 ·rintro ⟨q, hqs, h1, h2⟩
  refine ⟨fun i => q.testBit i = true, part_iff.1 hqs, h1, ?_⟩
  have e3 : (fun i => (dif s q).testBit i = true) = fun i => s.testBit i = true ∧ ¬ q.testBit i = true := funext fun i => propext (hdb q (part_le hqs) i)
  rw [e3] at h2; exact h2
theorem s51 {m : LoomMill} {l : List LoomOrder} (g : Good m l) {f : List (Int × LoomRun)} (hf : Days (gm f)) {Ls : List Int} (hL : Ls.Nodup) (hL2 : ∀ x ∈ Ls, 0 ≤ x ∧ x < m.Widths.length) :
  f51 ⟨m, l⟩ Ls f = some (bl l.length (TogP m l (gm f) Ls)) := by
 have hn := g.l7
 have hp := pow7 hn
 have hw3 := g.w3
 have hlen : Ls.length < 1000 := by
  have h1 : (Ls.map Int.toNat).Nodup := by
   rw [List.nodup_iff_pairwise_ne, List.pairwise_map]
   exact (List.nodup_iff_pairwise_ne.1 hL).imp_of_mem fun ha hb hne => by
    have := hL2 _ ha
    have := hL2 _ hb
    omega
  have h2 := nodup_lt m.Widths.length (Ls.map Int.toNat) h1 (fun x hx => by
   obtain ⟨y, hy, rfl⟩ := List.mem_map.1 hx
   have := hL2 y hy
   omega)
  rw [List.length_map] at h2; omega
 refine Yes.eq ?_
 unfold f51
 rw [shl_bit (show l.length < 62 by omega), Option.bind_some, bl_mks hn, Option.bind_some, bl_idx0, Option.bind_some]
 refine Yes.bind ?_
 refine Yes.rng (fun (s : List Bool) i => (s, (i : Int))) 0 Ls.length (fun c s => s = bl l.length (TogP m l (gm f) (Ls.take c))) _ rfl (Nat.zero_le _) (by omega) ?_ (fun c s kk _ hc hI hk' => ?_) (fun s kk hI => ?_)
 ·refine bl_set _ ⟨fun _ => tog_nil.2 rfl, fun _ => rfl⟩ fun x _ hx => ⟨fun h => h.elim, fun h => hx (tog_nil.1 h)⟩
 ·subst hI
  have h1 : decide ((c : Int) < (Ls.length : Int)) = true := decide_eq_true (Int.ofNat_lt.2 hc)
  obtain ⟨k, hk⟩ : ∃ k : Nat, Ls[c] = (k : Int) := ⟨(Ls[c]).toNat, by have := hL2 _ (List.getElem_mem hc); omega⟩
  have hkw : k < m.Widths.length := by have := hL2 _ (List.getElem_mem hc); omega
  have htake : Ls.take (c + 1) = Ls.take c ++ [(k : Int)] := by rw [List.take_add_one, List.getElem?_eq_getElem hc, hk]; rfl
  have hkn : (k : Int) ∉ Ls.take c := fun hm => by
   obtain ⟨j, hj, hje⟩ := List.getElem_of_mem hm
   rw [List.length_take] at hj
   rw [List.getElem_take, ← hk] at hje
   exact List.pairwise_iff_getElem.1 hL j c (by omega) hc (by omega) hje
  simp only [h1, cond_true]
  refine Yes.bind ?_
  rw [idx_at hc, Option.bind_some, hk, s83 g hkw hf, Option.bind_some, bl_len, bl_mks hn, Option.bind_some, bl_len]
  refine Yes.bind ?_
  refine Yes.rng (fun (s : List Bool) i => (s, (i : Int))) 0 (2 ^ l.length) (fun z s => s = bl l.length (fun x => x < z ∧ TogP m l (gm f) (Ls.take (c + 1)) x)) _ rfl (Nat.zero_le _) (by omega) (bl_ext fun x _ => ⟨fun h => h.elim, fun h => absurd h.1 (Nat.not_lt_zero _)⟩) (fun z s kk' _ hz hI hk'' => ?_) (fun s kk' hI => ?_)
  ·subst hI
   have h2 : decide ((z : Int) < ((2 ^ l.length : Nat) : Int)) = true := decide_eq_true (Int.ofNat_lt.2 hz)
   have hz128 : z < 128 := by omega
   simp only [h2, cond_true]
   refine Yes.bind ?_
   unfold f84
   rw [Option.bind_some]
   refine Yes.bind ?_
   refine s99 hz128 (fun p s => s = bl l.length (fun x => (x < z ∧ TogP m l (gm f) (Ls.take (c + 1)) x) ∨ x = z ∧ ∃ q, q &&& z = q ∧ p < q ∧ CanP m l (FixG (gm f)) k q ∧ TogP m l (gm f) (Ls.take c) (dif z q)))
    (bl_ext fun x hx => ⟨fun h => .inl h, fun h => h.elim id fun h => ?_⟩) (fun p s hp' hJ => ?_)
   ·obtain ⟨_, q, hq, hlt, _⟩ := h
    have := part_le hq
    omega
   ·subst hJ
    have hpz := part_le hp'
    have hdz := dif_le z p
    -- the new answer of the set
    have hnew : ∀ v : Bool, (v = true ↔ ∃ q, q &&& z = q ∧ p ≤ q ∧ CanP m l (FixG (gm f)) k q ∧ TogP m l (gm f) (Ls.take c) (dif z q)) →
      (p = 0 → Yes (some ((bl l.length (fun x => (x < z ∧ TogP m l (gm f) (Ls.take (c + 1)) x) ∨ x = z ∧ ∃ q, q &&& z = q ∧ p < q ∧ CanP m l (FixG (gm f)) k q ∧ TogP m l (gm f) (Ls.take c) (dif z q))).set z v))
       fun b => Yes (kk' (b, w64 ((z : Int) + 1))) fun b => Yes (some b) fun b => Yes (kk (b, w64 ((c : Int) + 1))) fun b => Yes (some b) fun r => r = bl l.length (TogP m l (gm f) Ls)) ∧
      (p ≠ 0 → (bl l.length (fun x => (x < z ∧ TogP m l (gm f) (Ls.take (c + 1)) x) ∨ x = z ∧ ∃ q, q &&& z = q ∧ p < q ∧ CanP m l (FixG (gm f)) k q ∧ TogP m l (gm f) (Ls.take c) (dif z q))).set z v =
       bl l.length (fun x => (x < z ∧ TogP m l (gm f) (Ls.take (c + 1)) x) ∨ x = z ∧ ∃ q, q &&& z = q ∧ (p - 1) &&& z < q ∧ CanP m l (FixG (gm f)) k q ∧ TogP m l (gm f) (Ls.take c) (dif z q))) := by
     intro v hv
     constructor
     ·rintro rfl
      rw [w64_succ (by omega)]
      refine Yes.some (hk'' _ (bl_set _ ?_ fun x hx hxz => ⟨fun h => ?_, fun h => .inl ⟨by omega, h.2⟩⟩))
      ·rw [hv, htake, tog_step hkn hz128]
       exact ⟨fun ⟨q, a, _, b⟩ => ⟨by omega, q, a, b⟩, fun ⟨_, q, a, b⟩ => ⟨q, a, Nat.zero_le _, b⟩⟩
      ·rcases h with h | h
       ·exact ⟨by omega, h.2⟩
       ·exact absurd h.1 hxz
     ·intro hp0
      refine bl_set _ ?_ fun x hx hxz => ⟨fun h => ?_, fun h => ?_⟩
      ·rw [hv]
       have hstep : ∀ q, q &&& z = q → (p ≤ q ↔ (p - 1) &&& z < q) := fun q hq => by
        have h1 : (p - 1) &&& z ≤ p - 1 := Nat.and_le_left
        constructor
        ·intro h; omega
        ·intro h
         by_cases hlt : q < p
         ·have := part_next p z q hp' hq hlt; omega
         ·omega
       exact ⟨fun ⟨q, a, b, c'⟩ => .inr ⟨rfl, q, a, (hstep q a).1 b, c'⟩, fun h => h.elim (fun h => absurd h.1 (by omega)) fun ⟨_, q, a, b, c'⟩ => ⟨q, a, (hstep q a).2 b, c'⟩⟩
      ·exact h.elim .inl fun h => absurd h.1 hxz
      ·exact h.elim .inl fun h => absurd h.1 hxz
    obtain ⟨v, hv, hvi⟩ := bl_at (P := fun x => (x < z ∧ TogP m l (gm f) (Ls.take (c + 1)) x) ∨ x = z ∧ ∃ q, q &&& z = q ∧ p < q ∧ CanP m l (FixG (gm f)) k q ∧ TogP m l (gm f) (Ls.take c) (dif z q)) hz
    rw [hv, Option.bind_some]
    by_cases hold : ∃ q, q &&& z = q ∧ p < q ∧ CanP m l (FixG (gm f)) k q ∧ TogP m l (gm f) (Ls.take c) (dif z q)
    ·obtain rfl : v = true := hvi.2 (.inr ⟨rfl, hold⟩)
     rw [cond_true, Option.bind_some]
     obtain ⟨h3, h4⟩ := hnew true ⟨fun _ => let ⟨q, a, b, c'⟩ := hold; ⟨q, a, by omega, c'⟩, fun _ => rfl⟩
     exact ⟨_, rfl, h3, h4⟩
    ·obtain rfl : v = false := by
      cases v with
      | false => rfl
      | true => exact absurd (hvi.1 rfl) fun h => h.elim (fun h => by omega) fun h => hold h.2
     obtain ⟨u, hu, hui⟩ := bl_at (P := CanP m l (FixG (gm f)) k) (show p < 2 ^ l.length by omega)
     rw [cond_false, hu, Option.bind_some]
     by_cases hcan : CanP m l (FixG (gm f)) k p
     ·obtain rfl : u = true := hui.2 hcan
      obtain ⟨x, hx, hxi⟩ := bl_at (P := TogP m l (gm f) (Ls.take c)) (show dif z p < 2 ^ l.length by omega)
      rw [cond_true, andn64 (lt128_62 hz128) (lt128_62 (by omega)), hx, Option.bind_some, Option.bind_some]
      have hxq : x = true ↔ ∃ q, q &&& z = q ∧ p ≤ q ∧ CanP m l (FixG (gm f)) k q ∧ TogP m l (gm f) (Ls.take c) (dif z q) := by
       rw [hxi]
       constructor
       ·exact fun h => ⟨p, hp', Nat.le_refl _, hcan, h⟩
       ·rintro ⟨q, a, b, c'⟩
        by_cases hpq : p = q
        ·subst hpq; exact c'.2
        ·exact absurd ⟨q, a, by omega, c'⟩ hold
      obtain ⟨h3, h4⟩ := hnew x hxq
      exact ⟨_, rfl, h3, h4⟩
     ·obtain rfl : u = false := by
       cases u with
       | false => rfl
       | true => exact absurd (hui.1 rfl) hcan
      have hxq : false = true ↔ ∃ q, q &&& z = q ∧ p ≤ q ∧ CanP m l (FixG (gm f)) k q ∧ TogP m l (gm f) (Ls.take c) (dif z q) := by
       refine ⟨fun h => (by cases h), ?_⟩
       rintro ⟨q, a, b, c'⟩
       by_cases hpq : p = q
       ·subst hpq; exact absurd c'.1 hcan
       ·exact absurd ⟨q, a, by omega, c'⟩ hold
      rw [cond_false, Option.bind_some]
      obtain ⟨h3, h4⟩ := hnew false hxq
      exact ⟨_, rfl, h3, h4⟩
  ·have h2 : decide (((2 ^ l.length : Nat) : Int) < ((2 ^ l.length : Nat) : Int)) = false := by simp
   simp only [h2, cond_false]
   refine Yes.some (Yes.some ?_)
   rw [w64_succ (by omega)]
   refine hk' _ ?_
   rw [hI]
   exact bl_ext fun x hx => ⟨fun h => h.2, fun h => ⟨hx, h⟩⟩
 ·have h1 : decide ((Ls.length : Int) < (Ls.length : Int)) = false := by simp
  simp only [h1, cond_false]
  refine Yes.some (Yes.some ?_)
  rw [hI, List.take_length]
end Go.Proofs.Ytnfjhdagbknlbaa
