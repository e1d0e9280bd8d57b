/- All looms: which sets of orders can be woven together. -/
import Derived.Test.YtnfjhdagbknlbaaLawV
set_option maxRecDepth 8000
namespace Go.Proofs.Ytnfjhdagbknlbaa
open Go.RowKit
open Classical

theorem Yes.rng_lt {τ σ α : Type} {Q : α → Prop} {body : (τ → Option α) → τ → Option α} (pack : σ → Nat → τ) (n : Nat) (I : Nat → σ → Prop) (lo : Nat)
  (hb : ∀ i s k, lo ≤ i → i < n → I i s → (∀ s', I (i + 1) s' → Yes (k (pack s' (i + 1))) Q) → Yes (body k (pack s i)) Q) (he : ∀ s k, I n s → Yes (body k (pack s n)) Q) :
  ∀ (d i N : Nat) (s : σ), lo ≤ i → i + d = n → I i s → d < N → Yes (Go.Proofs.Ytnfjhdagbknlbaa.lp body N (pack s i)) Q
 | _, _, 0, _, _, _, _, h => absurd h (Nat.not_lt_zero _)
 | 0, i, N + 1, s, _, hd, hI, _ => by
  obtain rfl : i = n := by omega
  rw [lp_succ]; exact he s _ hI
 | d + 1, i, N + 1, s, hl, hd, hI, hN => by
  rw [lp_succ]
  exact hb i s _ hl (by omega) hI fun s' hI' => Yes.rng_lt pack n I lo hb he d (i + 1) N s' (by omega) (by omega) hI' (by omega)
theorem Yes.rng {τ σ α : Type} {Q : α → Prop} {body : (τ → Option α) → τ → Option α} {t0 : τ} (pack : σ → Nat → τ) (lo n : Nat) (I : Nat → σ → Prop) (s0 : σ) (ht : t0 = pack s0 lo) (hn : lo ≤ n) (hn2 : n < 18446744073709551616) (h0 : I lo s0)
  (hb : ∀ i s k, lo ≤ i → i < n → I i s → (∀ s', I (i + 1) s' → Yes (k (pack s' (i + 1))) Q) → Yes (body k (pack s i)) Q) (he : ∀ s k, I n s → Yes (body k (pack s n)) Q) : Yes (Go.Proofs.Ytnfjhdagbknlbaa.lp body big t0) Q := by
 subst ht
 exact Yes.rng_lt pack n I lo hb he (n - lo) lo big s0 (Nat.le_refl _) (by omega) h0 (big_pos _ (by omega))

/-! ### Lists of answers, one for each set -/
noncomputable def bl (n : Nat) (P : Nat → Prop) : List Bool := (List.range (2 ^ n)).map fun s => decide (P s)
theorem bl_len (n : Nat) (P : Nat → Prop) : (bl n P).length = 2 ^ n := by simp [bl]
theorem bl_get {n s : Nat} {P : Nat → Prop} (h : s < 2 ^ n) : (bl n P)[s]'(by rw [bl_len]; exact h) = decide (P s) := by simp [bl]
theorem bl_idx {n s : Nat} {P : Nat → Prop} (h : s < 2 ^ n) : idx (bl n P) (s : Int) = some (decide (P s)) := by
 rw [idx_at (by rw [bl_len]; exact h), bl_get h]
theorem bl_ext {n : Nat} {P Q : Nat → Prop} (h : ∀ s, s < 2 ^ n → (P s ↔ Q s)) : bl n P = bl n Q := by
 unfold bl
 exact List.map_congr_left fun s hs => by rw [decide_eq_decide]; exact h s (List.mem_range.1 hs)
theorem bl_at {n s : Nat} {P : Nat → Prop} (h : s < 2 ^ n) : ∃ v, idx (bl n P) (s : Int) = some v ∧ (v = true ↔ P s) := ⟨_, bl_idx h, decide_eq_true_iff⟩
theorem bl_idx0 {n : Nat} {P : Nat → Prop} : idx (bl n P) 0 = some (decide (P 0)) := bl_idx (s := 0) (Nat.two_pow_pos n)
theorem bl_set {n s : Nat} {P : Nat → Prop} {v : Bool} (Q : Nat → Prop) (h1 : v = true ↔ Q s) (h2 : ∀ x, x < 2 ^ n → x ≠ s → (P x ↔ Q x)) : (bl n P).set s v = bl n Q := by
 apply List.ext_getElem
 ·simp [bl_len]
 ·intro i hi1 hi2
  rw [bl_len] at hi2
  rw [List.getElem_set, bl_get hi2, bl_get hi2]
  by_cases hs : s = i
  ·subst hs; rw [if_pos rfl, Bool.eq_iff_iff, decide_eq_true_iff]; exact h1
  ·rw [if_neg hs, decide_eq_decide]; exact h2 i hi2 (Ne.symm hs)
theorem bl_mks {n : Nat} (hn : n ≤ 7) : mks 1 false ((2 ^ n : Nat) : Int) = some (bl n fun _ => False) := by
 have h : 2 ^ n ≤ 2 ^ 7 := Nat.pow_le_pow_right (by decide) hn
 have h7 : (2 : Nat) ^ 7 = 128 := rfl
 have h0 : 0 ≤ ((2 ^ n : Nat) : Int) := Int.natCast_nonneg _
 unfold mks
 rw [if_pos (by omega), Int.toNat_natCast]
 congr 1
 apply List.ext_getElem
 ·simp [bl_len]
 ·intro i h1 h2
  rw [bl_len] at h2
  rw [bl_get h2]; simp
theorem pow7 {n : Nat} (hn : n ≤ 7) : 2 ^ n ≤ 128 ∧ 0 < 2 ^ n := by
 have h : 2 ^ n ≤ 2 ^ 7 := Nat.pow_le_pow_right (by decide) hn
 have h7 : (2 : Nat) ^ 7 = 128 := rfl
 exact ⟨by omega, Nat.two_pow_pos n⟩

def CanP (m : LoomMill) (l : List LoomOrder) (A : Nat → Nat → Int → Prop) (k s : Nat) : Prop := ∃ F, Fits m l (fun i => s.testBit i = true) A (fun _ => k) F
theorem dif_lt {s j : Nat} (hs : s < 128) (hj : j < 7) (h : s.testBit j = true) : dif s (2 ^ j) < s := by
 have h1 := dif_le s (2 ^ j)
 by_cases he : dif s (2 ^ j) = s
 ·have := (dif_pow (i := j) hs hj).1 (by rw [he]; exact h)
  exact absurd rfl this.2
 ·omega
theorem RdT.congr {m : LoomMill} {l : List LoomOrder} {A : Nat → Nat → Int → Prop} {k s : Nat} {T T' : Tbl} (h : RdT m l A k T s) (e : ∀ j, s.testBit j = true → tg T' s j = tg T s j) : RdT m l A k T' s := fun j hj => by rw [e j hj]; exact h j hj
theorem s83 {m : LoomMill} {l : List LoomOrder} (g : Good m l) {k : Nat} (hk : k < m.Widths.length) {f : List (Int × LoomRun)} (hf : Days (gm f)) :
  f83 ⟨m, l⟩ (k : Int) f = some (bl l.length (CanP m l (FixG (gm f)) k)) := by
 have hn := g.l7
 have hp := pow7 hn
 have hz0 : CanP m l (FixG (gm f)) k 0 := ⟨fun _ => 0, fun i hi => absurd hi (by simp), fun i _ hi => absurd hi (by simp)⟩
 refine Yes.eq ?_
 unfold f83
 rw [shl_bit (show l.length < 62 by omega), Option.bind_some, bl_mks hn, Option.bind_some, bl_idx0, Option.bind_some]
 refine Yes.bind ?_
 refine Yes.rng (fun (s : List Bool × Tbl) i => (s.1, s.2, (i : Int))) 1 (2 ^ l.length)
  (fun z s => s.1 = bl l.length (fun x => x < z ∧ CanP m l (FixG (gm f)) k x) ∧ ∀ x, x < z → x ≠ 0 → RdT m l (FixG (gm f)) k s.2 x)
  (_, _) rfl hp.2 (by omega) ⟨?_, fun x h1 h2 => absurd h1 (by omega)⟩ (fun z s kk h1 hz hI hk' => ?_) (fun s kk hI => ?_)
 ·exact bl_set _ ⟨fun _ => ⟨Nat.one_pos, hz0⟩, fun _ => rfl⟩ fun x _ hx => ⟨fun h => h.elim, fun h => absurd h.1 (by have : x ≠ 0 := hx; omega)⟩
 ·obtain ⟨out, T⟩ := s
  obtain ⟨hout, hT⟩ := hI
  simp only at hout hT
  subst hout
  have hz128 : z < 128 := by omega
  have h2 : decide ((z : Int) < ((2 ^ l.length : Nat) : Int)) = true := decide_eq_true (Int.ofNat_lt.2 hz)
  refine Yes.jn ?_
  simp only [h2, cond_true]
  refine Yes.bind ?_
  refine Yes.rng (fun (s : List Bool × Tbl) i => (s.1, s.2, (i : Int))) 0 l.length
   (fun t s => s.1 = bl l.length (fun x => x < z ∧ CanP m l (FixG (gm f)) k x ∨ x = z ∧ ∃ j, j < t ∧ z.testBit j = true ∧ tg s.2 z j < 1048576) ∧ (∀ x, x < z → x ≠ 0 → RdT m l (FixG (gm f)) k s.2 x) ∧
    ∀ j, j < t → z.testBit j = true → Rdy m l (FixG (gm f)) k (fun i => z.testBit i = true) j (tg s.2 z j))
   (_, T) rfl (Nat.zero_le _) (by omega) ⟨?_, hT, fun j h => absurd h (Nat.not_lt_zero _)⟩ (fun t s kk' _ ht hI hk'' => ?_) (fun s kk' hI => ?_)
  ·refine bl_ext fun x _ => ⟨fun h => .inl h, fun h => h.elim id fun h => ?_⟩
   obtain ⟨_, j, hj, _⟩ := h
   exact absurd hj (Nat.not_lt_zero _)
  ·obtain ⟨out, T⟩ := s
   obtain ⟨hout, hT, hR⟩ := hI
   simp only at hout hT hR
   subst hout
   have h3 : decide ((t : Int) < (l.length : Int)) = true := by simp; omega
   have ht7 : t < 7 := by omega
   simp only [h3, cond_true]
   have hmod : ∀ (v : Int) (x j : Nat), x < 128 → j < 7 → tg (vmod T (z : Int) (fun b => vset b (t : Int) v)) x j = if x = z ∧ j = t then v else tg T x j := fun v x j hx hj => tg_mod hz128 ht7 hx hj
   have hrow : ∀ (T' : Tbl), idx T'.toList (z : Int) = some T'[z] := fun T' => idx_vec hz128
   have hcel : ∀ (T' : Tbl), idx T'[z].toList (t : Int) = some (tg T' z t) := fun T' => by
    have := tg_idx (T := T') hz128 ht7
    rw [hrow, Option.bind_some] at this; exact this
   have hbl7 : ∀ j, z.testBit j = true → j < 7 := fun j hj => by have := bit_lt hz hj; omega
   refine Yes.bind ?_
   rw [hrow, Option.bind_some, hcel, Option.bind_some]
   refine Yes.jn ?_
   rw [shr_any (lt128_62 hz128), Option.bind_some, bitv (lt128_62 hz128)]
   cases hb : z.testBit t with
   | false =>
    simp only [Bool.not_false, cond_true]
    refine Yes.some ?_
    rw [w64_succ (by omega)]
    have hne : ∀ j, z.testBit j = true → j ≠ t := fun j hj e => by rw [e, hb] at hj; cases hj
    refine hk'' (_, _) ⟨bl_ext fun x hx => or_congr Iff.rfl (and_congr Iff.rfl ⟨?_, ?_⟩), fun x hx hx0 => (hT x hx hx0).congr fun j hj => ?_, fun j hj hjb => ?_⟩
    ·rintro ⟨j, h1, h2, h3⟩
     refine ⟨j, by omega, h2, ?_⟩
     simp only
     rw [hmod _ _ _ hz128 (hbl7 j h2), if_neg (fun e => hne j h2 e.2)]; exact h3
    ·rintro ⟨j, h1, h2, h3⟩
     simp only at h3
     rw [hmod _ _ _ hz128 (hbl7 j h2), if_neg (fun e => hne j h2 e.2)] at h3
     have := hne j h2
     exact ⟨j, by omega, h2, h3⟩
    ·simp only
     have hj7 : j < 7 := by have := bit_lt (show x < 2 ^ l.length by omega) hj; omega
     rw [hmod _ _ _ (by omega) hj7, if_neg (by omega)]
    ·simp only
     have := hne j hjb
     rw [hmod _ _ _ hz128 (hbl7 j hjb), if_neg (fun e => this e.2)]
     exact hR j (by omega) hjb
   | true =>
    simp only [Bool.not_true, cond_false]
    have hdl := dif_lt hz128 ht7 hb
    refine Yes.bind ((s98 g hz hb hk hf (T := vmod T (z : Int) (fun b => vset b (t : Int) 1048576)) (fun hne => (hT _ hdl hne).congr fun j hj => ?_)).mono fun d hd => ?_)
    ·have hj7 : j < 7 := by have := bit_lt (show dif z (2 ^ t) < 2 ^ l.length by omega) hj; omega
     rw [hmod _ _ _ (by omega) hj7, if_neg (by omega)]
    obtain ⟨hd0, hd1, hd3, hrd⟩ := hd
    have hgo := (g.od ht).2.2.1
    have hfin : ∀ (T' : Tbl) (out' : List Bool), (∀ x j, x < 128 → j < 7 → tg T' x j = if x = z ∧ j = t then (if d < 1048576 then d + (od l t).Woven else 1048576) else tg T x j) →
      out' = bl l.length (fun x => x < z ∧ CanP m l (FixG (gm f)) k x ∨ x = z ∧ ∃ j, j < t + 1 ∧ z.testBit j = true ∧ tg T' z j < 1048576) → Yes (kk' (out', T', ((t + 1 : Nat) : Int))) fun y =>
      Yes (match y with | (n4, o4) => kk (n4, o4, w64 ((z : Int) + 1))) fun y => Yes (some y) fun r => r = bl l.length (CanP m l (FixG (gm f)) k) := by
     intro T' out' hT' ho
     refine hk'' (out', T') ⟨ho, fun x hx hx0 => (hT x hx hx0).congr fun j hj => ?_, fun j hj hjb => ?_⟩
     ·have hj7 : j < 7 := by have := bit_lt (show x < 2 ^ l.length by omega) hj; omega
      simp only
      rw [hT' _ _ (by omega) hj7, if_neg (by omega)]
     ·simp only
      rw [hT' _ _ hz128 (hbl7 j hjb)]
      by_cases hjt : j = t
      ·subst hjt; rw [if_pos ⟨rfl, rfl⟩]; exact hrd
      ·rw [if_neg (fun e => hjt e.2)]; exact hR j (by omega) hjb
    by_cases hdn : d < 1048576
    ·rw [decide_eq_true hdn]
     simp only [cond_true]
     rw [idx_od (l := l) (by omega) (by omega), Option.bind_some, hrow, Option.bind_some, hcel, Option.bind_some, bl_idx hz, Option.bind_some, w64_id (by omega) (by omega)]
     refine Yes.some ?_
     rw [w64_succ (by omega)]
     refine hfin _ _ (fun x j hx hj => ?_) ?_
     ·rw [tg_mod hz128 ht7 hx hj, hmod _ _ _ hx hj, if_pos hdn]
      split
      ·rfl
      ·rfl
     ·refine bl_set _ ⟨fun _ => ?_, fun _ => rfl⟩ fun x hx hxz => or_congr Iff.rfl ⟨fun h => absurd h.1 hxz, fun h => absurd h.1 hxz⟩
      refine .inr ⟨rfl, t, by omega, hb, ?_⟩
      rw [tg_mod hz128 ht7 hz128 ht7, if_pos ⟨rfl, rfl⟩]
      have := hd3 hdn
      omega
    ·rw [decide_eq_false hdn]
     simp only [cond_false]
     refine Yes.some ?_
     rw [w64_succ (by omega)]
     refine hfin _ _ (fun x j hx hj => ?_) (bl_ext fun x hx => or_congr Iff.rfl (and_congr Iff.rfl ⟨?_, ?_⟩))
     ·rw [hmod _ _ _ hx hj, if_neg hdn]
     ·rintro ⟨j, h1, h2, h3⟩
      refine ⟨j, by omega, h2, ?_⟩
      rw [hmod _ _ _ hz128 (hbl7 j h2), if_neg (by omega)]; exact h3
     ·rintro ⟨j, h1, h2, h3⟩
      rw [hmod _ _ _ hz128 (hbl7 j h2)] at h3
      by_cases hjt : j = t
      ·subst hjt; rw [if_pos ⟨rfl, rfl⟩] at h3; omega
      ·rw [if_neg (fun e => hjt e.2)] at h3; exact ⟨j, by omega, h2, h3⟩
  ·obtain ⟨out, T'⟩ := s
   obtain ⟨hout, hT, hR⟩ := hI
   simp only at hout hT hR
   have h3 : decide ((l.length : Int) < (l.length : Int)) = false := by simp
   simp only [h3, cond_false]
   refine Yes.some ?_
   simp only
   rw [w64_succ (by omega)]
   have hRz : RdT m l (FixG (gm f)) k T' z := fun j hj => hR j (bit_lt hz hj) hj
   refine hk' (_, _) ⟨?_, fun x hx hx0 => ?_⟩
   ·simp only
    rw [hout]
    have hci := can_iff (R := tg T' z) g.base (fun i hi => bit_lt hz hi) (bit_ne (show z ≠ 0 by omega)) hRz
    refine bl_ext fun x hx => ⟨fun h => ?_, fun h => ?_⟩
    ·rcases h with h | ⟨rfl, j, h1, h2, h3⟩
     ·exact ⟨by omega, h.2⟩
     ·exact ⟨by omega, hci.1 ⟨j, h2, h3⟩⟩
    ·by_cases hxz : x = z
     ·subst hxz
      obtain ⟨j, h2, h3⟩ := hci.2 h.2
      exact .inr ⟨rfl, j, bit_lt hz h2, h2, h3⟩
     ·exact .inl ⟨by omega, h.2⟩
   ·by_cases hxz : x = z
    ·subst hxz; exact hRz
    ·exact hT x (by omega) hx0
 ·have h2 : decide (((2 ^ l.length : Nat) : Int) < ((2 ^ l.length : Nat) : Int)) = false := by simp
  refine Yes.jn ?_
  simp only [h2, cond_false]
  refine Yes.some (Yes.some ?_)
  rw [hI.1]
  exact bl_ext fun x hx => ⟨fun h => h.2, fun h => ⟨hx, h⟩⟩
end Go.Proofs.Ytnfjhdagbknlbaa
