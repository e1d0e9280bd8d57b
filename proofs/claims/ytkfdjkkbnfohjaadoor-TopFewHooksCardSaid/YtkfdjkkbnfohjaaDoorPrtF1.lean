/- Laws of plain functions, part 1. -/
import Derived.Test.YtkfdjkkbnfohjaaDoorYes
set_option maxRecDepth 8000
namespace Go.Proofs.YtkfdjkkbnfohjaaDoor
open Go.RowKit
open Classical
theorem qskip {α : Type} {Q : α → Prop} {c : Bool} {X Y : Option α} (hc : c = false) (h : Yes Y Q) : Yes (bif c then X else Y) Q := by rw [hc]; exact h
theorem qtake {α : Type} {Q : α → Prop} {c : Bool} {X Y : Option α} (hc : c = true) (h : Yes X Q) : Yes (bif c then X else Y) Q := by rw [hc]; exact h
theorem qbind {α β : Type} {Q : β → Prop} {x : Option α} {f : α → Option β} (a : α) (h : x = some a) (k : Yes (f a) Q) : Yes (x.bind f) Q := by rw [h]; exact k
theorem qidx {α : Type} {xs : List α} {i : Nat} (h : i < xs.length) : idx xs (i : Int) = some xs[i] := by unfold idx; rw [if_pos (Int.natCast_nonneg i)]; exact List.getElem?_eq_getElem h
theorem rem_nn {a b : Int} (ha : 0 ≤ a) (hb : 0 < b) : rem64 a b = some (a % b) := by
 unfold rem64; rw [if_neg (by omega), Int.tmod_eq_emod_of_nonneg ha]
theorem take_succ {α : Type} {xs : List α} {i : Nat} (h : i < xs.length) : xs.take (i + 1) = xs.take i ++ [xs[i]] := by
 rw [List.take_add_one, List.getElem?_eq_getElem h]; rfl
def btw (a b x : Int) : Bool := decide (a ≤ x ∧ x ≤ b)
theorem btw_iff {a b x : Int} : btw a b x = true ↔ a ≤ x ∧ x ≤ b := by simp [btw]
theorem c165 (xs : List Int) (φ : Int → Option Bool) (p : Int → Bool) (hl : xs.length < 9223372036854775807) (h : ∀ a ∈ xs, φ a = some (p a)) : f91 xs φ = some (xs.any p) :=
 Yes.eq (Yes.bind (Yes.mono (index_is xs φ p hl h) fun _ hr => Yes.some (index_any hr)))
theorem c250 (xs : List ChainCard) (φ : ChainCard → Option Bool) (p : ChainCard → Bool) (hl : xs.length < 9223372036854775807) (h : ∀ a ∈ xs, φ a = some (p a)) : f158 xs φ = some (xs.any p) :=
 Yes.eq (Yes.bind (Yes.mono (index_is xs φ p hl h) fun _ hr => Yes.some (index_any hr)))
theorem b192 (x a b : Int) : f106 x a b = some (!btw a b x) := by unfold f106 btw; by_cases h1 : x < a <;> by_cases h2 : x > b <;> simp [h1, h2] <;> omega
theorem c112 (a b : Int) (xs : List Int) (hl : xs.length < 9223372036854775807) (h : ∀ x ∈ xs, a ≤ x ∧ x ≤ b) : f59 a b xs = some true := by
 unfold f59
 rw [c165 xs _ (fun x => !btw a b x) hl fun x _ => b192 x a b]
 simp only [Option.bind_some, Option.some.injEq, Bool.not_eq_true', List.any_eq_false]
 exact fun x hx => by rw [btw_iff.2 (h x hx)]; simp
theorem b179 (x a b : Int) : f127 x a b = some (!btw a b x) := by unfold f127 btw; by_cases h1 : x < a <;> by_cases h2 : x > b <;> simp [h1, h2] <;> omega
theorem c103 (a b : Int) (xs : List Int) (hl : xs.length < 9223372036854775807) (h : ∀ x ∈ xs, a ≤ x ∧ x ≤ b) : f74 a b xs = some true := by
 unfold f74
 rw [c165 xs _ (fun x => !btw a b x) hl fun x _ => b179 x a b]
 simp only [Option.bind_some, Option.some.injEq, Bool.not_eq_true', List.any_eq_false]
 exact fun x hx => by rw [btw_iff.2 (h x hx)]; simp
theorem b241 (x a b : Int) : f154 x a b = some (!btw a b x) := by unfold f154 btw; by_cases h1 : x < a <;> by_cases h2 : x > b <;> simp [h1, h2] <;> omega
theorem c184 (a b : Int) (xs : List Int) (hl : xs.length < 9223372036854775807) (h : ∀ x ∈ xs, a ≤ x ∧ x ≤ b) : f98 a b xs = some true := by
 unfold f98
 rw [c165 xs _ (fun x => !btw a b x) hl fun x _ => b241 x a b]
 simp only [Option.bind_some, Option.some.injEq, Bool.not_eq_true', List.any_eq_false]
 exact fun x hx => by rw [btw_iff.2 (h x hx)]; simp
theorem shl_small {n : Nat} (h : n ≤ 24) : shl64 (1 : Int) (n : Int) = some ((2 ^ n : Nat) : Int) := by
 unfold shl64
 rw [if_neg (by omega), Int.toNat_natCast, show min n 64 = n by omega]
 have h1 : 2 ^ n ≤ 16777216 := Nat.pow_le_pow_right (n := 2) (by omega) h
 have h2 : (1 : Int) * 2 ^ n = ((2 ^ n : Nat) : Int) := by rw [Int.one_mul]; norm_cast
 rw [h2]
 generalize 2 ^ n = b at h1 ⊢
 rw [w64_id (by omega) (by omega)]
theorem wu_id {n : Int} (h1 : 0 ≤ n) (h2 : n ≤ 9223372036854775807) : wu64 n = n := by
 unfold wu64 IntKind.wrap
 simp only [IntKind.bits, IntKind.signed]
 first
  | omega
  | (simp; omega)
theorem and_rng (a : Int) {m : Nat} (hm : m < 9223372036854775808) : 0 ≤ bit64 .and a (m : Int) ∧ bit64 .and a (m : Int) ≤ m := by
 unfold bit64
 simp only
 have h1 : (BitVec.ofInt 64 a &&& BitVec.ofInt 64 (m : Int)).toNat ≤ m := by
  rw [BitVec.toNat_and]
  refine Nat.le_trans Nat.and_le_right ?_
  rw [BitVec.toNat_ofInt]
  omega
 rw [w64_id (by omega) (by omega)]
 omega
theorem pow_rng {H : Nat} (h : H ≤ 12) : 1 ≤ 2 ^ H ∧ 2 ^ H ≤ 4096 := ⟨Nat.one_le_two_pow, Nat.pow_le_pow_right (n := 2) (by omega) h⟩
def hk (x : Loom) : Nat := 1 + x.Hooks.toNat % 12
theorem hk_rng (x : Loom) : 1 ≤ hk x ∧ hk x ≤ 12 := by unfold hk; omega
theorem hk_eq (x : Loom) : rem64 (x.Hooks.toNat : Int) 12 = some ((x.Hooks.toNat : Int) % 12) ∧ w64 ((1 : Int) + (x.Hooks.toNat : Int) % 12) = (hk x : Int) := by
 have := x.Hooks.toNat_lt
 refine ⟨rem_nn (by omega) (by omega), ?_⟩
 rw [w64_id (by omega) (by omega)]
 unfold hk
 omega
def HOk (H : Nat) (h : TieHarness) : Prop := h.Hooks = H ∧ (1 ≤ h.Warps.length ∧ h.Warps.length ≤ 96) ∧ ∀ a ∈ h.Warps, 0 ≤ a ∧ a ≤ (H : Int) - 1
def DOk (H : Nat) (d : Design) : Prop := d.Hooks = H ∧ (1 ≤ d.Rows.length ∧ d.Rows.length ≤ 10) ∧ ∀ r ∈ d.Rows, 0 ≤ r ∧ r < ((2 ^ H : Nat) : Int)
theorem first (i n m : Nat) (hi : i < max 1 (min n m)) : (bif ((i : Int) == (0 : Int)) then some (true) else bif (decide ((i : Int) < (n : Int))) then some ((decide ((i : Int) < (m : Int)))) else some (false)) = some true := by
 refine Yes.eq (Yes.cond (fun _ => Yes.some rfl) (fun hc => ?_))
 have h0 : ¬ (i : Int) = 0 := by simpa using hc
 exact qtake (decide_eq_true (by omega)) (Yes.some (decide_eq_true (by omega)))
theorem last (n m : Nat) (hm : 1 ≤ m) : (bif (((max 1 (min n m) : Nat) : Int) == (0 : Int)) then some (true) else bif (decide (((max 1 (min n m) : Nat) : Int) < (n : Int))) then some ((decide (((max 1 (min n m) : Nat) : Int) < (m : Int)))) else some (false)) = some false := by
 refine Yes.eq (qskip (beq_eq_false_iff_ne.2 (by omega)) (Yes.cond (fun hc => ?_) (fun _ => Yes.some rfl)))
 have := of_decide_eq_true hc
 exact Yes.some (decide_eq_false (by omega))
theorem p54 (x : Loom) (hl : x.Warps.length ≤ 9223372036854775807) : Yes (f13 x) (HOk (hk x)) := by
 have hH := hk_rng x
 unfold f13
 refine qbind _ (hk_eq x).1 ?_
 rw [(hk_eq x).2]
 generalize hk x = H at hH ⊢
 refine Yes.bind (Yes.mono (Q' := HOk H) ?_ fun d hd => Yes.some hd)
 refine Yes.upto (max 1 (min x.Warps.length 30)) (by omega) (fun i d => d.Hooks = H ∧ d.Warps.length = i ∧ ∀ a ∈ d.Warps, 0 ≤ a ∧ a ≤ (H : Int) - 1) ⟨rfl, rfl, by simp⟩ (fun i d k hi hI hk => ?_) (fun d k hI => ?_)
 ·obtain ⟨i1, i2, i3⟩ := hI
  refine Yes.jn (qbind true (first i _ 30 hi) (qtake rfl (Yes.bind (Yes.bind (Yes.mono (Q' := fun r => 0 ≤ r ∧ r ≤ (H : Int) - 1) ?_ fun r hr => ?_)))))
  ·refine Yes.cond (fun hc => ?_) (fun _ => Yes.some (by omega))
   have hlt : i < x.Warps.length := by have := of_decide_eq_true hc; omega
   refine qbind _ (qidx hlt) ?_
   rw [i1]
   refine qbind _ (rem_nn (by omega) (by omega)) (Yes.some ?_)
   have h1 := Int.emod_nonneg (x.Warps[i].toNat : Int) (show (H : Int) ≠ 0 by omega)
   have h2 := Int.emod_lt_of_pos (x.Warps[i].toNat : Int) (show (0 : Int) < H by omega)
   omega
  ·refine Yes.bind (Yes.apnd (by rw [i2]; simp; omega) (by rw [i2]; simp; omega) (Yes.some (hk _ ⟨i1, by simp [i2], fun a ha => ?_⟩)))
   rcases List.mem_append.1 ha with ha | ha
   ·exact i3 a ha
   ·rw [List.mem_singleton.1 ha]; exact hr
 ·obtain ⟨i1, i2, i3⟩ := hI
  exact Yes.jn (qbind false (last _ 30 (by omega)) (qskip rfl (Yes.some ⟨i1, by omega, i3⟩)))
theorem p55 (x : Loom) (hl : x.Rows.length ≤ 9223372036854775807) : Yes (f14 x) (DOk (hk x)) := by
 have hH := hk_rng x
 unfold f14
 refine qbind _ (hk_eq x).1 ?_
 rw [(hk_eq x).2]
 generalize hk x = H at hH ⊢
 have hp := pow_rng hH.2
 refine Yes.bind (Yes.mono (Q' := DOk H) ?_ fun d hd => Yes.some hd)
 refine Yes.upto (max 1 (min x.Rows.length 10)) (by omega) (fun i d => d.Hooks = H ∧ d.Rows.length = i ∧ ∀ r ∈ d.Rows, 0 ≤ r ∧ r < ((2 ^ H : Nat) : Int)) ⟨rfl, rfl, by simp⟩ (fun i d k hi hI hk => ?_) (fun d k hI => ?_)
 ·obtain ⟨i1, i2, i3⟩ := hI
  refine Yes.jn (qbind true (first i _ 10 hi) (qtake rfl (Yes.bind (Yes.bind (Yes.mono (Q' := fun _ => True) ?_ fun r _ => ?_)))))
  ·refine Yes.cond (fun hc => ?_) (fun _ => Yes.some trivial)
   have hlt : i < x.Rows.length := by have := of_decide_eq_true hc; omega
   exact qbind _ (qidx hlt) (Yes.some trivial)
  ·rw [i1, wu_id (by omega) (by omega)]
   refine qbind _ (shl_small (by omega)) ?_
   have hb := and_rng r (m := 2 ^ H - 1) (by omega)
   rw [w64_id (n := ((2 ^ H : Nat) : Int) - 1) (by omega) (by omega), show ((2 ^ H : Nat) : Int) - 1 = ((2 ^ H - 1 : Nat) : Int) by omega]
   refine Yes.bind (Yes.apnd (by rw [i2]; simp; omega) (by rw [i2]; simp; omega) (Yes.some (hk _ ⟨rfl, by simp [i2], fun a ha => ?_⟩)))
   rcases List.mem_append.1 ha with ha | ha
   ·exact i3 a ha
   ·rw [List.mem_singleton.1 ha]; omega
 ·obtain ⟨i1, i2, i3⟩ := hI
  exact Yes.jn (qbind false (last _ 10 (by omega)) (qskip rfl (Yes.some ⟨i1, by omega, i3⟩)))
theorem c11 (xs : List Int) (h : xs.length ≤ 1000) : f28 xs = some xs := by
 refine Yes.eq ?_
 unfold f28
 exact Yes.bind (Yes.apnd (by simp; omega) (by simp; omega) (Yes.some rfl))
theorem c31 {H : Nat} {d : Design} (h : DOk H d) : f17 d = some d := by
 unfold f17; rw [c11 _ (by have := h.2.1; omega)]; rfl
theorem c30 {H : Nat} {h : TieHarness} (hh : HOk H h) : f16 h = some h := by
 unfold f16; rw [c11 _ (by have := hh.2.1; omega)]; rfl
theorem c105 {H : Nat} {h : TieHarness} (hH : 1 ≤ H ∧ H ≤ 12) (hk : HOk H h) : f51 h = some 0 := by
 obtain ⟨k1, k2, k3⟩ := hk
 refine Yes.eq ?_
 unfold f51
 refine Yes.jn (qbind true (c184 _ _ _ (by simp) fun a ha => by rw [List.mem_singleton.1 ha, k1]; omega) (qskip rfl (qskip (decide_eq_false (by omega)) (qskip (beq_eq_false_iff_ne.2 (by omega)) (qbind true (c184 _ _ _ (by omega) fun a ha => ?_) (qskip rfl (Yes.some rfl)))))))
 rw [k1, w64_id (by omega) (by omega)]; exact k3 a ha
theorem c102 {H : Nat} {d : Design} (hH : 1 ≤ H ∧ H ≤ 12) (hd : DOk H d) : f52 d = some 0 := by
 obtain ⟨k1, k2, k3⟩ := hd
 have hp := pow_rng hH.2
 refine Yes.eq ?_
 unfold f52
 refine Yes.jn (qbind true (c103 _ _ _ (by simp) fun a ha => by rw [List.mem_singleton.1 ha, k1]; omega) (qskip rfl (qskip (decide_eq_false (by omega)) (qskip (beq_eq_false_iff_ne.2 (by omega)) ?_))))
 rw [k1]
 refine qbind _ (shl_small (by omega)) (qbind true (c103 _ _ _ (by omega) fun a ha => ?_) (qskip rfl (Yes.some rfl)))
 rw [w64_id (by omega) (by omega)]
 have := k3 a ha
 omega
theorem c32 {xs : List Str} (h : xs.length ≤ 1000) : f23 xs xs = some true := by
 refine Yes.eq ?_
 unfold f23
 refine Yes.jn (qskip (by simp) (Yes.jn ?_))
 refine Yes.lp (fun s => ∃ i : Nat, s = i ∧ i ≤ xs.length) (fun s => xs.length - s.toNat) ⟨0, rfl, by omega⟩ (by omega) ?_
 rintro _ k ⟨i, rfl, hi⟩ hk
 refine Yes.jn (Yes.cond (fun hc => ?_) (fun _ => Yes.some rfl))
 have hc : (i : Int) < (xs.length : Int) := of_decide_eq_true hc
 refine Yes.jn (qbind _ (qidx (by omega)) (qbind _ (qidx (by omega)) (qskip (by simp) (hk _ ⟨i + 1, ?_, by omega⟩ ?_))))
 ·rw [w64_id (by omega) (by omega)]; simp
 ·rw [w64_id (by omega) (by omega)]; omega
def crd (rs : List Int) : List ChainCard := rs.mapIdx fun i r => ⟨i, r, false⟩
theorem crd_len (rs : List Int) : (crd rs).length = rs.length := by simp [crd]
theorem crd_at {rs : List Int} {i : Nat} (h : i < (crd rs).length) (h' : i < rs.length) : (crd rs)[i] = ⟨i, rs[i], false⟩ := by simp [crd]
theorem crd_snoc (rs : List Int) (r : Int) : crd (rs ++ [r]) = crd rs ++ [⟨rs.length, r, false⟩] := by unfold crd; rw [List.mapIdx_concat]
theorem c109 {H : Nat} (h : 1 ≤ H ∧ H ≤ 12) : f56 (H : Int) = some true := by
 unfold f56
 rw [c112 _ _ _ (by simp) fun a ha => by rw [List.mem_singleton.1 ha]; omega]
 rfl
theorem c110 {H : Nat} (h : 1 ≤ H ∧ H ≤ 12) {xs : List Int} (hl : xs.length ≤ 1000) (hx : ∀ r ∈ xs, 0 ≤ r ∧ r < ((2 ^ H : Nat) : Int)) : f57 (H : Int) xs = some true := by
 have hp := pow_rng h.2
 refine Yes.eq ?_
 unfold f57
 refine qbind _ (shl_small (by omega)) (qbind true (c112 _ _ _ (by omega) fun a ha => ?_) (Yes.some rfl))
 rw [w64_id (by omega) (by omega)]
 have := hx a ha
 omega
theorem p42 {H : Nat} (hH : 1 ≤ H ∧ H ≤ 12) {d : Design} (hd : DOk H d) : f20 d = some (⟨d.Hooks, crd d.Rows⟩, 0) := by
 obtain ⟨h1, h2, h3⟩ := hd
 refine Yes.eq ?_
 unfold f20
 refine Yes.jn (qbind true (by rw [h1]; exact c109 hH) (qskip rfl (qskip (decide_eq_false (by omega)) (qskip (beq_eq_false_iff_ne.2 (by omega)) (qbind true (by rw [h1]; exact c110 hH (by omega) h3) (qskip rfl ?_))))))
 refine Yes.bind (Yes.mono (Q' := fun m => m = ⟨d.Hooks, crd d.Rows⟩) ?_ fun m hm => Yes.some (by rw [hm]))
 refine Yes.upto d.Rows.length (by omega) (fun i m => m = ⟨d.Hooks, crd (d.Rows.take i)⟩) rfl (fun i m k hi hI hk => ?_) (fun m k hI => qskip (decide_eq_false (by omega)) (Yes.some (by rw [hI, List.take_length])))
 subst hI
 have hl : (crd (d.Rows.take i)).length = i := by rw [crd_len]; simp; omega
 refine qtake (decide_eq_true (by omega)) (Yes.bind (qbind _ (qidx hi) (Yes.bind (Yes.apnd (by simp only [hl]; simp; omega) (by simp only [hl]; simp; omega) (Yes.some (hk _ ?_))))))
 rw [take_succ hi, crd_snoc, List.length_take, show min i d.Rows.length = i by omega]
def BOk (H : Nat) (b : ChainBelt) : Prop := b.Hooks = H ∧ (1 ≤ b.Cards.length ∧ b.Cards.length ≤ 10) ∧ ∀ c ∈ b.Cards, (0 ≤ c.Number ∧ c.Number ≤ 59) ∧ 0 ≤ c.Row ∧ c.Row < ((2 ^ H : Nat) : Int)
theorem c111 {H : Nat} (hH : 1 ≤ H ∧ H ≤ 12) {b : ChainBelt} (h : BOk H b) : f58 b = some (⟨b, b.Hooks⟩, 0) := by
 obtain ⟨h1, h2, h3⟩ := h
 refine Yes.eq ?_
 unfold f58
 have t1 : ∀ x y z : Int, x ≤ z → z ≤ y → ∀ a ∈ ([z] : List Int), x ≤ a ∧ a ≤ y := fun x y z h1 h2 a ha => by rw [List.mem_singleton.1 ha]; exact ⟨h1, h2⟩
 have h249 : ∀ c ∈ b.Cards, f157 c (H : Int) = some false := fun c hc => by
  have hc := h3 c hc
  refine Yes.eq ?_
  unfold f157
  refine Yes.bind (qbind true (c112 _ _ _ (by simp) (t1 _ _ _ (by omega) (by omega))) (qskip rfl (qbind true (c110 hH (by simp) fun r hr => ?_) (Yes.some (Yes.some rfl)))))
  rw [List.mem_singleton.1 hr]; exact hc.2
 have h191 : f105 (H : Int) b.Cards = some true := by
  refine Yes.eq ?_
  unfold f105
  refine Yes.bind (qtake (decide_eq_true (by omega)) (qbind _ (c250 b.Cards _ (fun _ => false) (by omega) h249) (Yes.some (Yes.some ?_))))
  simp
 refine Yes.jn (qbind true (by rw [h1]; exact c109 hH) (qskip rfl (qskip (decide_eq_false (by omega)) (qbind true (by rw [h1]; exact h191) (qskip rfl (Yes.some rfl))))))
theorem shr_some (x : Int) {n : Int} (h : 0 ≤ n) : shr64 x n = some (x.fdiv (2 ^ (min n.toNat 64))) := by unfold shr64; rw [if_neg (by omega)]
theorem shl_some (x : Int) {n : Int} (h : 0 ≤ n) : shlU x n = some (wu64 (x * 2 ^ (min n.toNat 64))) := by unfold shlU; rw [if_neg (by omega)]
theorem wu_rng (n : Int) : 0 ≤ wu64 n ∧ wu64 n < 18446744073709551616 := by
 unfold wu64 IntKind.wrap
 simp only [IntKind.bits, IntKind.signed]
 first
  | omega
  | (simp; omega)
theorem c278 (u : U64) : Yes (f191 u) (fun v => 0 ≤ v.n ∧ v.n < 18446744073709551616) := by
 unfold f191
 exact qbind _ (shr_some _ (by omega)) (qbind _ (shl_some _ (by omega)) (qbind _ (shr_some _ (by omega)) (qbind _ (shl_some _ (by omega)) (qbind _ (shr_some _ (by omega)) (qbind _ (shl_some _ (by omega)) (Yes.some (wu_rng _)))))))
theorem c251 (u : U64) : Yes (f159 u) (fun v => 0 ≤ v.n ∧ v.n < 18446744073709551616) := by
 unfold f159
 exact qbind _ (shr_some _ (by omega)) (qbind _ (shl_some _ (by omega)) (qbind _ (shr_some _ (by omega)) (qbind _ (shl_some _ (by omega)) (qbind _ (shr_some _ (by omega)) (qbind _ (shl_some _ (by omega)) (Yes.bind ((c278 _).mono fun v hv => Yes.some hv)))))))
theorem p193 {H : Nat} (hH : 1 ≤ H ∧ H ≤ 12) (r : Int) : Yes (f107 (H : Int) r) (fun m => 0 ≤ m ∧ m < ((2 ^ H : Nat) : Int)) := by
 unfold f107
 have hp := pow_rng hH.2
 refine Yes.bind ((c251 _).mono fun v hv => ?_)
 rw [wu_id (n := (H : Int)) (by omega) (by omega), wu_id (n := (64 : Int) - H) (by omega) (by omega)]
 refine qbind _ (shr_some _ (by omega)) ?_
 have e : min ((64 : Int) - H).toNat 64 = 64 - H := by omega
 have e2 : (2 : Nat) ^ H * 2 ^ (64 - H) = 18446744073709551616 := by rw [← Nat.pow_add, show H + (64 - H) = 64 by omega]
 have e3 : ((2 : Int) ^ (64 - H)) = ((2 ^ (64 - H) : Nat) : Int) := by norm_cast
 rw [e, e3]
 obtain ⟨n, hn⟩ := Int.eq_ofNat_of_zero_le hv.1
 have hv2 := hv.2
 rw [hn] at hv2 ⊢
 rw [Int.fdiv_eq_ediv_of_nonneg _ (Int.natCast_nonneg _)]
 have hlt : n / 2 ^ (64 - H) < 2 ^ H := by
  rw [Nat.div_lt_iff_lt_mul (Nat.two_pow_pos _), e2]; omega
 have hc : ((n : Int) / ((2 ^ (64 - H) : Nat) : Int)) = ((n / 2 ^ (64 - H) : Nat) : Int) := (Int.natCast_ediv n (2 ^ (64 - H))).symm
 rw [hc]
 generalize n / 2 ^ (64 - H) = q at hlt ⊢
 rw [w64_id (by omega) (by omega)]
 exact Yes.some ⟨by omega, by omega⟩
theorem p113 {H : Nat} (hH : 1 ≤ H ∧ H ≤ 12) {b : ChainBelt} (h : BOk H b) {i : Nat} (hi : i < b.Cards.length) :
  Yes (f60 ⟨b, b.Hooks⟩ (i : Int)) (fun r => (0 ≤ r ∧ r < ((2 ^ H : Nat) : Int)) ∧ (b.Cards[i].Turned = false → r = b.Cards[i].Row)) := by
 have hc := h.2.2 _ (List.getElem_mem hi)
 unfold f60
 refine Yes.jn (qbind _ (qidx hi) (Yes.cond (fun ht => ?_) (fun hf => qbind _ (qidx hi) (Yes.some ⟨hc.2, fun _ => rfl⟩))))
 rw [h.1]
 exact Yes.bind ((p193 hH _).mono fun m hm => Yes.some ⟨hm, fun hf => absurd (ht.symm.trans hf) (by simp)⟩)
theorem c60 {n : Nat} (hn : n ≤ 10) : f22 (n : Int) 1 = some (List.replicate n 1) := by
 refine Yes.eq ?_
 unfold f22
 rw [w64_id (n := (n : Int) * 1) (by omega) (by omega), Int.mul_one]
 refine Yes.bind (Yes.mono (Q' := fun m => m = List.replicate n 1) ?_ fun m hm => Yes.some hm)
 refine Yes.upto n (by omega) (fun i m => m = List.replicate i 1) rfl (fun i m k hi hI hk => ?_) (fun m k hI => Yes.jn (qskip (decide_eq_false (by omega)) (Yes.some hI)))
 subst hI
 refine Yes.jn (qtake (decide_eq_true (by omega)) (Yes.bind (Yes.bind (Yes.apnd (by simp; omega) (by simp; omega) (Yes.some (hk _ ?_))))))
 rw [List.replicate_succ']
theorem p45 {H : Nat} (hH : 1 ≤ H ∧ H ≤ 12) {b : ChainBelt} (h : BOk H b) :
  Yes (f21 b 0 (List.replicate b.Cards.length 1)) (fun r => r.2.2 = 0 ∧ r.1.length = b.Cards.length ∧ (∀ a ∈ r.1, 0 ≤ a ∧ a < ((2 ^ H : Nat) : Int)) ∧ ((∀ c ∈ b.Cards, c.Turned = false) → r.1 = b.Cards.map (·.Row))) := by
 have h2 := h.2.1
 unfold f21
 refine qbind _ (c111 hH h) (Yes.jn (qskip rfl (qbind true (c112 _ _ _ (by simp) fun a ha => ?_) (qskip rfl (qskip (decide_eq_false (by rw [List.length_replicate]; omega)) (qbind true (c112 _ _ _ (by rw [List.length_replicate]; omega) fun a ha => ?_) (qskip rfl ?_)))))))
 ·rw [List.mem_singleton.1 ha, w64_id (by omega) (by omega)]; omega
 ·rw [List.eq_of_mem_replicate ha]; omega
 refine Yes.bind (Yes.mono (Q' := fun r => r.1.length = b.Cards.length ∧ (∀ a ∈ r.1, 0 ≤ a ∧ a < ((2 ^ H : Nat) : Int)) ∧ ((∀ c ∈ b.Cards, c.Turned = false) → r.1 = b.Cards.map (·.Row))) ?_ fun r hr => Yes.some ⟨rfl, hr⟩)
 refine Yes.upto2 b.Cards.length (by omega) (fun i rows a => rows.length = i ∧ a = ((i % b.Cards.length : Nat) : Int) ∧ (∀ a ∈ rows, 0 ≤ a ∧ a < ((2 ^ H : Nat) : Int)) ∧ ((∀ c ∈ b.Cards, c.Turned = false) → rows = (b.Cards.take i).map (·.Row))) ⟨rfl, by simp, by simp, fun _ => rfl⟩ (fun i rows a k hi hI hk => ?_) (fun rows a k hI => ?_)
 ·obtain ⟨i1, i2, i3, i4⟩ := hI
  rw [Nat.mod_eq_of_lt hi] at i2
  subst i2
  refine qtake (decide_eq_true (by simp; omega)) (Yes.bind (qbind 1 ?_ (Yes.bind ((p113 hH h hi).mono fun r hr => Yes.bind (Yes.apnd (by rw [i1]; simp; omega) (by rw [i1]; simp; omega) ?_)))))
  ·rw [qidx (by simpa using hi)]; simp
  ·have h114 : f61 ⟨b, b.Hooks⟩ (i : Int) 1 = some (((i + 1) % b.Cards.length : Nat) : Int) := by
    unfold f61
    rw [w64_id (n := (i : Int) + 1) (by omega) (by omega)]
    show (rem64 _ (b.Cards.length : Int)).bind _ = _
    rw [rem_nn (by omega) (by omega)]
    rfl
   refine qbind _ h114 (Yes.some (hk (rows ++ [r]) _ ⟨by rw [List.length_append, i1]; rfl, rfl, fun a ha => ?_, fun hall => ?_⟩))
   ·rcases List.mem_append.1 ha with ha | ha
    ·exact i3 a ha
    ·rw [List.mem_singleton.1 ha]; exact hr.1
   ·rw [take_succ hi, List.map_append, ← i4 hall, hr.2 (hall _ (List.getElem_mem hi))]; rfl
 ·obtain ⟨i1, i2, i3, i4⟩ := hI
  exact qskip (decide_eq_false (by simp)) (Yes.some ⟨i1, i3, fun hall => by rw [i4 hall, List.take_length]⟩)
def un (c : ChainCard) : ChainCard := { c with Turned := false }
theorem crd_un (rs : List Int) : (crd rs).map un = crd rs := by
 apply List.ext_getElem (by simp)
 intro i h1 h2
 have h3 : i < rs.length := by rw [crd_len] at h2; exact h2
 rw [List.getElem_map, crd_at h2 h3]; rfl
theorem mset_new {κ ν : Type} [DecidableEq κ] {k : κ} {v : ν} : ∀ {m : List (κ × ν)}, k ∉ m.map (·.1) → mset m k v = m ++ [(k, v)]
 | [], _ => rfl
 | p :: m, h => by
  have h1 : ¬ p.1 = k := fun e => h (by rw [List.map_cons, e]; exact List.mem_cons_self ..)
  unfold mset
  rw [if_neg h1, mset_new fun hm => h (List.mem_cons_of_mem _ hm)]
  rfl
theorem mget_none {κ ν : Type} [DecidableEq κ] {k : κ} {m : List (κ × ν)} (h : k ∉ m.map (·.1)) : mget m k = none := by
 unfold mget
 rw [List.find?_eq_none.2 fun p hp => by
  have : ¬ p.1 = k := fun e => h (e ▸ List.mem_map_of_mem hp)
  simp [this]]
 rfl
theorem crd_row (rs : List Int) : (crd rs).map (·.Row) = rs := by
 apply List.ext_getElem (by simp [crd_len])
 intro i h1 h2
 rw [List.getElem_map, crd_at _ h2]
theorem bok_of {H : Nat} {rs : List Int} (hl : 1 ≤ rs.length ∧ rs.length ≤ 10) (hr : ∀ r ∈ rs, 0 ≤ r ∧ r < ((2 ^ H : Nat) : Int)) {b : ChainBelt} (h1 : b.Hooks = H) (hp : (b.Cards.map un).Perm (crd rs)) : BOk H b := by
 have hlen : b.Cards.length = rs.length := by have := hp.length_eq; rw [List.length_map, crd_len] at this; exact this
 refine ⟨h1, by omega, fun c hc => ?_⟩
 have hm : un c ∈ crd rs := hp.mem_iff.1 (List.mem_map_of_mem hc)
 obtain ⟨i, hi, he⟩ := List.getElem_of_mem hm
 have hi' : i < rs.length := by rw [crd_len] at hi; exact hi
 rw [crd_at hi hi'] at he
 have e1 : c.Number = (i : Int) := congrArg ChainCard.Number he.symm
 have e2 : c.Row = rs[i] := congrArg ChainCard.Row he.symm
 rw [e1, e2]
 exact ⟨by omega, hr _ (List.getElem_mem hi')⟩
end Go.Proofs.YtkfdjkkbnfohjaaDoor
