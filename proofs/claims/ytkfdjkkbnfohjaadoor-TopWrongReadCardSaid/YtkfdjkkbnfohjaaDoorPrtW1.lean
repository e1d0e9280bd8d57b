/- Laws of plain functions, part 1. -/
import Derived.Test.YtkfdjkkbnfohjaaDoorCodes
import Derived.Test.YtkfdjkkbnfohjaaDoorYes
set_option maxRecDepth 8000
namespace Go.Proofs.YtkfdjkkbnfohjaaDoor
open Go.RowKit
open Classical
theorem qskip {α : Type} {Q : α → Prop} {c : Bool} {X Y : Option α} (hc : c = false) (h : Yes Y Q) : Yes (bif c then X else Y) Q := by rw [hc]; exact h
theorem qtake {α : Type} {Q : α → Prop} {c : Bool} {X Y : Option α} (hc : c = true) (h : Yes X Q) : Yes (bif c then X else Y) Q := by rw [hc]; exact h
theorem qbind {α β : Type} {Q : β → Prop} {x : Option α} {f : α → Option β} (a : α) (h : x = some a) (k : Yes (f a) Q) : Yes (x.bind f) Q := by rw [h]; exact k
theorem qidx {α : Type} {xs : List α} {i : Nat} (h : i < xs.length) : idx xs (i : Int) = some xs[i] := by unfold idx; rw [if_pos (Int.natCast_nonneg i)]; exact List.getElem?_eq_getElem h
theorem rem_nn {a b : Int} (ha : 0 ≤ a) (hb : 0 < b) : rem64 a b = some (a % b) := by
 unfold rem64; rw [if_neg (by omega), Int.tmod_eq_emod_of_nonneg ha]
theorem take_succ {α : Type} {xs : List α} {i : Nat} (h : i < xs.length) : xs.take (i + 1) = xs.take i ++ [xs[i]] := by
 rw [List.take_add_one, List.getElem?_eq_getElem h]; rfl
def btw (a b x : Int) : Bool := decide (a ≤ x ∧ x ≤ b)
theorem btw_iff {a b x : Int} : btw a b x = true ↔ a ≤ x ∧ x ≤ b := by simp [btw]
theorem c165 (xs : List Int) (φ : Int → Option Bool) (p : Int → Bool) (hl : xs.length < 9223372036854775807) (h : ∀ a ∈ xs, φ a = some (p a)) : f91 xs φ = some (xs.any p) :=
 Yes.eq (Yes.bind (Yes.mono (index_is xs φ p hl h) fun _ hr => Yes.some (index_any hr)))
theorem b179 (x a b : Int) : f127 x a b = some (!btw a b x) := by unfold f127 btw; by_cases h1 : x < a <;> by_cases h2 : x > b <;> simp [h1, h2] <;> omega
theorem c103 (a b : Int) (xs : List Int) (hl : xs.length < 9223372036854775807) (h : ∀ x ∈ xs, a ≤ x ∧ x ≤ b) : f74 a b xs = some true := by
 unfold f74
 rw [c165 xs _ (fun x => !btw a b x) hl fun x _ => b179 x a b]
 simp only [Option.bind_some, Option.some.injEq, Bool.not_eq_true', List.any_eq_false]
 exact fun x hx => by rw [btw_iff.2 (h x hx)]; simp
theorem b241 (x a b : Int) : f154 x a b = some (!btw a b x) := by unfold f154 btw; by_cases h1 : x < a <;> by_cases h2 : x > b <;> simp [h1, h2] <;> omega
theorem c184 (a b : Int) (xs : List Int) (hl : xs.length < 9223372036854775807) (h : ∀ x ∈ xs, a ≤ x ∧ x ≤ b) : f98 a b xs = some true := by
 unfold f98
 rw [c165 xs _ (fun x => !btw a b x) hl fun x _ => b241 x a b]
 simp only [Option.bind_some, Option.some.injEq, Bool.not_eq_true', List.any_eq_false]
 exact fun x hx => by rw [btw_iff.2 (h x hx)]; simp
theorem shl_small {n : Nat} (h : n ≤ 24) : shl64 (1 : Int) (n : Int) = some ((2 ^ n : Nat) : Int) := by
 unfold shl64
 rw [if_neg (by omega), Int.toNat_natCast, show min n 64 = n by omega]
 have h1 : 2 ^ n ≤ 16777216 := Nat.pow_le_pow_right (n := 2) (by omega) h
 have h2 : (1 : Int) * 2 ^ n = ((2 ^ n : Nat) : Int) := by rw [Int.one_mul]; norm_cast
 rw [h2]
 generalize 2 ^ n = b at h1 ⊢
 rw [w64_id (by omega) (by omega)]
theorem wu_id {n : Int} (h1 : 0 ≤ n) (h2 : n ≤ 9223372036854775807) : wu64 n = n := by
 unfold wu64 IntKind.wrap
 simp only [IntKind.bits, IntKind.signed]
 first
  | omega
  | (simp; omega)
theorem and_rng (a : Int) {m : Nat} (hm : m < 9223372036854775808) : 0 ≤ bit64 .and a (m : Int) ∧ bit64 .and a (m : Int) ≤ m := by
 unfold bit64
 simp only
 have h1 : (BitVec.ofInt 64 a &&& BitVec.ofInt 64 (m : Int)).toNat ≤ m := by
  rw [BitVec.toNat_and]
  refine Nat.le_trans Nat.and_le_right ?_
  rw [BitVec.toNat_ofInt]
  omega
 rw [w64_id (by omega) (by omega)]
 omega
theorem pow_rng {H : Nat} (h : H ≤ 12) : 1 ≤ 2 ^ H ∧ 2 ^ H ≤ 4096 := ⟨Nat.one_le_two_pow, Nat.pow_le_pow_right (n := 2) (by omega) h⟩
def hk (x : Loom) : Nat := 1 + x.Hooks.toNat % 12
theorem hk_rng (x : Loom) : 1 ≤ hk x ∧ hk x ≤ 12 := by unfold hk; omega
theorem hk_eq (x : Loom) : rem64 (x.Hooks.toNat : Int) 12 = some ((x.Hooks.toNat : Int) % 12) ∧ w64 ((1 : Int) + (x.Hooks.toNat : Int) % 12) = (hk x : Int) := by
 have := x.Hooks.toNat_lt
 refine ⟨rem_nn (by omega) (by omega), ?_⟩
 rw [w64_id (by omega) (by omega)]
 unfold hk
 omega
def HOk (H : Nat) (h : TieHarness) : Prop := h.Hooks = H ∧ (1 ≤ h.Warps.length ∧ h.Warps.length ≤ 96) ∧ ∀ a ∈ h.Warps, 0 ≤ a ∧ a ≤ (H : Int) - 1
def DOk (H : Nat) (d : Design) : Prop := d.Hooks = H ∧ (1 ≤ d.Rows.length ∧ d.Rows.length ≤ 10) ∧ ∀ r ∈ d.Rows, 0 ≤ r ∧ r < ((2 ^ H : Nat) : Int)
theorem first (i n m : Nat) (hi : i < max 1 (min n m)) : (bif ((i : Int) == (0 : Int)) then some (true) else bif (decide ((i : Int) < (n : Int))) then some ((decide ((i : Int) < (m : Int)))) else some (false)) = some true := by
 refine Yes.eq (Yes.cond (fun _ => Yes.some rfl) (fun hc => ?_))
 have h0 : ¬ (i : Int) = 0 := by simpa using hc
 exact qtake (decide_eq_true (by omega)) (Yes.some (decide_eq_true (by omega)))
theorem last (n m : Nat) (hm : 1 ≤ m) : (bif (((max 1 (min n m) : Nat) : Int) == (0 : Int)) then some (true) else bif (decide (((max 1 (min n m) : Nat) : Int) < (n : Int))) then some ((decide (((max 1 (min n m) : Nat) : Int) < (m : Int)))) else some (false)) = some false := by
 refine Yes.eq (qskip (beq_eq_false_iff_ne.2 (by omega)) (Yes.cond (fun hc => ?_) (fun _ => Yes.some rfl)))
 have := of_decide_eq_true hc
 exact Yes.some (decide_eq_false (by omega))
theorem p54 (x : Loom) (hl : x.Warps.length ≤ 9223372036854775807) : Yes (f13 x) (HOk (hk x)) := by
 have hH := hk_rng x
 unfold f13
 refine qbind _ (hk_eq x).1 ?_
 rw [(hk_eq x).2]
 generalize hk x = H at hH ⊢
 refine Yes.bind (Yes.mono (Q' := HOk H) ?_ fun d hd => Yes.some hd)
 refine Yes.upto (max 1 (min x.Warps.length 30)) (by omega) (fun i d => d.Hooks = H ∧ d.Warps.length = i ∧ ∀ a ∈ d.Warps, 0 ≤ a ∧ a ≤ (H : Int) - 1) ⟨rfl, rfl, by simp⟩ (fun i d k hi hI hk => ?_) (fun d k hI => ?_)
 ·obtain ⟨i1, i2, i3⟩ := hI
  refine Yes.jn (qbind true (first i _ 30 hi) (qtake rfl (Yes.bind (Yes.bind (Yes.mono (Q' := fun r => 0 ≤ r ∧ r ≤ (H : Int) - 1) ?_ fun r hr => ?_)))))
  ·refine Yes.cond (fun hc => ?_) (fun _ => Yes.some (by omega))
   have hlt : i < x.Warps.length := by have := of_decide_eq_true hc; omega
   refine qbind _ (qidx hlt) ?_
   rw [i1]
   refine qbind _ (rem_nn (by omega) (by omega)) (Yes.some ?_)
   have h1 := Int.emod_nonneg (x.Warps[i].toNat : Int) (show (H : Int) ≠ 0 by omega)
   have h2 := Int.emod_lt_of_pos (x.Warps[i].toNat : Int) (show (0 : Int) < H by omega)
   omega
  ·refine Yes.bind (Yes.apnd (by rw [i2]; simp; omega) (by rw [i2]; simp; omega) (Yes.some (hk _ ⟨i1, by simp [i2], fun a ha => ?_⟩)))
   rcases List.mem_append.1 ha with ha | ha
   ·exact i3 a ha
   ·rw [List.mem_singleton.1 ha]; exact hr
 ·obtain ⟨i1, i2, i3⟩ := hI
  exact Yes.jn (qbind false (last _ 30 (by omega)) (qskip rfl (Yes.some ⟨i1, by omega, i3⟩)))
theorem p55 (x : Loom) (hl : x.Rows.length ≤ 9223372036854775807) : Yes (f14 x) (DOk (hk x)) := by
 have hH := hk_rng x
 unfold f14
 refine qbind _ (hk_eq x).1 ?_
 rw [(hk_eq x).2]
 generalize hk x = H at hH ⊢
 have hp := pow_rng hH.2
 refine Yes.bind (Yes.mono (Q' := DOk H) ?_ fun d hd => Yes.some hd)
 refine Yes.upto (max 1 (min x.Rows.length 10)) (by omega) (fun i d => d.Hooks = H ∧ d.Rows.length = i ∧ ∀ r ∈ d.Rows, 0 ≤ r ∧ r < ((2 ^ H : Nat) : Int)) ⟨rfl, rfl, by simp⟩ (fun i d k hi hI hk => ?_) (fun d k hI => ?_)
 ·obtain ⟨i1, i2, i3⟩ := hI
  refine Yes.jn (qbind true (first i _ 10 hi) (qtake rfl (Yes.bind (Yes.bind (Yes.mono (Q' := fun _ => True) ?_ fun r _ => ?_)))))
  ·refine Yes.cond (fun hc => ?_) (fun _ => Yes.some trivial)
   have hlt : i < x.Rows.length := by have := of_decide_eq_true hc; omega
   exact qbind _ (qidx hlt) (Yes.some trivial)
  ·rw [i1, wu_id (by omega) (by omega)]
   refine qbind _ (shl_small (by omega)) ?_
   have hb := and_rng r (m := 2 ^ H - 1) (by omega)
   rw [w64_id (n := ((2 ^ H : Nat) : Int) - 1) (by omega) (by omega), show ((2 ^ H : Nat) : Int) - 1 = ((2 ^ H - 1 : Nat) : Int) by omega]
   refine Yes.bind (Yes.apnd (by rw [i2]; simp; omega) (by rw [i2]; simp; omega) (Yes.some (hk _ ⟨rfl, by simp [i2], fun a ha => ?_⟩)))
   rcases List.mem_append.1 ha with ha | ha
   ·exact i3 a ha
   ·rw [List.mem_singleton.1 ha]; omega
 ·obtain ⟨i1, i2, i3⟩ := hI
  exact Yes.jn (qbind false (last _ 10 (by omega)) (qskip rfl (Yes.some ⟨i1, by omega, i3⟩)))
theorem c11 (xs : List Int) (h : xs.length ≤ 1000) : f28 xs = some xs := by
 refine Yes.eq ?_
 unfold f28
 exact Yes.bind (Yes.apnd (by simp; omega) (by simp; omega) (Yes.some rfl))
theorem c31 {H : Nat} {d : Design} (h : DOk H d) : f17 d = some d := by
 unfold f17; rw [c11 _ (by have := h.2.1; omega)]; rfl
theorem c30 {H : Nat} {h : TieHarness} (hh : HOk H h) : f16 h = some h := by
 unfold f16; rw [c11 _ (by have := hh.2.1; omega)]; rfl
theorem c105 {H : Nat} {h : TieHarness} (hH : 1 ≤ H ∧ H ≤ 12) (hk : HOk H h) : f51 h = some 0 := by
 obtain ⟨k1, k2, k3⟩ := hk
 refine Yes.eq ?_
 unfold f51
 refine Yes.jn (qbind true (c184 _ _ _ (by simp) fun a ha => by rw [List.mem_singleton.1 ha, k1]; omega) (qskip rfl (qskip (decide_eq_false (by omega)) (qskip (beq_eq_false_iff_ne.2 (by omega)) (qbind true (c184 _ _ _ (by omega) fun a ha => ?_) (qskip rfl (Yes.some rfl)))))))
 rw [k1, w64_id (by omega) (by omega)]; exact k3 a ha
theorem c102 {H : Nat} {d : Design} (hH : 1 ≤ H ∧ H ≤ 12) (hd : DOk H d) : f52 d = some 0 := by
 obtain ⟨k1, k2, k3⟩ := hd
 have hp := pow_rng hH.2
 refine Yes.eq ?_
 unfold f52
 refine Yes.jn (qbind true (c103 _ _ _ (by simp) fun a ha => by rw [List.mem_singleton.1 ha, k1]; omega) (qskip rfl (qskip (decide_eq_false (by omega)) (qskip (beq_eq_false_iff_ne.2 (by omega)) ?_))))
 rw [k1]
 refine qbind _ (shl_small (by omega)) (qbind true (c103 _ _ _ (by omega) fun a ha => ?_) (qskip rfl (Yes.some rfl)))
 rw [w64_id (by omega) (by omega)]
 have := k3 a ha
 omega
theorem c32 {xs : List Str} (h : xs.length ≤ 1000) : f23 xs xs = some true := by
 refine Yes.eq ?_
 unfold f23
 refine Yes.jn (qskip (by simp) (Yes.jn ?_))
 refine Yes.lp (fun s => ∃ i : Nat, s = i ∧ i ≤ xs.length) (fun s => xs.length - s.toNat) ⟨0, rfl, by omega⟩ (by omega) ?_
 rintro _ k ⟨i, rfl, hi⟩ hk
 refine Yes.jn (Yes.cond (fun hc => ?_) (fun _ => Yes.some rfl))
 have hc : (i : Int) < (xs.length : Int) := of_decide_eq_true hc
 refine Yes.jn (qbind _ (qidx (by omega)) (qbind _ (qidx (by omega)) (qskip (by simp) (hk _ ⟨i + 1, ?_, by omega⟩ ?_))))
 ·rw [w64_id (by omega) (by omega)]; simp
 ·rw [w64_id (by omega) (by omega)]; omega
theorem mset_new {κ ν : Type} [DecidableEq κ] {k : κ} {v : ν} : ∀ {m : List (κ × ν)}, k ∉ m.map (·.1) → mset m k v = m ++ [(k, v)]
 | [], _ => rfl
 | p :: m, h => by
  have h1 : ¬ p.1 = k := fun e => h (by rw [List.map_cons, e]; exact List.mem_cons_self ..)
  unfold mset
  rw [if_neg h1, mset_new fun hm => h (List.mem_cons_of_mem _ hm)]
  rfl
theorem mget_none {κ ν : Type} [DecidableEq κ] {k : κ} {m : List (κ × ν)} (h : k ∉ m.map (·.1)) : mget m k = none := by
 unfold mget
 rw [List.find?_eq_none.2 fun p hp => by
  have : ¬ p.1 = k := fun e => h (e ▸ List.mem_map_of_mem hp)
  simp [this]]
 rfl
end Go.Proofs.YtkfdjkkbnfohjaaDoor
