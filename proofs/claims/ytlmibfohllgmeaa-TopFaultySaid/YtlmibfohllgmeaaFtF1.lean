/- Laws of plain functions, part 1. -/
import Derived.Test.YtlmibfohllgmeaaCodes
import Derived.Test.YtlmibfohllgmeaaYes
set_option maxRecDepth 8000
namespace Go.Proofs.Ytlmibfohllgmeaa
open Go.RowKit
open Classical
theorem Kd {α : Type} {Q : α → Prop} {c : Bool} {X Y : Option α} (hc : c = false) (h : Yes Y Q) : Yes (bif c then X else Y) Q := by rw [hc]; exact h
theorem Dm {α : Type} {Q : α → Prop} {c : Bool} {X Y : Option α} (hc : c = true) (h : Yes X Q) : Yes (bif c then X else Y) Q := by rw [hc]; exact h
theorem Qn {α β : Type} {Q : β → Prop} {x : Option α} {f : α → Option β} (a : α) (h : x = some a) (k : Yes (f a) Q) : Yes (x.bind f) Q := by rw [h]; exact k
theorem Yz {α : Type} {xs : List α} {i : Nat} (h : i < xs.length) : idx xs (i : Int) = some xs[i] := by unfold idx; rw [if_pos (Int.natCast_nonneg i)]; exact List.getElem?_eq_getElem h
theorem Ax {a b : Int} (ha : 0 ≤ a) (hb : 0 < b) : Yl a b = some (a % b) := by
 unfold Yl; rw [if_neg (by omega), Int.tmod_eq_emod_of_nonneg ha]
theorem Xo {α : Type} {xs : List α} {i : Nat} (h : i < xs.length) : xs.take (i + 1) = xs.take i ++ [xs[i]] := by
 rw [List.take_add_one, List.getElem?_eq_getElem h]; rfl
def btw (a b x : Int) : Bool := decide (a ≤ x ∧ x ≤ b)
theorem btw_iff {a b x : Int} : btw a b x = true ↔ a ≤ x ∧ x ≤ b := by simp [btw]
theorem c165 (xs : List Int) (φ : Int → Option Bool) (p : Int → Bool) (hl : xs.length < 9223372036854775807) (h : ∀ a ∈ xs, φ a = some (p a)) : f39 xs φ = some (xs.any p) :=
 Yes.eq (Yes.bind (Yes.mono (Ro xs φ p hl h) fun _ hr => Yes.some (Bn hr)))
theorem c250 (xs : List Gc) (φ : Gc → Option Bool) (p : Gc → Bool) (hl : xs.length < 9223372036854775807) (h : ∀ a ∈ xs, φ a = some (p a)) : f62 xs φ = some (xs.any p) :=
 Yes.eq (Yes.bind (Yes.mono (Ro xs φ p hl h) fun _ hr => Yes.some (Bn hr)))
theorem b192 (x a b : Int) : f40 x a b = some (!btw a b x) := by unfold f40 btw; by_cases h1 : x < a <;> by_cases h2 : x > b <;> simp [h1, h2] <;> omega
theorem Ip (a b : Int) (xs : List Int) (hl : xs.length < 9223372036854775807) (h : ∀ x ∈ xs, a ≤ x ∧ x ≤ b) : f20 a b xs = some true := by
 unfold f20
 rw [c165 xs _ (fun x => !btw a b x) hl fun x _ => b192 x a b]
 simp only [Option.bind_some, Option.some.injEq, Bool.not_eq_true', List.any_eq_false]
 exact fun x hx => by rw [btw_iff.2 (h x hx)]; simp
theorem Ns {n : Nat} (h : n ≤ 24) : Sj (1 : Int) (n : Int) = some ((2 ^ n : Nat) : Int) := by
 unfold Sj
 rw [if_neg (by omega), Int.toNat_natCast, show min n 64 = n by omega]
 have h1 : 2 ^ n ≤ 16777216 := Nat.pow_le_pow_right (n := 2) (by omega) h
 have h2 : (1 : Int) * 2 ^ n = ((2 ^ n : Nat) : Int) := by rw [Int.one_mul]; norm_cast
 rw [h2]
 generalize 2 ^ n = b at h1 ⊢
 rw [Qw (by omega) (by omega)]
theorem wu_id {n : Int} (h1 : 0 ≤ n) (h2 : n ≤ 9223372036854775807) : Qk n = n := by
 unfold Qk IntKind.wrap
 simp only [IntKind.bits, IntKind.signed]
 first
  | omega
  | (simp; omega)
theorem pow_rng {H : Nat} (h : H ≤ 12) : 1 ≤ 2 ^ H ∧ 2 ^ H ≤ 4096 := ⟨Nat.one_le_two_pow, Nat.pow_le_pow_right (n := 2) (by omega) h⟩
def DOk (H : Nat) (d : Qp) : Prop := d.Hooks = H ∧ (1 ≤ d.Rows.length ∧ d.Rows.length ≤ 30) ∧ ∀ r ∈ d.Rows, 0 ≤ r ∧ r < ((2 ^ H : Nat) : Int)
theorem first (i n m : Nat) (hi : i < max 1 (min n m)) : (bif ((i : Int) == (0 : Int)) then some (true) else bif (decide ((i : Int) < (n : Int))) then some ((decide ((i : Int) < (m : Int)))) else some (false)) = some true := by
 refine Yes.eq (Yes.cond (fun _ => Yes.some rfl) (fun hc => ?_))
 have h0 : ¬ (i : Int) = 0 := by simpa using hc
 exact Dm (decide_eq_true (by omega)) (Yes.some (decide_eq_true (by omega)))
theorem c11 (xs : List Int) (h : xs.length ≤ 1000) : f9 xs = some xs := by
 refine Yes.eq ?_
 unfold f9
 exact Yes.bind (Yes.apnd (by simp; omega) (by simp; omega) (Yes.some rfl))
def crd (rs : List Int) : List Gc := rs.mapIdx fun i r => ⟨i, r, false⟩
theorem Yc (rs : List Int) : (crd rs).length = rs.length := by simp [crd]
theorem La {rs : List Int} {i : Nat} (h : i < (crd rs).length) (h' : i < rs.length) : (crd rs)[i] = ⟨i, rs[i], false⟩ := by simp [crd]
theorem Ey (rs : List Int) (r : Int) : crd (rs ++ [r]) = crd rs ++ [⟨rs.length, r, false⟩] := by unfold crd; rw [List.mapIdx_concat]
theorem c109 {H : Nat} (h : 1 ≤ H ∧ H ≤ 12) : f17 (H : Int) = some true := by
 unfold f17
 rw [Ip _ _ _ (by simp) fun a ha => by rw [List.mem_singleton.1 ha]; omega]
 rfl
theorem c110 {H : Nat} (h : 1 ≤ H ∧ H ≤ 12) {xs : List Int} (hl : xs.length ≤ 1000) (hx : ∀ r ∈ xs, 0 ≤ r ∧ r < ((2 ^ H : Nat) : Int)) : f18 (H : Int) xs = some true := by
 have hp := pow_rng h.2
 refine Yes.eq ?_
 unfold f18
 refine Qn _ (Ns (by omega)) (Qn true (Ip _ _ _ (by omega) fun a ha => ?_) (Yes.some rfl))
 rw [Qw (by omega) (by omega)]
 have := hx a ha
 omega
theorem p42 {H : Nat} (hH : 1 ≤ H ∧ H ≤ 12) {d : Qp} (hd : DOk H d) : f4 d = some (⟨d.Hooks, crd d.Rows⟩, 0) := by
 obtain ⟨h1, h2, h3⟩ := hd
 refine Yes.eq ?_
 unfold f4
 refine Yes.jn (Qn true (by rw [h1]; exact c109 hH) (Kd rfl (Kd (decide_eq_false (by omega)) (Kd (beq_eq_false_iff_ne.2 (by omega)) (Qn true (by rw [h1]; exact c110 hH (by omega) h3) (Kd rfl ?_))))))
 refine Yes.bind (Yes.mono (Q' := fun m => m = ⟨d.Hooks, crd d.Rows⟩) ?_ fun m hm => Yes.some (by rw [hm]))
 refine Yes.upto d.Rows.length (by omega) (fun i m => m = ⟨d.Hooks, crd (d.Rows.take i)⟩) rfl (fun i m k hi hI hk => ?_) (fun m k hI => Kd (decide_eq_false (by omega)) (Yes.some (by rw [hI, List.take_length])))
 subst hI
 have hl : (crd (d.Rows.take i)).length = i := by rw [Yc]; simp; omega
 refine Dm (decide_eq_true (by omega)) (Yes.bind (Qn _ (Yz hi) (Yes.bind (Yes.apnd (by simp only [hl]; simp; omega) (by simp only [hl]; simp; omega) (Yes.some (hk _ ?_))))))
 rw [Xo hi, Ey, List.length_take, show min i d.Rows.length = i by omega]
def BOk (H : Nat) (b : ChainBelt) : Prop := b.Hooks = H ∧ (1 ≤ b.Cards.length ∧ b.Cards.length ≤ 30) ∧ ∀ c ∈ b.Cards, (0 ≤ c.Number ∧ c.Number ≤ 59) ∧ 0 ≤ c.Row ∧ c.Row < ((2 ^ H : Nat) : Int)
theorem c59 {H : Nat} {b : ChainBelt} (h : BOk H b) : f8 b = some b := by
 have := h.2.1
 refine Yes.eq ?_
 unfold f8
 exact Yes.bind (Yes.apnd (by simp; omega) (by simp; omega) (Yes.some rfl))
theorem c111 {H : Nat} (hH : 1 ≤ H ∧ H ≤ 12) {b : ChainBelt} (h : BOk H b) : f19 b = some (⟨b, b.Hooks⟩, 0) := by
 obtain ⟨h1, h2, h3⟩ := h
 refine Yes.eq ?_
 unfold f19
 have t1 : ∀ x y z : Int, x ≤ z → z ≤ y → ∀ a ∈ ([z] : List Int), x ≤ a ∧ a ≤ y := fun x y z h1 h2 a ha => by rw [List.mem_singleton.1 ha]; exact ⟨h1, h2⟩
 have h249 : ∀ c ∈ b.Cards, f61 c (H : Int) = some false := fun c hc => by
  have hc := h3 c hc
  refine Yes.eq ?_
  unfold f61
  refine Yes.bind (Qn true (Ip _ _ _ (by simp) (t1 _ _ _ (by omega) (by omega))) (Kd rfl (Qn true (c110 hH (by simp) fun r hr => ?_) (Yes.some (Yes.some rfl)))))
  rw [List.mem_singleton.1 hr]; exact hc.2
 have h191 : f38 (H : Int) b.Cards = some true := by
  refine Yes.eq ?_
  unfold f38
  refine Yes.bind (Dm (decide_eq_true (by omega)) (Qn _ (c250 b.Cards _ (fun _ => false) (by omega) h249) (Yes.some (Yes.some ?_))))
  simp
 refine Yes.jn (Qn true (by rw [h1]; exact c109 hH) (Kd rfl (Kd (decide_eq_false (by omega)) (Qn true (by rw [h1]; exact h191) (Kd rfl (Yes.some rfl))))))
def un (c : Gc) : Gc := { c with Turned := false }
theorem bok_of {H : Nat} {rs : List Int} (hl : 1 ≤ rs.length ∧ rs.length ≤ 30) (hr : ∀ r ∈ rs, 0 ≤ r ∧ r < ((2 ^ H : Nat) : Int)) {b : ChainBelt} (h1 : b.Hooks = H) (hp : (b.Cards.map un).Perm (crd rs)) : BOk H b := by
 have hlen : b.Cards.length = rs.length := by have := hp.length_eq; rw [List.length_map, Yc] at this; exact this
 refine ⟨h1, by omega, fun c hc => ?_⟩
 have hm : un c ∈ crd rs := hp.mem_iff.1 (List.mem_map_of_mem hc)
 obtain ⟨i, hi, he⟩ := List.getElem_of_mem hm
 have hi' : i < rs.length := by rw [Yc] at hi; exact hi
 rw [La hi hi'] at he
 have e1 : c.Number = (i : Int) := congrArg Gc.Number he.symm
 have e2 : c.Row = rs[i] := congrArg Gc.Row he.symm
 rw [e1, e2]
 exact ⟨by omega, hr _ (List.getElem_mem hi')⟩
theorem g59 {xs : List (List Int)} (h : xs.length ≤ 1000) : f46 xs = some xs.reverse := by
 refine Yes.eq ?_
 unfold f46
 rw [Qw (n := (xs.length : Int) - 1) (by omega) (by omega)]
 refine Yes.lp (fun s => ∃ i : Nat, s.2.1 = i ∧ s.2.2 = (xs.length : Int) - 1 - i ∧ i ≤ xs.length ∧ s.1.length = xs.length ∧ ∀ k (h1 : k < s.1.length) (h2 : k < xs.length), s.1[k] = if k < i ∨ xs.length < k + i + 1 then xs[xs.length - 1 - k]'(by omega) else xs[k]) (fun s => xs.length - s.2.1.toNat)
  ⟨0, rfl, by show (xs.length : Int) - 1 = _; omega, by omega, rfl, fun k h1 h2 => by rw [if_neg (by omega)]⟩ (by show xs.length - _ < _; omega) ?_
 rintro ⟨m, a, b⟩ k ⟨i, e1, e2, e3, e4, e5⟩ hk
 simp only at e1 e2 e4 e5
 subst e1; subst e2
 refine Yes.jn (Yes.cond (fun hc => ?_) (fun hc => Yes.some ?_))
 ·have hc : (i : Int) < (xs.length : Int) - 1 - i := of_decide_eq_true hc
  obtain ⟨q, hq⟩ : ∃ q : Nat, (xs.length : Int) - 1 - i = q := ⟨xs.length - 1 - i, by omega⟩
  rw [hq]
  have hqm : q < m.length := by omega
  have him : i < m.length := by omega
  refine Yes.bind (Qn _ (Yz hqm) (Qn _ (Yz him) (Qn _ (Yz him) (Qn _ (Yz (xs := m.set (Int.toNat (i : Int)) m[q]) (i := q) (by rw [List.length_set]; exact hqm)) (Yes.some (hk _ ⟨i + 1, ?_, ?_, by omega, ?_, fun k h1 h2 => ?_⟩ ?_))))))
  ·show w64 ((i : Int) + 1) = _; rw [Qw (by omega) (by omega)]; simp
  ·show w64 ((q : Int) - 1) = _; rw [Qw (by omega) (by omega)]; omega
  ·show ((m.set _ _).set _ _).length = _; rw [List.length_set, List.length_set]; exact e4
  ·show ((m.set i m[q]).set q m[i])[k] = _
   rw [List.getElem_set]
   by_cases hqk : q = k
   ·subst hqk
    rw [if_pos rfl, e5 i him (by omega), if_neg (by omega), if_pos (by omega)]
    congr 1
    omega
   ·rw [if_neg hqk, List.getElem_set]
    by_cases hik : i = k
    ·subst hik
     rw [if_pos rfl, e5 q hqm (by omega), if_neg (by omega), if_pos (by omega)]
     congr 1
     omega
    ·rw [if_neg hik, e5 k (by omega) h2]
     by_cases hh : k < i ∨ xs.length < k + i + 1
     ·rw [if_pos hh, if_pos (by omega)]
     ·rw [if_neg hh, if_neg (by omega)]
  ·show xs.length - (w64 ((i : Int) + 1)).toNat < xs.length - (i : Int).toNat
   rw [Qw (by omega) (by omega)]; omega
 ·have hc : ¬ (i : Int) < (xs.length : Int) - 1 - i := of_decide_eq_false hc
  apply List.ext_getElem (by rw [List.length_reverse]; exact e4)
  intro k h1 h2
  have hk2 : k < xs.length := by omega
  rw [List.getElem_reverse, e5 k h1 hk2]
  split
  ·rfl
  ·congr 1; omega
theorem Eb {xs : List Int} {n : Nat} (h : n ≤ xs.length) : cut xs 0 (n : Int) = some (xs.take n) := by unfold cut; rw [if_pos ⟨by omega, by omega, by omega⟩]; simp
theorem On {xs : List Int} {n : Nat} (h : n ≤ xs.length) : cut xs (n : Int) (xs.length : Int) = some (xs.drop n) := by unfold cut; rw [if_pos ⟨by omega, by omega, by omega⟩]; simp
theorem mul_all : (List.range 31).all (fun n => decide (f66 ⟨1⟩ ⟨(n : Int)⟩ = some (⟨0⟩, ⟨(n : Int)⟩))) = true := by kernel_rfl
theorem mul_is {n : Nat} (h : n ≤ 30) : f66 ⟨1⟩ ⟨(n : Int)⟩ = some (⟨0⟩, ⟨(n : Int)⟩) := of_decide_eq_true (List.all_eq_true.1 mul_all n (List.mem_range.2 (by omega)))
theorem g43 {v : Int} {n : Nat} (h1 : 1 ≤ n) (h2 : n ≤ 30) : f44 [v] (n : Int) = some (List.replicate n v) := by
 refine Yes.eq ?_
 unfold f44
 refine Yes.bind (Kd (decide_eq_false (by omega)) (Yes.some ?_))
 rw [wu_id (n := (([v] : List Int).length : Int)) (by simp) (by simp), wu_id (n := (n : Int)) (by omega) (by omega)]
 have hm : f66 ⟨(([v] : List Int).length : Int)⟩ ⟨(n : Int)⟩ = some (⟨0⟩, ⟨(n : Int)⟩) := mul_is h2
 refine Qn _ hm (Yes.bind (Yes.bind (Kd rfl (Yes.some (Kd (decide_eq_false (by show ¬ (n : Int) > _; omega)) (Yes.some ?_))))))
 rw [Qw (n := (n : Int)) (by omega) (by omega)]
 have hk : mks 8 (0 : Int) (n : Int) = some (List.replicate n 0) := by
  unfold mks
  rw [if_pos ⟨by omega, by omega, by omega⟩]
  congr 2
 refine Qn _ hk (Yes.bind (Yes.mono (Q' := fun r => r = List.replicate n v) ?_ fun r hr => Yes.some hr))
 refine Yes.lp (fun s => ∃ c : Nat, s.2 = c ∧ 1 ≤ c ∧ c ≤ n ∧ s.1.length = n ∧ ∀ k, k < c → s.1[k]? = some v) (fun s => n - s.2.toNat) ⟨1, ?_, by omega, h1, ?_, fun k hk => ?_⟩ (by show n - _ < _; omega) ?_
 ·show ((min (([v] : List Int)).length (List.replicate n (0 : Int)).length : Nat) : Int) = _
  simp; omega
 ·show (cpy _ 0 _ _).length = n
  unfold cpy; simp; omega
 ·obtain rfl : k = 0 := by omega
  show (cpy _ 0 _ _)[0]? = some v
  unfold cpy
  simp only [Int.toNat_zero, List.take_zero, List.nil_append, List.length_singleton, List.length_replicate]
  rw [show min 1 n = 1 by omega]
  rfl
 ·rintro ⟨m, b⟩ k ⟨c, e1, c1, c2, c3, c4⟩ hk
  simp only at e1 c3 c4
  subst e1
  refine Yes.jn (Yes.cond (fun hc => ?_) (fun hc => Yes.some ?_))
  ·have hc : (c : Int) < (m.length : Int) := of_decide_eq_true hc
   refine Qn _ (On (by omega)) (Qn _ (Eb (by omega)) (hk _ ⟨c + min c (n - c), ?_, by omega, by omega, ?_, fun q hq => ?_⟩ ?_))
   ·show w64 _ = _
    rw [Qw (by simp; omega) (by simp; omega)]
    simp; omega
   ·show (cpy m (c : Int) _ _).length = n
    unfold cpy; simp; omega
   ·show (cpy m (c : Int) (m.drop c) (m.take c))[q]? = some v
    unfold cpy
    rw [Int.toNat_natCast]
    by_cases hqc : q < c
    ·rw [List.getElem?_append_left (by simp; omega), List.getElem?_take_of_lt hqc]
     exact c4 q hqc
    ·rw [List.getElem?_append_right (by simp; omega), List.getElem?_append_left (by simp; omega), List.getElem?_take_of_lt (by simp; omega), List.getElem?_take_of_lt (by simp; omega)]
     exact c4 _ (by simp; omega)
   ·show n - (w64 _).toNat < n - (c : Int).toNat
    rw [Qw (by simp; omega) (by simp; omega)]
    simp; omega
  ·have hc : ¬ (c : Int) < (m.length : Int) := of_decide_eq_false hc
   have : c = n := by omega
   subst this
   refine List.eq_replicate_iff.2 ⟨c3, fun b hb => ?_⟩
   obtain ⟨q, hq, rfl⟩ := List.getElem_of_mem hb
   have := c4 q (by omega)
   rw [List.getElem?_eq_getElem hq] at this
   exact Option.some.inj this
def fa (s : Nat) : Nat := if s = 1 then 0 else 1
theorem g39 (s : Nat) : f27 (s : Int) = some ((fa s : Nat) : Int) := by
 refine Yes.eq ?_
 unfold f27 fa
 refine Yes.jn (Yes.cond (fun hc => Yes.some ?_) (fun hc => Yes.some ?_))
 ·have : (s : Int) = 1 := beq_iff_eq.1 hc
  rw [if_pos (by omega)]; rfl
 ·have : ¬ (s : Int) = 1 := by simpa using hc
  rw [if_neg (by omega)]; rfl
def G (R : List Int) : List Int → Nat → Nat
 | [], _ => 0
 | c :: cs, a => if c = R.getD a 0 then min (min (min 1048576 (fa 0 + G R cs ((a + 0) % R.length))) (fa 1 + G R cs ((a + 1) % R.length))) (fa 2 + G R cs ((a + 2) % R.length)) else 1048576
theorem G_le (R : List Int) : ∀ (cs : List Int) (a : Nat), G R cs a ≤ 1048576
 | [], _ => by unfold G; omega
 | c :: cs, a => by unfold G; split <;> omega
def Gs (R : List Int) (c : Int) (cs : List Int) (a : Nat) : Nat → Nat
 | 0 => 1048576
 | s + 1 => if c = R.getD a 0 then min (Gs R c cs a s) (fa s + G R cs ((a + s) % R.length)) else Gs R c cs a s
theorem Gs_3 {R : List Int} {c : Int} {cs : List Int} {a : Nat} : Gs R c cs a 3 = G R (c :: cs) a := by
 unfold G
 by_cases h : c = R.getD a 0
 ·simp only [Gs, if_pos h]
 ·simp only [Gs, if_neg h]
theorem Gs_le {R : List Int} {c : Int} {cs : List Int} {a : Nat} : ∀ s, Gs R c cs a s ≤ 1048576
 | 0 => by simp [Gs]
 | s + 1 => by
  have := Gs_le (R := R) (c := c) (cs := cs) (a := a) s
  unfold Gs; split <;> omega
def T (R cs : List Int) : List Int := (List.range R.length).map fun a => ((G R cs a : Nat) : Int)
theorem Bg {R cs : List Int} : (T R cs).length = R.length := by simp [T]
theorem Nr {R cs : List Int} {a : Nat} (h : a < (T R cs).length) : (T R cs)[a] = ((G R cs a : Nat) : Int) := by simp [T]
theorem Ex {H : Int} {R : List Int} {a : Nat} (ha : a < R.length) : f21 ⟨⟨H, crd R⟩, H⟩ (a : Int) = some R[a] := by
 have hl : a < (crd R).length := by rw [Yc]; exact ha
 refine Yes.eq ?_
 unfold f21
 refine Yes.jn (Qn _ (Yz hl) ?_)
 rw [La hl ha]
 exact Kd rfl (Qn _ (Yz hl) (Yes.some (by rw [La hl ha])))
theorem Sz {H : Int} {R : List Int} {a s : Nat} (ha : a < R.length) (hn : R.length ≤ 30) (hs : s ≤ 2) : f22 ⟨⟨H, crd R⟩, H⟩ (a : Int) (s : Int) = some (((a + s) % R.length : Nat) : Int) := by
 refine Yes.eq ?_
 unfold f22
 rw [Qw (n := (a : Int) + s) (by omega) (by omega)]
 show Yes ((Yl _ ((crd R).length : Int)).bind _) _
 rw [Yc]
 refine Qn _ (Ax (by omega) (by omega)) (Yes.some ?_)
 norm_cast
theorem Ik {H : Int} {R C : List Int} (hC : ∀ c ∈ C, 0 ≤ c) {p a : Nat} (hp : p < C.length) (ha : a < R.length) : f45 ⟨⟨⟨H, crd R⟩, H⟩, C⟩ (p : Int) (a : Int) = some (decide (C[p] = R.getD a 0)) := by
 have h0 := hC _ (List.getElem_mem hp)
 refine Yes.eq ?_
 unfold f45
 refine Yes.bind (Qn _ (Yz hp) (Kd (beq_eq_false_iff_ne.2 (by omega)) (Qn _ (Yz hp) (Qn _ (Ex ha) (Yes.some (Yes.some ?_))))))
 rw [List.getD_eq_getElem?_getD, List.getElem?_eq_getElem ha]
 rfl
theorem row_z {H : Int} {R C : List Int} (hC : ∀ c ∈ C, 0 ≤ c) (hn : 1 ≤ R.length ∧ R.length ≤ 30) {p : Nat} (hp : p < C.length) {now : List Int} (hnow : now = T R (C.drop (p + 1))) :
    Yes (lp (σ := (List Int) × Int) (fun k1738 (m6_1739, s31_1739) =>
          bif (decide (s31_1739 < (((List.replicate R.length (1048576 : Int))).length : Int))) then
            Option.bind (α := (List Int)) (
              lp (σ := (List Int) × Int) (fun k1857 (m6_1858, s34_1858) =>
                bif (decide (s34_1858 < (3 : Int))) then
                  Option.bind (α := (List Int)) (
                    (f45 ⟨⟨⟨H, crd R⟩, H⟩, C⟩ (p : Int) s31_1739).bind fun y1918 =>
                    bif y1918 then
                      (idx m6_1858 s31_1739).bind fun y1920 =>
                      (f27 s34_1858).bind fun y1923 =>
                      (f22 ⟨⟨H, crd R⟩, H⟩ s31_1739 s34_1858).bind fun y1928 =>
                      (idx now y1928).bind fun y1929 =>
                      (idx m6_1858 s31_1739).bind fun y1932 =>
                      some ((List.set m6_1858 (Int.toNat s31_1739) ((Ha y1920 (w64 (y1923 + y1929))))))
                    else
                      some (m6_1858)
                    ) fun m6_1972 =>
                  k1857 (m6_1972, (w64 (s34_1858 + (1 : Int))))
                else
                  some (m6_1858)
                ) big (m6_1739, (0 : Int))
              ) fun m6_1973 =>
            k1738 (m6_1973, (w64 (s31_1739 + (1 : Int))))
          else
            some (m6_1739)
          ) big (List.replicate R.length (1048576 : Int), (0 : Int))) (fun m => m = T R (C.drop p)) := by
  have hd : C.drop p = C[p] :: C.drop (p + 1) := List.drop_eq_getElem_cons hp
  refine Yes.upto R.length (by omega) (fun a m => m.length = R.length ∧ ∀ k (h : k < m.length), m[k] = if k < a then ((G R (C.drop p) k : Nat) : Int) else 1048576) ⟨by simp, fun k h => by simp⟩ (fun a m k ha hI hk => ?_) (fun m k hI => Kd (decide_eq_false (by simp)) (Yes.some ?_))
  · obtain ⟨i1, i2⟩ := hI
    refine Dm (decide_eq_true (by simp; omega)) (Yes.bind (Yes.mono (Q' := fun m' => m'.length = R.length ∧ ∀ k (h : k < m'.length), m'[k] = if k = a then ((Gs R C[p] (C.drop (p + 1)) a 3 : Nat) : Int) else if k < a then ((G R (C.drop p) k : Nat) : Int) else 1048576) ?_ fun m' hm' => hk _ ⟨hm'.1, fun k h => ?_⟩))
    · refine Yes.upto 3 (by omega) (fun s m' => m'.length = R.length ∧ ∀ k (h : k < m'.length), m'[k] = if k = a then ((Gs R C[p] (C.drop (p + 1)) a s : Nat) : Int) else if k < a then ((G R (C.drop p) k : Nat) : Int) else 1048576) ⟨i1, fun k h => ?_⟩ (fun s m' k2 hs hJ hk2 => ?_) (fun m' k2 hJ => Kd rfl (Yes.some hJ))
      · rw [i2 k h]
        by_cases hka : k = a
        · subst hka; rw [if_neg (by omega), if_pos rfl]; rfl
        · rw [if_neg hka]
      · obtain ⟨j1, j2⟩ := hJ
        have ham : a < m'.length := by omega
        have haf : (a + s) % R.length < now.length := by rw [hnow, Bg]; exact Nat.mod_lt _ (by omega)
        refine Dm (decide_eq_true (by omega)) (Yes.bind (Qn _ (Ik hC hp ha) (Yes.cond (fun hc => ?_) (fun hc => Yes.some (hk2 _ ⟨j1, fun k h => ?_⟩)))))
        · have hc : C[p] = R.getD a 0 := of_decide_eq_true hc
          refine Qn _ (Yz ham) (Qn _ (g39 s) (Qn _ (Sz ha hn.2 (by omega)) (Qn _ (Yz haf) (Qn _ (Yz ham) (Yes.some (hk2 _ ⟨?_, fun k h => ?_⟩))))))
          · show (m'.set _ _).length = _; rw [List.length_set]; exact j1
          · show (m'.set a _)[k] = _
            have hh : k < m'.length := by have h : k < (m'.set a _).length := h; rw [List.length_set] at h; exact h
            rw [List.getElem_set]
            by_cases hka : a = k
            · subst hka
              have g1 := Gs_le (R := R) (c := C[p]) (cs := C.drop (p + 1)) (a := a) s
              have g2 := G_le R (C.drop (p + 1)) ((a + s) % R.length)
              have g3 : fa s ≤ 1 := by unfold fa; split <;> omega
              have e1 : now[(a + s) % R.length] = ((G R (C.drop (p + 1)) ((a + s) % R.length) : Nat) : Int) := by simp only [hnow]; exact Nr _
              rw [if_pos rfl, if_pos rfl, j2 a ham, if_pos rfl, e1, Qw (by omega) (by omega)]
              show Ha _ _ = ((Gs R C[p] (C.drop (p + 1)) a (s + 1) : Nat) : Int)
              rw [show Gs R C[p] (C.drop (p + 1)) a (s + 1) = if C[p] = R.getD a 0 then min (Gs R C[p] (C.drop (p + 1)) a s) (fa s + G R (C.drop (p + 1)) ((a + s) % R.length)) else Gs R C[p] (C.drop (p + 1)) a s from rfl, if_pos hc]
              unfold Ha
              omega
            · have : ¬ k = a := fun e => hka e.symm
              rw [if_neg hka, if_neg this, j2 k hh, if_neg this]
        · have hc : ¬ C[p] = R.getD a 0 := of_decide_eq_false hc
          rw [j2 k h]
          by_cases hka : k = a
          · rw [if_pos hka, if_pos hka, show Gs R C[p] (C.drop (p + 1)) a (s + 1) = if C[p] = R.getD a 0 then min (Gs R C[p] (C.drop (p + 1)) a s) (fa s + G R (C.drop (p + 1)) ((a + s) % R.length)) else Gs R C[p] (C.drop (p + 1)) a s from rfl, if_neg hc]
          · rw [if_neg hka, if_neg hka]
    · rw [hm'.2 k h]
      by_cases hka : k = a
      · subst hka; rw [if_pos rfl, if_pos (by omega), Gs_3, hd]
      · rw [if_neg hka]
        by_cases hlt : k < a
        · rw [if_pos hlt, if_pos (by omega)]
        · rw [if_neg hlt, if_neg (by omega)]
  · obtain ⟨i1, i2⟩ := hI
    apply List.ext_getElem (by rw [i1, Bg])
    intro k h1 h2
    rw [i2 k h1, if_pos (by omega), Nr]
theorem T_nil {R : List Int} : T R [] = List.replicate R.length 0 := by
 refine List.eq_replicate_iff.2 ⟨Bg, fun b hb => ?_⟩
 obtain ⟨k, hk, rfl⟩ := List.getElem_of_mem hb
 rw [Nr]; rfl
theorem g36 {H : Int} {R C : List Int} (hC : ∀ c ∈ C, 0 ≤ c) (hn : 1 ≤ R.length ∧ R.length ≤ 30) (hCl : C.length ≤ 60) :
  Yes (f24 ⟨⟨⟨H, crd R⟩, H⟩, C⟩) (fun L => L.length = C.length + 1 ∧ ∀ p (h : p < L.length), L[p] = T R (C.drop p)) := by
 unfold f24 f43
 have hcl := Yc R
 have hk : mks 8 (0 : Int) ((crd R).length : Int) = some (T R []) := by
  unfold mks
  rw [if_pos ⟨by omega, by omega, by omega⟩, T_nil, hcl]
  congr 2
 refine Qn _ hk (Yes.bind (Yes.bind (Yes.mono (Q' := fun r : List Int × List (List Int) => r.2.length = C.length + 1 ∧ ∀ q (h : q < r.2.length), r.2[q] = T R (C.drop (C.length - q))) ?_ fun r hr => Yes.some ?_)))
 ·unfold f65
  rw [Qw (n := (C.length : Int) - 1) (by omega) (by omega)]
  refine Yes.lp (fun s => ∃ j : Nat, s.2 = (j : Int) - 1 ∧ j ≤ C.length ∧ s.1.1 = T R (C.drop j) ∧ s.1.2.length = C.length - j + 1 ∧ ∀ q (h : q < s.1.2.length), s.1.2[q] = T R (C.drop (C.length - q))) (fun s => (s.2 + 1).toNat)
   ⟨C.length, rfl, Nat.le_refl _, by simp, by simp, fun q h => ?_⟩ (by show ((C.length : Int) - 1 + 1).toNat < _; omega) ?_
  ·have h : q < 1 := h
   obtain rfl : q = 0 := by omega
   simp
  rintro ⟨⟨now, out⟩, i⟩ k ⟨j, e1, e2, e3, e4, e5⟩ hk
  simp only at e1 e3 e4 e5
  subst e1
  refine Yes.jn (Yes.cond (fun hc => ?_) (fun hc => Yes.some ?_))
  ·have hc : (j : Int) - 1 ≥ 0 := of_decide_eq_true hc
   obtain ⟨p, rfl⟩ : ∃ p, j = p + 1 := ⟨j - 1, by omega⟩
   have hp : p < C.length := by omega
   have ep : ((p + 1 : Nat) : Int) - 1 = (p : Int) := by omega
   rw [ep]
   have h43 : f44 [1048576] ((crd R).length : Int) = some (List.replicate R.length 1048576) := by rw [hcl]; exact g43 hn.1 hn.2
   refine Yes.jn (Qn _ (Yz hp) (Yes.bind (Qn _ h43 (Yes.bind ((row_z (H := H) hC hn hp e3).mono fun m hm => Yes.bind (Yes.apnd (by rw [e4]; simp; omega) (by rw [e4]; simp; omega) (Yes.some (Kd rfl (hk _ ⟨p, ?_, by omega, hm, ?_, fun q h => ?_⟩ ?_)))))))))
   ·show w64 ((p : Int) - 1) = _; rw [Qw (by omega) (by omega)]
   ·show (out ++ [m]).length = _; rw [List.length_append, e4]; simp; omega
   ·show (out ++ [m])[q] = _
    have h : q < (out ++ [m]).length := h
    by_cases hq : q < out.length
    ·rw [List.getElem_append_left hq]; exact e5 q hq
    ·have : q = out.length := by rw [List.length_append] at h; simp at h; omega
     subst this
     rw [List.getElem_append_right (by omega)]
     simp only [Nat.sub_self, List.getElem_singleton]
     rw [hm, show C.length - out.length = p by omega]
   ·show (w64 ((p : Int) - 1) + 1).toNat < (((p + 1 : Nat) : Int) - 1 + 1).toNat
    rw [Qw (by omega) (by omega)]; omega
  ·have hc : ¬ (j : Int) - 1 ≥ 0 := of_decide_eq_false hc
   exact ⟨by show out.length = _; omega, e5⟩
 ·obtain ⟨r1, r2⟩ := hr
  refine Qn _ (g59 (by omega)) (Yes.some ⟨by rw [List.length_reverse]; exact r1, fun p h => ?_⟩)
  have h : p < r.2.reverse.length := h
  rw [List.length_reverse] at h
  rw [List.getElem_reverse, r2]
  congr 2
  omega
def wk (R : List Int) : Nat → List Nat → List Int
 | _, [] => []
 | a, s :: ss => R.getD a 0 :: wk R ((a + s) % R.length) ss
def ep (n : Nat) : Nat → List Nat → Nat
 | a, [] => a
 | a, s :: ss => ep n ((a + s) % n) ss
def fs (ss : List Nat) : Nat := (ss.map fa).sum
theorem Ft {R : List Int} : ∀ {ss : List Nat} {a s : Nat}, wk R a (ss ++ [s]) = wk R a ss ++ [R.getD (ep R.length a ss) 0]
 | [], _, _ => rfl
 | t :: ss, a, s => by rw [List.cons_append, wk, wk, ep, Ft]; rfl
theorem Rc {n : Nat} : ∀ {ss : List Nat} {a s : Nat}, ep n a (ss ++ [s]) = (ep n a ss + s) % n
 | [], _, _ => rfl
 | t :: ss, a, s => by rw [List.cons_append, ep, ep, Rc]
theorem At {R : List Int} : ∀ {ss : List Nat} {a : Nat}, (wk R a ss).length = ss.length
 | [], _ => rfl
 | t :: ss, a => by rw [wk, List.length_cons, At]; rfl
theorem En {n : Nat} (hn : 0 < n) : ∀ {ss : List Nat} {a : Nat}, a < n → ep n a ss < n
 | [], _, h => h
 | t :: ss, a, _ => by rw [ep]; exact En hn (Nat.mod_lt _ hn)
theorem Er {R : List Int} : ∀ (ss : List Nat) (a : Nat), (∀ s ∈ ss, s ≤ 2) → G R (wk R a ss) a ≤ fs ss
 | [], a, _ => by rw [wk, G]; omega
 | s :: ss, a, h => by
  have ih := Er (R := R) ss ((a + s) % R.length) fun t ht => h t (List.mem_cons_of_mem _ ht)
  have hs := h s (by simp)
  have hf : fs (s :: ss) = fa s + fs ss := by simp [fs]
  rw [wk, G, if_pos rfl, hf]
  rcases (by omega : s = 0 ∨ s = 1 ∨ s = 2) with rfl | rfl | rfl <;> omega
theorem g11 {H : Nat} (hH : 1 ≤ H ∧ H ≤ 12) {R : List Int} (hb : BOk H ⟨H, crd R⟩) {a : Nat} (ha : a < R.length) {ss : List Nat} (hs : ∀ s ∈ ss, s ≤ 2) (hl : ss.length ≤ 60) :
  f7 ⟨H, crd R⟩ (a : Int) (ss.map fun s : Nat => (s : Int)) = some (wk R a ss, ((ep R.length a ss : Nat) : Int), 0) := by
 have h2 := hb.2.1
 have hcl := Yc R
 have h2 : 1 ≤ (crd R).length ∧ (crd R).length ≤ 30 := h2
 refine Yes.eq ?_
 unfold f7
 refine Qn _ (c111 hH hb) (Yes.jn (Kd rfl (Qn true (Ip _ _ _ (by simp) fun x hx => ?_) (Kd rfl (Kd (decide_eq_false (by rw [List.length_map]; omega)) (Qn true (Ip _ _ _ (by rw [List.length_map]; omega) fun x hx => ?_) (Kd rfl ?_)))))))
 ·rw [List.mem_singleton.1 hx]
  show 0 ≤ (a : Int) ∧ (a : Int) ≤ w64 (((crd R).length : Int) - 1)
  rw [Qw (by omega) (by omega)]; omega
 ·obtain ⟨s, h, rfl⟩ := List.mem_map.1 hx
  have := hs s h
  omega
 refine Yes.bind (Yes.mono (Q' := fun r => r = (wk R a ss, ((ep R.length a ss : Nat) : Int))) ?_ fun r hr => Yes.some (by rw [hr]))
 refine Yes.upto2 ss.length (by omega) (fun i rows b => rows = wk R a (ss.take i) ∧ b = ((ep R.length a (ss.take i) : Nat) : Int)) ⟨rfl, rfl⟩ (fun i rows b k hi hI hk => ?_) (fun rows b k hI => ?_)
 ·obtain ⟨i1, i2⟩ := hI
  have hil : i < (ss.map fun s : Nat => (s : Int)).length := by rw [List.length_map]; exact hi
  have hpos := En (n := R.length) (by omega) (ss := ss.take i) ha
  have hrl : rows.length = i := by rw [i1, At]; simp; omega
  have hs2 := hs _ (List.getElem_mem hi)
  subst i2
  refine Dm (decide_eq_true (by rw [List.length_map]; omega)) (Yes.bind (Qn ((ss[i] : Nat) : Int) (by rw [Yz hil]; simp) (Qn _ (Ex hpos) (Yes.bind (Yes.apnd (by rw [hrl]; simp; omega) (by rw [hrl]; simp; omega) (Qn _ (Sz hpos (by omega) hs2) (Yes.some (hk _ _ ⟨?_, ?_⟩))))))))
  ·rw [i1, Xo hi, Ft, List.getD_eq_getElem?_getD, List.getElem?_eq_getElem hpos]; rfl
  ·rw [Xo hi, Rc]
 ·obtain ⟨i1, i2⟩ := hI
  rw [List.take_length] at i1 i2
  exact Kd (decide_eq_false (by rw [List.length_map]; omega)) (Yes.some (by rw [i1, i2]))
theorem g37 {xs : List Int} (h1 : 1 ≤ xs.length) (h2 : xs.length ≤ 1000) : Yes (f25 xs) (fun m => m ∈ xs ∧ ∀ x ∈ xs, m ≤ x) := by
 unfold f25
 refine Yes.bind (Kd (decide_eq_false (by omega)) (Yes.some (Qn _ (Yz (i := 0) h1) (Yes.bind (Yes.mono (Q' := fun m => m ∈ xs ∧ ∀ x ∈ xs, m ≤ x) ?_ fun m hm => Yes.some hm)))))
 refine Yes.lp (fun s => ∃ i : Nat, s.2 = i ∧ 1 ≤ i ∧ i ≤ xs.length ∧ s.1 ∈ xs ∧ ∀ q (hq : q < xs.length), q < i → s.1 ≤ xs[q]) (fun s => xs.length - s.2.toNat) ⟨1, rfl, by omega, h1, List.getElem_mem h1, fun q hq h => (by
  have e : q = 0 := (by omega)
  subst e
  exact Int.le_refl _)⟩ (by show xs.length - _ < _; omega) ?_
 rintro ⟨m, b⟩ k ⟨i, e1, e2, e3, e4, e5⟩ hk
 simp only at e1 e4 e5
 subst e1
 refine Yes.jn (Yes.cond (fun hc => ?_) (fun hc => Yes.some ⟨e4, fun x hx => ?_⟩))
 ·have hc : (i : Int) < (xs.length : Int) := of_decide_eq_true hc
  have hi : i < xs.length := by omega
  have hmin : Ha m xs[i] = m ∨ Ha m xs[i] = xs[i] := by unfold Ha; split <;> simp
  have hle : Ha m xs[i] ≤ m ∧ Ha m xs[i] ≤ xs[i] := by unfold Ha; split <;> omega
  refine Yes.bind (Qn _ (Yz hi) (Yes.some (hk _ ⟨i + 1, ?_, by omega, by omega, ?_, fun q hq hlt => ?_⟩ ?_)))
  ·show w64 ((i : Int) + 1) = _; rw [Qw (by omega) (by omega)]; simp
  ·show Ha m xs[i] ∈ xs
   rcases hmin with h | h <;> rw [h]
   ·exact e4
   ·exact List.getElem_mem hi
  ·show Ha m xs[i] ≤ xs[q]
   rcases (by omega : q < i ∨ q = i) with h | rfl
   ·have := e5 q hq h; omega
   ·exact hle.2
  ·show xs.length - (w64 ((i : Int) + 1)).toNat < xs.length - (i : Int).toNat
   rw [Qw (by omega) (by omega)]; omega
 ·have hc : ¬ (i : Int) < (xs.length : Int) := of_decide_eq_false hc
  obtain ⟨q, hq, rfl⟩ := List.getElem_of_mem hx
  exact e5 q hq (by omega)
theorem g38 {xs : List Int} {v : Int} (h : v ∈ xs) (h2 : xs.length ≤ 1000) : Yes (f26 xs v) (fun r => ∃ i : Nat, r = i ∧ ∃ hi : i < xs.length, xs[i] = v) := by
 unfold f26
 refine Yes.jn (Yes.lp (fun s => ∃ i : Nat, s = i ∧ i ≤ xs.length ∧ ∀ q (hq : q < xs.length), q < i → xs[q] ≠ v) (fun s => xs.length - s.toNat) ⟨0, rfl, by omega, fun q hq h => absurd h (Nat.not_lt_zero _)⟩ (by show xs.length - _ < _; omega) ?_)
 rintro _ k ⟨i, rfl, e2, e3⟩ hk
 refine Yes.cond (fun hc => ?_) (fun hc => ?_)
 ·have hc : (i : Int) < (xs.length : Int) := of_decide_eq_true hc
  have hi : i < xs.length := by omega
  refine Yes.jn (Qn _ (Yz hi) (Yes.cond (fun he => Yes.some ⟨i, rfl, hi, (beq_iff_eq.1 he).symm⟩) (fun he => hk _ ⟨i + 1, ?_, by omega, fun q hq hlt => ?_⟩ ?_)))
  ·rw [Qw (by omega) (by omega)]; simp
  ·rcases (by omega : q < i ∨ q = i) with h | rfl
   ·exact e3 q hq h
   ·intro e; rw [e] at he; simp at he
  ·rw [Qw (by omega) (by omega)]; omega
 ·have hc : ¬ (i : Int) < (xs.length : Int) := of_decide_eq_false hc
  obtain ⟨q, hq, e⟩ := List.getElem_of_mem h
  exact absurd e (e3 q hq (by omega))
theorem G_step {R : List Int} {c : Int} {cs : List Int} {a : Nat} (h : G R (c :: cs) a < 1048576) : c = R.getD a 0 ∧ ∃ s, s ≤ 2 ∧ fa s + G R cs ((a + s) % R.length) = G R (c :: cs) a := by
 rw [G] at h ⊢
 split at h
 ·rename_i hc
  refine ⟨hc, ?_⟩
  rw [if_pos hc]
  have h3 : (min (min (min 1048576 (fa 0 + G R cs ((a + 0) % R.length))) (fa 1 + G R cs ((a + 1) % R.length))) (fa 2 + G R cs ((a + 2) % R.length))) = fa 0 + G R cs ((a + 0) % R.length) ∨ (min (min (min 1048576 (fa 0 + G R cs ((a + 0) % R.length))) (fa 1 + G R cs ((a + 1) % R.length))) (fa 2 + G R cs ((a + 2) % R.length))) = fa 1 + G R cs ((a + 1) % R.length) ∨ (min (min (min 1048576 (fa 0 + G R cs ((a + 0) % R.length))) (fa 1 + G R cs ((a + 1) % R.length))) (fa 2 + G R cs ((a + 2) % R.length))) = fa 2 + G R cs ((a + 2) % R.length) := by omega
  rcases h3 with h3 | h3 | h3
  ·exact ⟨0, by omega, h3.symm⟩
  ·exact ⟨1, by omega, h3.symm⟩
  ·exact ⟨2, by omega, h3.symm⟩
 ·omega
theorem g19 {H : Nat} (hH : 1 ≤ H ∧ H ≤ 12) {R C : List Int} (hb : BOk H ⟨H, crd R⟩) (hC : ∀ c ∈ C, 0 ≤ c ∧ c < ((2 ^ H : Nat) : Int)) (hCl : C.length ≤ 60) (hex : ∃ a, a < R.length ∧ G R C a < 1048576) :
  Yes (f10 ⟨H, crd R⟩ C) (fun r => r.2.2.2 = 0 ∧ (∃ m : Nat, r.2.2.1 = m ∧ ∀ a, a < R.length → m ≤ G R C a) ∧ ∃ (a : Nat) (ss : List Nat), r.1 = a ∧ a < R.length ∧ r.2.1 = (ss.map fun s : Nat => (s : Int)) ∧ (∀ s ∈ ss, s ≤ 2) ∧ ss.length = C.length ∧ wk R a ss = C) := by
 have hcl := Yc R
 have h2 : 1 ≤ (crd R).length ∧ (crd R).length ≤ 30 := hb.2.1
 have hn : 1 ≤ R.length ∧ R.length ≤ 30 := by omega
 have h35 : f23 ⟨H, crd R⟩ C = some (⟨⟨⟨H, crd R⟩, H⟩, C⟩, 0) := by
  refine Yes.eq ?_
  unfold f23
  refine Qn _ (c111 hH hb) (Yes.jn (Kd rfl (Kd (decide_eq_false (by omega)) (Qn false ?_ (Kd rfl (Yes.some rfl))))))
  rw [c165 C _ (fun _ => false) (by omega) fun c hc => ?_]
  ·simp
  ·refine Yes.eq ?_
   unfold f42
   have h0 := hC c hc
   refine Yes.bind (Dm (bne_iff_ne.2 (by omega)) (Qn true (c110 hH (by simp) fun r hr => by rw [List.mem_singleton.1 hr]; exact h0) (Yes.some (Yes.some rfl))))
 unfold f10
 refine Qn _ h35 (Yes.jn (Kd rfl (Yes.bind ((g36 (H := H) (fun c hc => (hC c hc).1) hn hCl).mono fun L hL => ?_))))
 obtain ⟨l1, l2⟩ := hL
 have hL0 : 0 < L.length := by omega
 have e0 : L[0] = T R C := by rw [l2 0 hL0]; rfl
 refine Yes.jn (Qn _ (Yz (i := 0) hL0) ?_)
 rw [e0]
 refine Yes.bind ((g37 (by rw [Bg]; omega) (by rw [Bg]; omega)).mono fun m hm => ?_)
 obtain ⟨m1, m2⟩ := hm
 have hall : ∀ a, a < R.length → m ≤ ((G R C a : Nat) : Int) := fun a ha => m2 _ (List.mem_map_of_mem (List.mem_range.2 ha))
 obtain ⟨a0, ha0, hg0⟩ := hex
 have hmlt := hall a0 ha0
 refine Kd (decide_eq_false (by omega)) (Qn _ (Yz (i := 0) hL0) ?_)
 rw [e0]
 refine Yes.bind ((g38 m1 (by rw [Bg]; omega)).mono fun f hf => ?_)
 obtain ⟨a, rfl, ha, hav⟩ := hf
 rw [Nr] at hav
 rw [Bg] at ha
 subst hav
 refine Yes.bind (Yes.mono (Q' := fun st => ∃ ss : List Nat, st = (ss.map fun s : Nat => (s : Int)) ∧ (∀ s ∈ ss, s ≤ 2) ∧ ss.length = C.length ∧ wk R a ss = C) ?_ fun st hst => ?_)
 ·refine Yes.upto2 C.length (by omega) (fun p st b => ∃ ss : List Nat, st = (ss.map fun s : Nat => (s : Int)) ∧ (∀ s ∈ ss, s ≤ 2) ∧ ss.length = p ∧ wk R a ss = C.take p ∧ b = ((ep R.length a ss : Nat) : Int) ∧ G R (C.drop p) (ep R.length a ss) < 1048576)
   ⟨[], rfl, by simp, rfl, rfl, rfl, by show G R C a < _; omega⟩ (fun p st b k hp hI hk => ?_) (fun st b k hI => ?_)
  ·obtain ⟨ss, i1, i2, i3, i4, i5, i6⟩ := hI
   subst i5
   have hpos := En (n := R.length) (by omega) (ss := ss) ha
   have hdrop : C.drop p = C[p] :: C.drop (p + 1) := List.drop_eq_getElem_cons hp
   rw [hdrop] at i6
   obtain ⟨hrow, s0, hs0, hst0⟩ := G_step i6
   have hLp : p < L.length := by omega
   have hLp1 : p + 1 < L.length := by omega
   refine Dm (decide_eq_true (by omega)) (Yes.bind (Yes.bind (Yes.mono (Q' := fun s => ∃ t : Nat, s = (t : Int) ∧ t ≤ 2 ∧ fa t + G R (C.drop (p + 1)) ((ep R.length a ss + t) % R.length) = G R (C[p] :: C.drop (p + 1)) (ep R.length a ss)) ?_ fun s hs => ?_)))
   ·refine Yes.lp (fun s => ∃ t : Nat, s = (t : Int) ∧ t ≤ s0) (fun s => 3 - s.toNat) ⟨0, rfl, by omega⟩ (by show 3 - _ < _; omega) ?_
    rintro _ k2 ⟨t, rfl, ht⟩ hk2
    have ht2 : t ≤ 2 := by omega
    have hat : (ep R.length a ss + t) % R.length < (T R (C.drop (p + 1))).length := by rw [Bg]; exact Nat.mod_lt _ (by omega)
    have hat2 : ep R.length a ss < (T R (C.drop p)).length := by rw [Bg]; exact hpos
    have ew : w64 ((p : Int) + 1) = ((p + 1 : Nat) : Int) := by rw [Qw (by omega) (by omega)]; simp
    have g2 := G_le R (C.drop (p + 1)) ((ep R.length a ss + t) % R.length)
    have g3 : fa t ≤ 1 := by unfold fa; split <;> omega
    refine Yes.jn (Qn _ (g39 t) ?_)
    rw [ew]
    refine Qn _ (Yz hLp1) (Qn _ (Sz hpos (by omega) ht2) ?_)
    rw [l2 (p + 1) hLp1]
    refine Qn _ (Yz hat) (Qn _ (Yz hLp) ?_)
    rw [l2 p hLp]
    refine Qn _ (Yz hat2) ?_
    rw [Nr, Nr, Qw (n := ((fa t : Nat) : Int) + _) (by omega) (by omega), hdrop]
    refine Yes.cond (fun hne => hk2 _ ⟨t + 1, ?_, ?_⟩ ?_) (fun heq => Yes.some ⟨t, rfl, ht2, ?_⟩)
    ·rw [Qw (by omega) (by omega)]; simp
    ·rcases (by omega : t < s0 ∨ t = s0) with h | rfl
     ·omega
     ·exfalso
      have hne := bne_iff_ne.1 hne
      exact hne (by rw [← hst0]; simp)
    ·show 3 - (w64 ((t : Int) + 1)).toNat < 3 - (t : Int).toNat
     rw [Qw (by omega) (by omega)]; omega
    ·have heq : ((fa t : Nat) : Int) + ((G R (C.drop (p + 1)) ((ep R.length a ss + t) % R.length) : Nat) : Int) = ((G R (C[p] :: C.drop (p + 1)) (ep R.length a ss) : Nat) : Int) := by simpa using heq
     omega
   ·obtain ⟨t, rfl, ht, hteq⟩ := hs
    refine Yes.bind (Yes.apnd (by rw [i1]; simp; omega) (by rw [i1]; simp; omega) (Qn _ (Sz hpos (by omega) ht) (Yes.some (hk _ _ ⟨ss ++ [t], ?_, fun s hs => ?_, ?_, ?_, ?_, ?_⟩))))
    ·rw [i1]; simp
    ·rcases List.mem_append.1 hs with h | h
     ·exact i2 s h
     ·rw [List.mem_singleton.1 h]; exact ht
    ·rw [List.length_append, i3]; rfl
    ·rw [Ft, i4, Xo hp, hrow]
    ·rw [Rc]
    ·rw [Rc]; omega
  ·obtain ⟨ss, i1, i2, i3, i4, i5, i6⟩ := hI
   rw [List.take_length] at i4
   exact Kd (decide_eq_false (by omega)) (Yes.some ⟨ss, i1, i2, i3, i4⟩)
 ·obtain ⟨ss, i1, i2, i3, i4⟩ := hst
  exact Yes.some ⟨rfl, ⟨_, rfl, fun b hb => by have := hall b hb; omega⟩, a, ss, rfl, ha, i1, i2, i3, i4⟩
end Go.Proofs.Ytlmibfohllgmeaa
