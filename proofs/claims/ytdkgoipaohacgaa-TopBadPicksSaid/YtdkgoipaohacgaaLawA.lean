/- What a damaged loom weaves. -/
import Derived.Test.YtdkgoipaohacgaaCodes
import Derived.Test.YtdkgoipaohacgaaYes
set_option maxRecDepth 8000
namespace Go.Proofs.Ytdkgoipaohacgaa
open Go.RowKit
theorem s105 (x a b : Int) : f160 x a b = some (!decide (a ≤ x ∧ x ≤ b)) := by unfold f160; by_cases h1 : x < a <;> by_cases h2 : x > b <;> simp [h1, h2] <;> omega
theorem s87 (xs : List Int) (φ : Int → Option Bool) (p : Int → Bool) (hl : xs.length < 9223372036854775807) (h : ∀ a ∈ xs, φ a = some (p a)) : f91 xs φ = some (xs.any p) :=
 Yes.eq (Yes.bind (Yes.mono (index_is xs φ p hl h) fun _ hr => Yes.some (index_any hr)))
theorem s53 (xs : List FaultDamage) (φ : FaultDamage → Option Bool) (p : FaultDamage → Bool) (hl : xs.length < 9223372036854775807) (h : ∀ a ∈ xs, φ a = some (p a)) : f138 xs φ = some (xs.any p) :=
 Yes.eq (Yes.bind (Yes.mono (index_is xs φ p hl h) fun _ hr => Yes.some (index_any hr)))
theorem any_not (xs : List Int) (p : Int → Bool) : (!(xs.any fun x => !p x)) = xs.all p := by induction xs <;> simp_all
theorem s94 (a b : Int) (xs : List Int) (hl : xs.length < 9223372036854775807) : f121 a b xs = some (xs.all fun x => decide (a ≤ x ∧ x ≤ b)) := by
 unfold f121; rw [s87 xs _ (fun x => !decide (a ≤ x ∧ x ≤ b)) hl (fun x _ => s105 x a b)]
 show some (!(xs.any fun x => !decide (a ≤ x ∧ x ≤ b))) = _
 rw [any_not]
theorem s95 (a b : Int) (xs : List Int) (hl : xs.length < 9223372036854775807) : f67 a b xs = some (xs.all fun x => decide (a ≤ x ∧ x ≤ b)) := s94 a b xs hl
theorem s62 (a b : Int) (xs : List Int) (hl : xs.length < 9223372036854775807) : f50 a b xs = some (xs.all fun x => decide (a ≤ x ∧ x ≤ b)) := s94 a b xs hl

def btw (a b x : Int) : Bool := decide (a ≤ x ∧ x ≤ b)
def tieE (h : TieHarness) : Int := if btw 1 24 h.Hooks then if h.Warps.length > 96 then 5 else if h.Warps.length = 0 then 7 else if h.Warps.all (btw 0 (h.Hooks - 1)) then 0 else 2 else 2
def desE (d : Design) : Int := if btw 1 24 d.Hooks then if d.Rows.length > 60 then 5 else if d.Rows.length = 0 then 7 else if d.Rows.all (btw 0 (2 ^ d.Hooks.toNat - 1)) then 0 else 2 else 2
def loomE (l : FaultLoom) : Int := if tieE l.Harness ≠ 0 then tieE l.Harness else if desE l.Design ≠ 0 then desE l.Design else if l.Harness.Hooks ≠ l.Design.Hooks then 4 else 0
theorem s73 (h : TieHarness) : f69 h = some (tieE h) := by
 refine Yes.eq ?_
 unfold f69
 refine Yes.jn (Yes.bind (Yes.of (s94 _ _ _ (by simp)) (Yes.cond (fun h1 => Yes.some ?_) (fun h1 => ?_))))
 ·have : btw 1 24 h.Hooks = false := by simp [btw] at h1 ⊢; omega
  simp [tieE, this]
 have hb : btw 1 24 h.Hooks = true := by simpa [btw] using h1
 have hb' : 1 ≤ h.Hooks ∧ h.Hooks ≤ 24 := by simpa [btw] using hb
 refine Yes.cond (fun h2 => Yes.some ?_) (fun h2 => ?_)
 ·have : h.Warps.length > 96 := by simp at h2; omega
  simp [tieE, hb, this]
 have h2' : ¬ h.Warps.length > 96 := by simp at h2; omega
 refine Yes.cond (fun h3 => Yes.some ?_) (fun h3 => ?_)
 ·have : h.Warps.length = 0 := by simpa using h3
  simp [tieE, hb, this]
 have h3' : ¬ h.Warps.length = 0 := by simpa using h3
 rw [w64_id (n := h.Hooks - 1) (by omega) (by omega)]
 refine Yes.bind (Yes.of (s94 _ _ _ (by omega)) (Yes.cond (fun h4 => Yes.some ?_) (fun h4 => Yes.some ?_)))
 ·have : h.Warps.all (btw 0 (h.Hooks - 1)) = false := by simpa [btw] using h4
  simp [tieE, hb, h2', h3', this]
 ·have : h.Warps.all (btw 0 (h.Hooks - 1)) = true := by simpa [btw] using h4
  simp [tieE, hb, h2', h3', this]
theorem pow_small {n : Int} (h1 : 1 ≤ n) (h2 : n ≤ 24) : (1 : Int) ≤ 2 ^ n.toNat ∧ (2 : Int) ^ n.toNat ≤ 16777216 := by
 have a : 1 ≤ 2 ^ n.toNat := Nat.one_le_two_pow
 have b : 2 ^ n.toNat ≤ 2 ^ 24 := Nat.pow_le_pow_right (by omega) (by omega)
 have c : ((2 ^ n.toNat : Nat) : Int) = (2 : Int) ^ n.toNat := by simp
 rw [← c]; omega
theorem shl_one {n : Int} (h1 : 1 ≤ n) (h2 : n ≤ 24) : shl64 1 n = some (2 ^ n.toNat) := by
 unfold shl64
 have ⟨a, b⟩ := pow_small h1 h2
 rw [if_neg (by omega), show min n.toNat 64 = n.toNat by omega, Int.one_mul, w64_id (by omega) (by omega)]
theorem s74 (d : Design) : f66 d = some (desE d) := by
 refine Yes.eq ?_
 unfold f66
 refine Yes.jn (Yes.bind (Yes.of (s95 _ _ _ (by simp)) (Yes.cond (fun h1 => Yes.some ?_) (fun h1 => ?_))))
 ·have : btw 1 24 d.Hooks = false := by simp [btw] at h1 ⊢; omega
  simp [desE, this]
 have hb : btw 1 24 d.Hooks = true := by simpa [btw] using h1
 have hb' : 1 ≤ d.Hooks ∧ d.Hooks ≤ 24 := by simpa [btw] using hb
 refine Yes.cond (fun h2 => Yes.some ?_) (fun h2 => ?_)
 ·have : d.Rows.length > 60 := by simp at h2; omega
  simp [desE, hb, this]
 have h2' : ¬ d.Rows.length > 60 := by simp at h2; omega
 refine Yes.cond (fun h3 => Yes.some ?_) (fun h3 => ?_)
 ·have : d.Rows.length = 0 := by simpa using h3
  simp [desE, hb, this]
 have h3' : ¬ d.Rows.length = 0 := by simpa using h3
 have ⟨pa, pb⟩ := pow_small hb'.1 hb'.2
 refine Yes.bind (Yes.of (shl_one hb'.1 hb'.2) ?_)
 rw [w64_id (n := 2 ^ d.Hooks.toNat - 1) (by omega) (by omega)]
 refine Yes.bind (Yes.of (s95 _ _ _ (by omega)) (Yes.cond (fun h4 => Yes.some ?_) (fun h4 => Yes.some ?_)))
 ·have : d.Rows.all (btw 0 (2 ^ d.Hooks.toNat - 1)) = false := by simpa [btw] using h4
  simp [desE, hb, h2', h3', this]
 ·have : d.Rows.all (btw 0 (2 ^ d.Hooks.toNat - 1)) = true := by simpa [btw] using h4
  simp [desE, hb, h2', h3', this]
theorem loom_of (l : FaultLoom) (x : Option Int) (y : Option Int) (hx : x = some (tieE l.Harness)) (hy : y = some (desE l.Design)) :
  (jn (σ := Unit) (fun _ => jn (σ := Unit) (fun _ => jn (σ := Unit) (fun _ => some ((0 : Int))) fun k33 => bif ((l.Harness).Hooks != (l.Design).Hooks) then some ((4 : Int)) else k33 ()) fun k19 =>
   y.bind fun y23 => bif (y23 != (0 : Int)) then some (y23) else k19 ()) fun k7 => x.bind fun y11 => bif (y11 != (0 : Int)) then some (y11) else k7 ()) = some (loomE l) := by
 subst hx; subst hy
 unfold loomE jn
 by_cases h1 : tieE l.Harness = 0 <;> by_cases h2 : desE l.Design = 0 <;> by_cases h3 : l.Harness.Hooks = l.Design.Hooks <;> simp [h1, h2, h3, bne, BEq.beq]
theorem s50 (l : FaultLoom) : f51 l = some (loomE l) := loom_of l _ _ (s73 _) (s74 _)
structure Good (l : FaultLoom) : Prop where
 h1 : 1 ≤ l.Design.Hooks
 h24 : l.Design.Hooks ≤ 24
 hh : l.Harness.Hooks = l.Design.Hooks
 w0 : 0 < l.Harness.Warps.length
 w1 : l.Harness.Warps.length ≤ 96
 r0 : 0 < l.Design.Rows.length
 r1 : l.Design.Rows.length ≤ 60
 warp : ∀ x ∈ l.Harness.Warps, 0 ≤ x ∧ x < l.Design.Hooks
 row : ∀ x ∈ l.Design.Rows, 0 ≤ x ∧ x < 2 ^ l.Design.Hooks.toNat
theorem good_of {l : FaultLoom} (h : loomE l = 0) : Good l := by
 unfold loomE at h
 split at h
 ·rename_i h1; exact absurd h h1
 rename_i h1
 split at h
 ·rename_i h2; exact absurd h h2
 rename_i h2
 split at h
 ·cases h
 rename_i h3
 have h1 : tieE l.Harness = 0 := Decidable.not_not.1 h1
 have h2 : desE l.Design = 0 := Decidable.not_not.1 h2
 have h3 : l.Harness.Hooks = l.Design.Hooks := Decidable.not_not.1 h3
 unfold tieE at h1
 unfold desE at h2
 split at h1
 case isFalse => cases h1
 split at h1
 ·cases h1
 split at h1
 ·cases h1
 split at h1
 case isFalse => cases h1
 split at h2
 case isFalse => cases h2
 split at h2
 ·cases h2
 split at h2
 ·cases h2
 split at h2
 case isFalse => cases h2
 rename_i a1 a2 a3 a4 b1 b2 b3 b4
 simp only [btw, decide_eq_true_eq, List.all_eq_true] at a1 a4 b1 b4
 exact ⟨b1.1, b1.2, h3, by omega, by omega, by omega, by omega, fun x hx => by have := a4 x hx; omega, fun x hx => by have := b4 x hx; omega⟩
def dmg (l : FaultLoom) (d : FaultDamage) : Bool :=
 if d.Kind = 1 then btw 0 (l.Design.Rows.length - 1) d.Pick && btw 0 (l.Design.Hooks - 1) d.Hook && decide (d.Warp = 0) && !d.Up
 else if d.Kind = 2 then btw 0 (l.Design.Hooks - 1) d.Hook && decide (d.Pick = 0) && decide (d.Warp = 0)
 else if d.Kind = 3 ∨ d.Kind = 4 then btw 0 (l.Design.Rows.length - 1) d.Pick && decide (d.Hook = 0) && decide (d.Warp = 0) && !d.Up
 else if d.Kind = 5 then btw 0 (l.Harness.Warps.length - 1) d.Warp && decide (d.Pick = 0) && decide (d.Hook = 0) && !d.Up
 else false
theorem s52 {l : FaultLoom} (g : Good l) (d : FaultDamage) : f137 ⟨l⟩ d = some (dmg l d) := by
 unfold f137
 obtain ⟨g1, g2, _, g3, g4, g5, g6, _, _⟩ := g
 simp only
 rw [w64_id (n := (l.Design.Rows.length : Int) - 1) (by omega) (by omega), w64_id (n := l.Design.Hooks - 1) (by omega) (by omega), w64_id (n := (l.Harness.Warps.length : Int) - 1) (by omega) (by omega)]
 simp only [s62 _ _ [d.Pick] (by simp), s62 _ _ [d.Hook] (by simp), s62 _ _ [d.Warp] (by simp), List.all_cons, List.all_nil, Bool.and_true, Option.bind_some, ← btw.eq_1]
 have b0 : btw 0 (l.Design.Hooks - 1) 0 = true := by simp [btw]; omega
 have b1 : btw 0 ((l.Design.Rows.length : Int) - 1) 0 = true := by simp [btw]; omega
 have b2 : btw 0 ((l.Harness.Warps.length : Int) - 1) 0 = true := by simp [btw]; omega
 obtain ⟨k, p, h, w, u⟩ := d
 unfold dmg
 simp only
 have e : ∀ a b : Int, (a == b) = decide (a = b) := fun a b => by rw [Bool.eq_iff_iff]; simp
 simp only [e]
 by_cases k1 : k = 1
 ·subst k1
  by_cases q : w = 0 <;> cases u <;> simp [q, b2]
  cases btw 0 ((l.Design.Rows.length : Int) - 1) p <;> cases btw 0 (l.Design.Hooks - 1) h <;> simp
 by_cases k2 : k = 2
 ·subst k2
  by_cases q : p = 0 <;> by_cases r : w = 0 <;> simp [q, r, b1, b2]
  cases btw 0 (l.Design.Hooks - 1) h <;> simp
 by_cases k3 : k = 3
 ·subst k3
  by_cases q : h = 0 <;> by_cases r : w = 0 <;> cases u <;> simp [q, r, b0, b2]
  cases btw 0 ((l.Design.Rows.length : Int) - 1) p <;> simp
 by_cases k4 : k = 4
 ·subst k4
  by_cases q : h = 0 <;> by_cases r : w = 0 <;> cases u <;> simp [q, r, b0, b2]
  cases btw 0 ((l.Design.Rows.length : Int) - 1) p <;> simp
 by_cases k5 : k = 5
 ·subst k5
  by_cases q : p = 0 <;> by_cases r : h = 0 <;> cases u <;> simp [q, r, b0, b1]
 simp [k1, k2, k3, k4, k5]
def chkE (l : FaultLoom) (ds : List FaultDamage) : Int := if loomE l ≠ 0 then loomE l else if ds.length > 100 then 5 else if ds.all (dmg l) then 0 else 2
theorem s18 (l : FaultLoom) (ds : List FaultDamage) : f85 l ds = some (chkE l ds) := by
 refine Yes.eq ?_
 unfold f85
 refine Yes.jn (Yes.bind (Yes.of (s50 l) (Yes.cond (fun h => Yes.some ?_) (fun h => Yes.jn (Yes.cond (fun h2 => Yes.some ?_) (fun h2 => ?_))))))
 ·have : loomE l ≠ 0 := by simpa using h
  simp [chkE, this]
 all_goals have h0 : loomE l = 0 := by simpa using h
 ·have : ds.length > 100 := by simp at h2; omega
  simp [chkE, h0, this]
 have h2' : ¬ ds.length > 100 := by simp at h2; omega
 have hg := good_of h0
 have h53 := s53 ds (fun a0 => f136 a0 l) (fun d => !dmg l d) (by omega) fun d _ => by unfold f136; rw [s52 hg d]; rfl
 refine Yes.bind (Yes.of h53 (Yes.cond (fun h3 => Yes.some ?_) (fun h3 => Yes.some ?_)))
 ·have : ds.all (dmg l) = false := by
   rw [List.any_eq_true] at h3
   obtain ⟨d, hd, hn⟩ := h3
   exact List.all_eq_false.2 ⟨d, hd, by simpa using hn⟩
  simp [chkE, h0, h2', this]
 ·have : ds.all (dmg l) = true := by
   rw [List.any_eq_false] at h3
   exact List.all_eq_true.2 fun d hd => by simpa using h3 d hd
  simp [chkE, h0, h2', this]
theorem pow62 : (2 : Nat) ^ 62 = 4611686018427387904 := by decide
theorem ofInt_small {a : Nat} (ha : a < 2 ^ 62) : (BitVec.ofInt 64 (a : Int)).toNat = a := by
 rw [BitVec.ofInt_natCast, BitVec.toNat_ofNat]
 exact Nat.mod_eq_of_lt (by rw [pow62] at ha; omega)
theorem xor64 {a b : Nat} (ha : a < 2 ^ 62) (hb : b < 2 ^ 62) : bit64 .xor a b = ((a ^^^ b : Nat) : Int) := by
 have hx : a ^^^ b < 2 ^ 62 := Nat.xor_lt_two_pow ha hb
 unfold bit64
 simp only [BitVec.toNat_xor, ofInt_small ha, ofInt_small hb]
 rw [pow62] at hx
 exact w64_id (by omega) (by omega)
theorem or64 {a b : Nat} (ha : a < 2 ^ 62) (hb : b < 2 ^ 62) : bit64 .or a b = ((a ||| b : Nat) : Int) := by
 have hx : a ||| b < 2 ^ 62 := Nat.or_lt_two_pow ha hb
 unfold bit64
 simp only [BitVec.toNat_or, ofInt_small ha, ofInt_small hb]
 rw [pow62] at hx
 exact w64_id (by omega) (by omega)
theorem and64 {a b : Nat} (ha : a < 2 ^ 62) (hb : b < 2 ^ 62) : bit64 .and a b = ((a &&& b : Nat) : Int) := by
 have hx : a &&& b < 2 ^ 62 := Nat.and_lt_two_pow a hb
 unfold bit64
 simp only [BitVec.toNat_and, ofInt_small ha, ofInt_small hb]
 rw [pow62] at hx
 exact w64_id (by omega) (by omega)
theorem shl_bit {h : Nat} (hh : h < 62) : shl64 1 (h : Int) = some ((2 ^ h : Nat) : Int) := by
 have hx : 2 ^ h < 2 ^ 62 := Nat.pow_lt_pow_right (by decide) hh
 rw [pow62] at hx
 unfold shl64
 rw [if_neg (by omega), show min (h : Int).toNat 64 = h by simp; omega, Int.one_mul]
 rw [show ((2 : Int) ^ h) = ((2 ^ h : Nat) : Int) by simp]
 generalize 2 ^ h = q at hx ⊢
 rw [w64_id (by omega) (by omega)]
theorem shl_two {a : Nat} (ha : a < 2 ^ 60) : shl64 (a : Int) 1 = some ((2 * a : Nat) : Int) := by
 have : (2 : Nat) ^ 60 = 1152921504606846976 := by decide
 rw [this] at ha
 unfold shl64
 rw [if_neg (by omega), show min (1 : Int).toNat 64 = 1 by rfl]
 rw [w64_id (by omega) (by omega)]
 simp; omega
theorem shr_bit {a h : Nat} (hh : h < 62) : shr64 (a : Int) (h : Int) = some ((a >>> h : Nat) : Int) := by
 unfold shr64
 rw [if_neg (by omega), show min (h : Int).toNat 64 = h by simp; omega]
 congr 1
 rw [show ((2 : Int) ^ h) = ((2 ^ h : Nat) : Int) by simp, Nat.shiftRight_eq_div_pow]
 generalize 2 ^ h = q
 rw [Int.fdiv_eq_ediv_of_nonneg _ (by omega)]
 exact (Int.natCast_ediv a q).symm

def Tb (H n : Nat) (rows : List Int) (t : Nat → Nat → Bool) : Prop :=
 rows.length = n ∧ ∀ p (hp : p < rows.length), ∃ a : Nat, rows[p] = (a : Int) ∧ a < 2 ^ H ∧ ∀ h, h < H → a.testBit h = t p h
theorem two_lt {H : Nat} (hH : H ≤ 24) {a : Nat} (ha : a < 2 ^ H) : a < 2 ^ 24 := Nat.lt_of_lt_of_le ha (Nat.pow_le_pow_right (by decide) hH)
theorem two24 : (2 : Nat) ^ 24 < 2 ^ 62 := by decide
theorem lt62 {H : Nat} (hH : H ≤ 24) {a : Nat} (ha : a < 2 ^ H) : a < 2 ^ 62 := Nat.lt_trans (two_lt hH ha) two24
theorem Tb.set {H n : Nat} {rows : List Int} {t t' : Nat → Nat → Bool} (ht : Tb H n rows t) {p : Nat} {a : Nat} (ha : a < 2 ^ H) (h1 : ∀ h, h < H → a.testBit h = t' p h) (h2 : ∀ q h, q ≠ p → h < H → t' q h = t q h) : Tb H n (rows.set p (a : Int)) t' := by
 refine ⟨by rw [List.length_set]; exact ht.1, fun q hq => ?_⟩
 rw [List.length_set] at hq
 by_cases hqp : q = p
 ·subst hqp
  exact ⟨a, by simp, ha, h1⟩
 ·obtain ⟨b, hb, hb2, hb3⟩ := ht.2 q hq
  refine ⟨b, ?_, hb2, fun h hh => by rw [hb3 h hh, h2 q h hqp hh]⟩
  rw [List.getElem_set_ne (fun e => hqp e.symm)]; exact hb
def act1 (p h : Nat) (t : Nat → Nat → Bool) : Nat → Nat → Bool := fun q k => if q = p ∧ k = h then !t q k else t q k
theorem s97 {H n : Nat} (hH : H ≤ 24) {rows : List Int} {t : Nat → Nat → Bool} (ht : Tb H n rows t) (l : FaultFaultLoom) {d : FaultDamage} {p h : Nat} (hp : d.Pick = p) (hpn : p < n) (hh : d.Hook = h) (hhH : h < H) :
  Yes (f140 l d rows) fun r => Tb H n r (act1 p h t) := by
 obtain ⟨a, ha, ha2, ha3⟩ := ht.2 p (by rw [ht.1]; exact hpn)
 have hpl : p < rows.length := by rw [ht.1]; exact hpn
 unfold f140
 refine Yes.bind (Yes.idx hp hpl (Yes.bind (Yes.of (by rw [hh]; exact shl_bit (by omega)) (Yes.bind (Yes.idx hp hpl (Yes.some ?_))))))
 have h2 : 2 ^ h < 2 ^ H := Nat.pow_lt_pow_right (by decide) hhH
 rw [ha, xor64 (lt62 hH ha2) (lt62 hH h2), hp, Int.toNat_natCast]
 refine ht.set (Nat.xor_lt_two_pow ha2 h2) (fun k hk => ?_) (fun q k hq _ => by simp [act1, hq])
 rw [Nat.testBit_xor, ha3 k hk, Nat.testBit_two_pow]
 by_cases e : k = h
 ·subst e; simp [act1]
 ·simp [act1, e, Ne.symm e]
def act4 (p q : Nat) (t : Nat → Nat → Bool) : Nat → Nat → Bool := fun r k => if r = q then t p k else if r = p then t q k else t r k
theorem s100 {H n : Nat} {rows : List Int} {t : Nat → Nat → Bool} (ht : Tb H n rows t) (hn : n ≤ 1000) (l : FaultFaultLoom) {d : FaultDamage} {p : Nat} (hp : d.Pick = p) (hpn : p < n) :
  Yes (f143 l d rows) fun r => Tb H n r (act4 p ((p + 1) % n) t) := by
 have hpl : p < rows.length := by rw [ht.1]; exact hpn
 have hql : (p + 1) % n < rows.length := by rw [ht.1]; exact Nat.mod_lt _ (by omega)
 obtain ⟨a, ha, ha2, ha3⟩ := ht.2 p hpl
 obtain ⟨b, hb, hb2, hb3⟩ := ht.2 _ hql
 unfold f143
 have hrem : rem64 (w64 (d.Pick + 1)) (rows.length : Int) = some (((p + 1) % n : Nat) : Int) := by
  rw [hp, w64_id (by omega) (by omega), ht.1]
  unfold rem64
  rw [if_neg (by omega)]
  rw [Int.tmod_eq_emod_of_nonneg (by omega)]
  rfl
 refine Yes.bind (Yes.of hrem (Yes.bind (Yes.idx hp hpl (Yes.bind (Yes.idx rfl hql (Yes.bind (Yes.idx hp hpl (Yes.bind (Yes.idx rfl (by rw [List.length_set]; exact hql) (Yes.some ?_))))))))))
 rw [ha, hb, hp, Int.toNat_natCast, Int.toNat_natCast]
 have s1 : Tb H n (rows.set p (b : Int)) (fun r k => if r = p then t ((p + 1) % n) k else t r k) := ht.set hb2 (fun k hk => by rw [hb3 k hk]; simp) (fun q k hq _ => by simp [hq])
 exact s1.set ha2 (fun k hk => by rw [ha3 k hk]; simp [act4]) (fun q k hq _ => by simp [act4, hq])
def act2 (h : Nat) (u : Bool) (t : Nat → Nat → Bool) : Nat → Nat → Bool := fun q k => if k = h then u else t q k
theorem s98 {H n : Nat} (hH : H ≤ 24) {rows : List Int} {t : Nat → Nat → Bool} (ht : Tb H n rows t) (hn : n ≤ 1000) (l : FaultFaultLoom) {d : FaultDamage} {h : Nat} (hh : d.Hook = h) (hhH : h < H) :
  Yes (f141 l d rows) fun r => Tb H n r (act2 h d.Up t) := by
 unfold f141
 have h2 : 2 ^ h < 2 ^ H := Nat.pow_lt_pow_right (by decide) hhH
 have hsh : shl64 1 d.Hook = some ((2 ^ h : Nat) : Int) := by rw [hh]; exact shl_bit (by omega)
 rw [show rows.length = n from ht.1]
 refine Yes.upto n (by omega) (fun i r => Tb H n r (fun q k => if q < i then act2 h d.Up t q k else t q k)) (by simpa using ht) (fun i r k hi hI hk => ?_) (fun r k hI => ?_)
 ·obtain ⟨a, ha, ha2, ha3⟩ := hI.2 i (by rw [hI.1]; exact hi)
  have hil : i < r.length := by rw [hI.1]; exact hi
  have hor : a ||| 2 ^ h < 2 ^ H := Nat.or_lt_two_pow ha2 h2
  refine Yes.cond (fun _ => Yes.bind ?_) (fun h => absurd h (by simp; omega))
  refine Yes.bind (Yes.idx rfl hil (Yes.bind (Yes.of hsh (Yes.bind (Yes.idx rfl hil ?_)))))
  rw [ha, or64 (lt62 hH ha2) (lt62 hH h2), Int.toNat_natCast]
  refine Yes.cond (fun hu => ?_) (fun hu => Yes.some (hk _ ?_))
  ·refine Yes.bind (Yes.idx rfl (by rw [List.length_set]; exact hil) (Yes.bind (Yes.of hsh (Yes.bind (Yes.idx rfl (by rw [List.length_set]; exact hil) (Yes.some (hk _ ?_)))))))
   simp only [List.getElem_set_self, List.set_set]
   rw [xor64 (lt62 hH hor) (lt62 hH h2)]
   have hu : d.Up = false := by simpa using hu
   refine hI.set (Nat.xor_lt_two_pow hor h2) (fun k hk => ?_) (fun q k hq _ => ?_)
   ·rw [Nat.testBit_xor, Nat.testBit_or, ha3 k hk, Nat.testBit_two_pow]
    by_cases e : k = h
    ·subst e; simp [act2, hu]
    ·simp [act2, e, Ne.symm e]
   ·have : (q < i + 1) = (q < i) := by simp; omega
    simp only [this]
  ·have hu : d.Up = true := by simpa using hu
   refine hI.set hor (fun k hk => ?_) (fun q k hq _ => ?_)
   ·rw [Nat.testBit_or, ha3 k hk, Nat.testBit_two_pow]
    by_cases e : k = h
    ·subst e; simp [act2, hu]
    ·simp [act2, e, Ne.symm e]
   ·have : (q < i + 1) = (q < i) := by simp; omega
    simp only [this]
 ·refine Yes.cond (fun h => absurd h (by simp)) (fun _ => Yes.some ?_)
  refine ⟨hI.1, fun q hq => ?_⟩
  obtain ⟨b, hb, hb2, hb3⟩ := hI.2 q hq
  refine ⟨b, hb, hb2, fun k hk => ?_⟩
  rw [hb3 k hk]
  exact if_pos (by rw [← hI.1]; exact hq)
def act3 (H p : Nat) (t : Nat → Nat → Bool) : Nat → Nat → Bool := fun q k => if q = p then t p (H - 1 - k) else t q k
theorem s99 {H n : Nat} (hH : H ≤ 24) {rows : List Int} {t : Nat → Nat → Bool} (ht : Tb H n rows t) (l : FaultLoom) (hl : l.Design.Hooks = H) {d : FaultDamage} {p : Nat} (hp : d.Pick = p) (hpn : p < n) :
  Yes (f142 ⟨l⟩ d rows) fun r => Tb H n r (act3 H p t) := by
 have hpl : p < rows.length := by rw [ht.1]; exact hpn
 obtain ⟨b, hb, hb2, hb3⟩ := ht.2 p hpl
 unfold f142
 simp only
 rw [hl]
 refine Yes.bind (Yes.upto H (by omega) (fun i r => ∃ a : Nat, r = (a : Int) ∧ a < 2 ^ i ∧ ∀ j, j < i → a.testBit j = t p (i - 1 - j)) ⟨0, rfl, by simp, fun _ h => absurd h (Nat.not_lt_zero _)⟩ (fun i r k hi hI hk => ?_) (fun r k hI => ?_))
 ·obtain ⟨a, rfl, ha, ha2⟩ := hI
  have ha24 : a < 2 ^ 24 := two_lt (by omega) ha
  have ha60 : a < 2 ^ 60 := Nat.lt_trans ha24 (by decide)
  refine Yes.cond (fun _ => Yes.bind (Yes.bind (Yes.of (shl_two ha60) (Yes.bind (Yes.idx hp hpl (Yes.bind (Yes.of (by rw [hb]; exact shr_bit (by omega)) (Yes.some (hk _ ?_))))))))) (fun h => absurd h (by simp; omega))
  have hs : b >>> i < 2 ^ 62 := Nat.lt_of_le_of_lt (Nat.shiftRight_le b i) (lt62 hH hb2)
  rw [show (1 : Int) = ((1 : Nat) : Int) from rfl, and64 hs (by decide)]
  have h1 : (b >>> i) &&& 1 < 2 ^ 1 := Nat.and_lt_two_pow _ (by decide)
  have h2a : 2 * a < 2 ^ (i + 1) := by rw [Nat.pow_succ]; omega
  have hb1 : (b >>> i) &&& 1 < 2 ^ (i + 1) := Nat.lt_of_lt_of_le h1 (Nat.pow_le_pow_right (by decide) (by omega))
  rw [or64 (lt62 (H := i + 1) (by omega) h2a) (lt62 (H := i + 1) (by omega) hb1)]
  refine ⟨_, rfl, Nat.or_lt_two_pow h2a hb1, fun j hj => ?_⟩
  have e2 : 2 * a = a <<< 1 := by rw [Nat.shiftLeft_eq]; omega
  rw [Nat.testBit_or, e2, Nat.testBit_shiftLeft, Nat.testBit_and, Nat.testBit_shiftRight]
  cases j with
  | zero => simp [hb3 i hi]
  | succ j =>
   have : (1 : Nat).testBit (j + 1) = false := by
    rw [show (1 : Nat) = 2 ^ 0 from rfl, Nat.testBit_two_pow]; simp
   rw [this]
   simp only [Nat.add_sub_cancel, Bool.and_false, Bool.or_false]
   rw [ha2 j (by omega)]
   simp
   congr 1; omega
 ·obtain ⟨a, rfl, ha, ha2⟩ := hI
  refine Yes.cond (fun h => absurd h (by simp)) (fun _ => Yes.some (Yes.bind (Yes.idx hp hpl (Yes.some ?_))))
  rw [hp, Int.toNat_natCast]
  exact ht.set ha (fun k hk => by rw [ha2 k hk]; simp [act3]) (fun q k hq _ => by simp [act3, hq])
def mark (b : Bool) : UInt8 := if b then 120 else 46
def line (m : Nat) (c : Nat → Bool) : Str := ⟨(List.range m).map fun w => mark (c w)⟩
def clothOf (n m : Nat) (c : Nat → Nat → Bool) : List Str := (List.range n).map fun p => line m (c p)
def hk (l : FaultLoom) (w : Nat) : Nat := ((l.Harness.Warps[w]?).getD 0).toNat
theorem hk_at {l : FaultLoom} (g : Good l) {w : Nat} (hw : w < l.Harness.Warps.length) : l.Harness.Warps[w] = (hk l w : Int) ∧ hk l w < l.Design.Hooks.toNat := by
 have := g.warp _ (List.getElem_mem hw)
 unfold hk
 rw [List.getElem?_eq_getElem hw]
 simp only [Option.getD_some]
 omega
theorem and_one (a : Nat) : (((a &&& 1 : Nat) : Int) == (1 : Int)) = a.testBit 0 := by
 rw [Bool.eq_iff_iff, Nat.and_one_is_mod]
 simp [Nat.testBit_zero]
 omega
theorem s111 {l : FaultLoom} (g : Good l) {a w : Nat} (ha : a < 2 ^ 24) (hw : w < l.Harness.Warps.length) : f124 ⟨l.Harness⟩ (a : Int) (w : Int) = some (a.testBit (hk l w)) := by
 obtain ⟨e, hlt⟩ := hk_at g hw
 have h24 := g.h24
 refine Yes.eq ?_
 unfold f124
 refine Yes.bind (Yes.idx rfl hw (Yes.bind (Yes.of (by rw [e]; exact shr_bit (by omega)) (Yes.some ?_))))
 have hs : a >>> hk l w < 2 ^ 62 := Nat.lt_of_le_of_lt (Nat.shiftRight_le a _) (Nat.lt_trans ha two24)
 rw [show (1 : Int) = ((1 : Nat) : Int) from rfl, and64 hs (by decide)]
 show (((a >>> hk l w &&& 1 : Nat) : Int) == (1 : Int)) = _
 rw [and_one, Nat.testBit_shiftRight, Nat.add_zero]
theorem s110 (b : Bool) : f123 b = some (mark b) := by cases b <;> rfl
theorem s102 {l : FaultLoom} (g : Good l) {a : Nat} (ha : a < 2 ^ 24) : f70 ⟨l.Harness⟩ (a : Int) = some (line l.Harness.Warps.length fun w => a.testBit (hk l w)) := by
 have hw1 := g.w1
 have hw0 := g.w0
 refine Yes.eq ?_
 unfold f70
 simp only
 refine Yes.bind (Yes.upto l.Harness.Warps.length (by omega) (fun i r => r = (List.range i).map fun w => mark (a.testBit (hk l w))) rfl (fun i r k hi hI hk' => ?_) (fun r k hI => ?_))
 ·subst hI
  refine Yes.cond (fun _ => Yes.bind (Yes.bind (Yes.of (s111 g ha hi) (Yes.bind (Yes.of (s110 _) (Yes.bind (Yes.apnd (by simp; omega) (by simp; omega) (Yes.some (hk' _ ?_))))))))) (fun h => absurd h (by simp; omega))
  rw [List.range_succ, List.map_append]; rfl
 ·subst hI
  refine Yes.cond (fun h => absurd h (by simp)) (fun _ => Yes.some (Yes.bind (Yes.of (a := line l.Harness.Warps.length fun w => a.testBit (hk l w)) ?_ (Yes.some rfl))))
  unfold sbstr
  rw [if_neg (by intro h; have := congrArg List.length h; rw [List.length_map, List.length_range, List.length_nil] at this; omega)]
  rfl
def tab (l : FaultLoom) : Nat → Nat → Bool := fun p h => (((l.Design.Rows[p]?).getD 0).toNat).testBit h
theorem tab_good {l : FaultLoom} (g : Good l) : Tb l.Design.Hooks.toNat l.Design.Rows.length l.Design.Rows (tab l) := by
 refine ⟨rfl, fun p hp => ?_⟩
 have h1 := g.row _ (List.getElem_mem hp)
 refine ⟨(l.Design.Rows[p]).toNat, by omega, ?_, fun h hh => ?_⟩
 ·have : ((2 ^ l.Design.Hooks.toNat : Nat) : Int) = (2 : Int) ^ l.Design.Hooks.toNat := by simp
  rw [← this] at h1
  omega
 ·unfold tab; rw [List.getElem?_eq_getElem hp]; rfl
theorem tieE_good {l : FaultLoom} (g : Good l) : tieE l.Harness = 0 := by
 have h1 : btw 1 24 l.Harness.Hooks = true := by rw [g.hh]; have := g.h1; have := g.h24; simp [btw]; omega
 have h2 : l.Harness.Warps.all (btw 0 (l.Harness.Hooks - 1)) = true := List.all_eq_true.2 fun x hx => by have := g.warp x hx; rw [g.hh]; simp [btw]; omega
 have := g.w0; have := g.w1
 unfold tieE
 rw [if_pos h1, if_neg (by omega), if_neg (by omega), if_pos h2]
theorem desE_tb {l : FaultLoom} (g : Good l) {rows : List Int} {t : Nat → Nat → Bool} (ht : Tb l.Design.Hooks.toNat l.Design.Rows.length rows t) : desE ⟨l.Design.Hooks, rows⟩ = 0 := by
 have h1 : btw 1 24 l.Design.Hooks = true := by have := g.h1; have := g.h24; simp [btw]; omega
 have h2 : rows.all (btw 0 (2 ^ l.Design.Hooks.toNat - 1)) = true := List.all_eq_true.2 fun x hx => by
  obtain ⟨p, hp, rfl⟩ := List.getElem_of_mem hx
  obtain ⟨a, ha, ha2, _⟩ := ht.2 p hp
  have : ((2 ^ l.Design.Hooks.toNat : Nat) : Int) = (2 : Int) ^ l.Design.Hooks.toNat := by simp
  rw [ha, ← this]
  simp only [btw, decide_eq_true_eq]
  omega
 have := g.r0; have := g.r1; have := ht.1
 unfold desE
 simp only
 rw [if_pos h1, if_neg (by omega), if_neg (by omega), if_pos h2]
theorem s82 {l : FaultLoom} (g : Good l) {rows : List Int} {t : Nat → Nat → Bool} (ht : Tb l.Design.Hooks.toNat l.Design.Rows.length rows t) :
  f27 l.Harness ⟨l.Design.Hooks, rows⟩ = some (clothOf l.Design.Rows.length l.Harness.Warps.length (fun p w => t p (hk l w)), 0) := by
 have hr1 := g.r1
 have hw1 := g.w1
 have h24 := g.h24
 refine Yes.eq ?_
 unfold f27
 refine Yes.jn (Yes.bind (Yes.of (s73 _) ?_))
 rw [tieE_good g]
 refine Yes.cond (fun h => nomatch h) (fun _ => Yes.jn (Yes.bind (Yes.of (s74 _) ?_)))
 rw [desE_tb g ht]
 refine Yes.cond (fun h => nomatch h) (fun _ => Yes.cond (fun h => absurd h (by simp [g.hh])) (fun _ => Yes.bind ?_))
 simp only
 rw [ht.1]
 refine Yes.upto l.Design.Rows.length (by omega) (fun i r => r = clothOf i l.Harness.Warps.length fun p w => t p (hk l w)) rfl (fun i r k hi hI hk' => ?_) (fun r k hI => ?_)
 ·subst hI
  obtain ⟨a, ha, ha2, ha3⟩ := ht.2 i (by rw [ht.1]; exact hi)
  have h102 := s102 g (two_lt (by omega) ha2)
  rw [← ha] at h102
  refine Yes.cond (fun _ => Yes.bind (Yes.bind (Yes.idx rfl (by rw [ht.1]; exact hi) (Yes.bind (Yes.of h102 (Yes.bind (Yes.apnd (by simp [clothOf]; omega) (by simp [clothOf]; omega) (Yes.some (hk' _ ?_))))))))) (fun h => absurd h (by simp; omega))
  unfold clothOf
  rw [List.range_succ, List.map_append]
  congr 1
  simp only [List.map_cons, List.map_nil, line]
  congr 2
  refine List.map_congr_left fun w hw => ?_
  rw [ha3 _ (hk_at g (List.mem_range.1 hw)).2]
 ·subst hI
  exact Yes.cond (fun h => absurd h (by simp)) (fun _ => Yes.some (Yes.some rfl))
end Go.Proofs.Ytdkgoipaohacgaa
