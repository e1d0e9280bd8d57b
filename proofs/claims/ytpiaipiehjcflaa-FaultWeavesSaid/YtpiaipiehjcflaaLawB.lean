/- Plain laws: rows of a card as bits. -/
import Derived.Test.YtpiaipiehjcflaaLawA
set_option maxRecDepth 8000
namespace Go.Proofs.Ytpiaipiehjcflaa
open Go.RowKit

theorem pow62 : (2 : Nat) ^ 62 = 4611686018427387904 := by decide
theorem ofInt_small {a : Nat} (ha : a < 2 ^ 62) : (BitVec.ofInt 64 (a : Int)).toNat = a := by
  rw [BitVec.ofInt_natCast, BitVec.toNat_ofNat]
  exact Nat.mod_eq_of_lt (by rw [pow62] at ha; omega)
theorem xor64 {a b : Nat} (ha : a < 2 ^ 62) (hb : b < 2 ^ 62) : bit64 .xor a b = ((a ^^^ b : Nat) : Int) := by
  have hx : a ^^^ b < 2 ^ 62 := Nat.xor_lt_two_pow ha hb
  unfold bit64
  simp only [BitVec.toNat_xor, ofInt_small ha, ofInt_small hb]
  rw [pow62] at hx
  exact w64_id (by omega) (by omega)
theorem or64 {a b : Nat} (ha : a < 2 ^ 62) (hb : b < 2 ^ 62) : bit64 .or a b = ((a ||| b : Nat) : Int) := by
  have hx : a ||| b < 2 ^ 62 := Nat.or_lt_two_pow ha hb
  unfold bit64
  simp only [BitVec.toNat_or, ofInt_small ha, ofInt_small hb]
  rw [pow62] at hx
  exact w64_id (by omega) (by omega)
theorem and64 {a b : Nat} (ha : a < 2 ^ 62) (hb : b < 2 ^ 62) : bit64 .and a b = ((a &&& b : Nat) : Int) := by
  have hx : a &&& b < 2 ^ 62 := Nat.and_lt_two_pow a hb
  unfold bit64
  simp only [BitVec.toNat_and, ofInt_small ha, ofInt_small hb]
  rw [pow62] at hx
  exact w64_id (by omega) (by omega)
theorem shl_bit {h : Nat} (hh : h < 62) : shl64 1 (h : Int) = some ((2 ^ h : Nat) : Int) := by
  have hx : 2 ^ h < 2 ^ 62 := Nat.pow_lt_pow_right (by decide) hh
  rw [pow62] at hx
  unfold shl64
  rw [if_neg (by omega), show min (h : Int).toNat 64 = h by simp; omega, Int.one_mul]
  rw [show ((2 : Int) ^ h) = ((2 ^ h : Nat) : Int) by simp]
  generalize 2 ^ h = q at hx ⊢
  rw [w64_id (by omega) (by omega)]
theorem shl_two {a : Nat} (ha : a < 2 ^ 60) : shl64 (a : Int) 1 = some ((2 * a : Nat) : Int) := by
  have : (2 : Nat) ^ 60 = 1152921504606846976 := by decide
  rw [this] at ha
  unfold shl64
  rw [if_neg (by omega), show min (1 : Int).toNat 64 = 1 by rfl]
  rw [w64_id (by omega) (by omega)]
  simp; omega
theorem shr_bit {a h : Nat} (hh : h < 62) : shr64 (a : Int) (h : Int) = some ((a >>> h : Nat) : Int) := by
  unfold shr64
  rw [if_neg (by omega), show min (h : Int).toNat 64 = h by simp; omega]
  congr 1
  rw [show ((2 : Int) ^ h) = ((2 ^ h : Nat) : Int) by simp, Nat.shiftRight_eq_div_pow]
  generalize 2 ^ h = q
  rw [Int.fdiv_eq_ediv_of_nonneg _ (by omega)]
  exact (Int.natCast_ediv a q).symm

/-! ### Rows as tables of points -/
/-- n rows of H bits: t p h is whether hook h is lifted at pick p. -/
def Tb (H n : Nat) (rows : List Int) (t : Nat → Nat → Bool) : Prop :=
  rows.length = n ∧ ∀ p (hp : p < rows.length), ∃ a : Nat, rows[p] = (a : Int) ∧ a < 2 ^ H ∧ ∀ h, h < H → a.testBit h = t p h
theorem two_lt {H : Nat} (hH : H ≤ 24) {a : Nat} (ha : a < 2 ^ H) : a < 2 ^ 24 := Nat.lt_of_lt_of_le ha (Nat.pow_le_pow_right (by decide) hH)
theorem two24 : (2 : Nat) ^ 24 < 2 ^ 62 := by decide
theorem lt62 {H : Nat} (hH : H ≤ 24) {a : Nat} (ha : a < 2 ^ H) : a < 2 ^ 62 := Nat.lt_trans (two_lt hH ha) two24
/-- One row is changed. -/
theorem Tb.set {H n : Nat} {rows : List Int} {t t' : Nat → Nat → Bool} (ht : Tb H n rows t) {p : Nat} {a : Nat} (ha : a < 2 ^ H) (h1 : ∀ h, h < H → a.testBit h = t' p h) (h2 : ∀ q h, q ≠ p → h < H → t' q h = t q h) : Tb H n (rows.set p (a : Int)) t' := by
  refine ⟨by rw [List.length_set]; exact ht.1, fun q hq => ?_⟩
  rw [List.length_set] at hq
  by_cases hqp : q = p
  · subst hqp
    exact ⟨a, by simp, ha, h1⟩
  · obtain ⟨b, hb, hb2, hb3⟩ := ht.2 q hq
    refine ⟨b, ?_, hb2, fun h hh => by rw [hb3 h hh, h2 q h hqp hh]⟩
    rw [List.getElem_set_ne (fun e => hqp e.symm)]; exact hb
def act1 (p h : Nat) (t : Nat → Nat → Bool) : Nat → Nat → Bool := fun q k => if q = p ∧ k = h then !t q k else t q k
theorem s97 {H n : Nat} (hH : H ≤ 24) {rows : List Int} {t : Nat → Nat → Bool} (ht : Tb H n rows t) (l : FaultFaultLoom) {d : FaultDamage} {p h : Nat} (hp : d.Pick = p) (hpn : p < n) (hh : d.Hook = h) (hhH : h < H) :
    Yes (f97 l d rows) fun r => Tb H n r (act1 p h t) := by
  obtain ⟨a, ha, ha2, ha3⟩ := ht.2 p (by rw [ht.1]; exact hpn)
  have hpl : p < rows.length := by rw [ht.1]; exact hpn
  unfold f97
  refine Yes.bind (Yes.idx hp hpl (Yes.bind (Yes.of (by rw [hh]; exact shl_bit (by omega)) (Yes.bind (Yes.idx hp hpl (Yes.some ?_))))))
  have h2 : 2 ^ h < 2 ^ H := Nat.pow_lt_pow_right (by decide) hhH
  rw [ha, xor64 (lt62 hH ha2) (lt62 hH h2), hp, Int.toNat_natCast]
  refine ht.set (Nat.xor_lt_two_pow ha2 h2) (fun k hk => ?_) (fun q k hq _ => by simp [act1, hq])
  rw [Nat.testBit_xor, ha3 k hk, Nat.testBit_two_pow]
  by_cases e : k = h
  · subst e; simp [act1]
  · simp [act1, e, Ne.symm e]
def act4 (p q : Nat) (t : Nat → Nat → Bool) : Nat → Nat → Bool := fun r k => if r = q then t p k else if r = p then t q k else t r k
theorem s100 {H n : Nat} {rows : List Int} {t : Nat → Nat → Bool} (ht : Tb H n rows t) (hn : n ≤ 1000) (l : FaultFaultLoom) {d : FaultDamage} {p : Nat} (hp : d.Pick = p) (hpn : p < n) :
    Yes (f100 l d rows) fun r => Tb H n r (act4 p ((p + 1) % n) t) := by
  have hpl : p < rows.length := by rw [ht.1]; exact hpn
  have hql : (p + 1) % n < rows.length := by rw [ht.1]; exact Nat.mod_lt _ (by omega)
  obtain ⟨a, ha, ha2, ha3⟩ := ht.2 p hpl
  obtain ⟨b, hb, hb2, hb3⟩ := ht.2 _ hql
  unfold f100
  have hrem : rem64 (w64 (d.Pick + 1)) (rows.length : Int) = some (((p + 1) % n : Nat) : Int) := by
    rw [hp, w64_id (by omega) (by omega), ht.1]
    unfold rem64
    rw [if_neg (by omega)]
    rw [Int.tmod_eq_emod_of_nonneg (by omega)]
    rfl
  refine Yes.bind (Yes.of hrem (Yes.bind (Yes.idx hp hpl (Yes.bind (Yes.idx rfl hql (Yes.bind (Yes.idx hp hpl (Yes.bind (Yes.idx rfl (by rw [List.length_set]; exact hql) (Yes.some ?_))))))))))
  rw [ha, hb, hp, Int.toNat_natCast, Int.toNat_natCast]
  have s1 : Tb H n (rows.set p (b : Int)) (fun r k => if r = p then t ((p + 1) % n) k else t r k) := ht.set hb2 (fun k hk => by rw [hb3 k hk]; simp) (fun q k hq _ => by simp [hq])
  exact s1.set ha2 (fun k hk => by rw [ha3 k hk]; simp [act4]) (fun q k hq _ => by simp [act4, hq])
def act2 (h : Nat) (u : Bool) (t : Nat → Nat → Bool) : Nat → Nat → Bool := fun q k => if k = h then u else t q k
theorem s98 {H n : Nat} (hH : H ≤ 24) {rows : List Int} {t : Nat → Nat → Bool} (ht : Tb H n rows t) (hn : n ≤ 1000) (l : FaultFaultLoom) {d : FaultDamage} {h : Nat} (hh : d.Hook = h) (hhH : h < H) :
    Yes (f98 l d rows) fun r => Tb H n r (act2 h d.Up t) := by
  unfold f98
  have h2 : 2 ^ h < 2 ^ H := Nat.pow_lt_pow_right (by decide) hhH
  have hsh : shl64 1 d.Hook = some ((2 ^ h : Nat) : Int) := by rw [hh]; exact shl_bit (by omega)
  rw [show rows.length = n from ht.1]
  refine Yes.upto n (by omega) (fun i r => Tb H n r (fun q k => if q < i then act2 h d.Up t q k else t q k)) (by simpa using ht) (fun i r k hi hI hk => ?_) (fun r k hI => ?_)
  · obtain ⟨a, ha, ha2, ha3⟩ := hI.2 i (by rw [hI.1]; exact hi)
    have hil : i < r.length := by rw [hI.1]; exact hi
    have hor : a ||| 2 ^ h < 2 ^ H := Nat.or_lt_two_pow ha2 h2
    refine Yes.cond (fun _ => Yes.bind ?_) (fun h => absurd h (by simp; omega))
    refine Yes.bind (Yes.idx rfl hil (Yes.bind (Yes.of hsh (Yes.bind (Yes.idx rfl hil ?_)))))
    rw [ha, or64 (lt62 hH ha2) (lt62 hH h2), Int.toNat_natCast]
    refine Yes.cond (fun hu => ?_) (fun hu => Yes.some (hk _ ?_))
    · refine Yes.bind (Yes.idx rfl (by rw [List.length_set]; exact hil) (Yes.bind (Yes.of hsh (Yes.bind (Yes.idx rfl (by rw [List.length_set]; exact hil) (Yes.some (hk _ ?_)))))))
      simp only [List.getElem_set_self, List.set_set]
      rw [xor64 (lt62 hH hor) (lt62 hH h2)]
      have hu : d.Up = false := by simpa using hu
      refine hI.set (Nat.xor_lt_two_pow hor h2) (fun k hk => ?_) (fun q k hq _ => ?_)
      · rw [Nat.testBit_xor, Nat.testBit_or, ha3 k hk, Nat.testBit_two_pow]
        by_cases e : k = h
        · subst e; simp [act2, hu]
        · simp [act2, e, Ne.symm e]
      · have : (q < i + 1) = (q < i) := by simp; omega
        simp only [this]
    · have hu : d.Up = true := by simpa using hu
      refine hI.set hor (fun k hk => ?_) (fun q k hq _ => ?_)
      · rw [Nat.testBit_or, ha3 k hk, Nat.testBit_two_pow]
        by_cases e : k = h
        · subst e; simp [act2, hu]
        · simp [act2, e, Ne.symm e]
      · have : (q < i + 1) = (q < i) := by simp; omega
        simp only [this]
  · refine Yes.cond (fun h => absurd h (by simp)) (fun _ => Yes.some ?_)
    refine ⟨hI.1, fun q hq => ?_⟩
    obtain ⟨b, hb, hb2, hb3⟩ := hI.2 q hq
    refine ⟨b, hb, hb2, fun k hk => ?_⟩
    rw [hb3 k hk]
    exact if_pos (by rw [← hI.1]; exact hq)
/-- The points of a pick the other way round. -/
def act3 (H p : Nat) (t : Nat → Nat → Bool) : Nat → Nat → Bool := fun q k => if q = p then t p (H - 1 - k) else t q k
theorem s99 {H n : Nat} (hH : H ≤ 24) {rows : List Int} {t : Nat → Nat → Bool} (ht : Tb H n rows t) (l : FaultLoom) (hl : l.Design.Hooks = H) {d : FaultDamage} {p : Nat} (hp : d.Pick = p) (hpn : p < n) :
    Yes (f99 ⟨l⟩ d rows) fun r => Tb H n r (act3 H p t) := by
  have hpl : p < rows.length := by rw [ht.1]; exact hpn
  obtain ⟨b, hb, hb2, hb3⟩ := ht.2 p hpl
  unfold f99
  simp only
  rw [hl]
  refine Yes.bind (Yes.upto H (by omega) (fun i r => ∃ a : Nat, r = (a : Int) ∧ a < 2 ^ i ∧ ∀ j, j < i → a.testBit j = t p (i - 1 - j)) ⟨0, rfl, by simp, fun _ h => absurd h (Nat.not_lt_zero _)⟩ (fun i r k hi hI hk => ?_) (fun r k hI => ?_))
  · obtain ⟨a, rfl, ha, ha2⟩ := hI
    have ha24 : a < 2 ^ 24 := two_lt (by omega) ha
    have ha60 : a < 2 ^ 60 := Nat.lt_trans ha24 (by decide)
    refine Yes.cond (fun _ => Yes.bind (Yes.bind (Yes.of (shl_two ha60) (Yes.bind (Yes.idx hp hpl (Yes.bind (Yes.of (by rw [hb]; exact shr_bit (by omega)) (Yes.some (hk _ ?_))))))))) (fun h => absurd h (by simp; omega))
    have hs : b >>> i < 2 ^ 62 := Nat.lt_of_le_of_lt (Nat.shiftRight_le b i) (lt62 hH hb2)
    rw [show (1 : Int) = ((1 : Nat) : Int) from rfl, and64 hs (by decide)]
    have h1 : (b >>> i) &&& 1 < 2 ^ 1 := Nat.and_lt_two_pow _ (by decide)
    have h2a : 2 * a < 2 ^ (i + 1) := by rw [Nat.pow_succ]; omega
    have hb1 : (b >>> i) &&& 1 < 2 ^ (i + 1) := Nat.lt_of_lt_of_le h1 (Nat.pow_le_pow_right (by decide) (by omega))
    rw [or64 (lt62 (H := i + 1) (by omega) h2a) (lt62 (H := i + 1) (by omega) hb1)]
    refine ⟨_, rfl, Nat.or_lt_two_pow h2a hb1, fun j hj => ?_⟩
    have e2 : 2 * a = a <<< 1 := by rw [Nat.shiftLeft_eq]; omega
    rw [Nat.testBit_or, e2, Nat.testBit_shiftLeft, Nat.testBit_and, Nat.testBit_shiftRight]
    cases j with
    | zero => simp [hb3 i hi]
    | succ j =>
      have : (1 : Nat).testBit (j + 1) = false := by
        rw [show (1 : Nat) = 2 ^ 0 from rfl, Nat.testBit_two_pow]; simp
      rw [this]
      simp only [Nat.add_sub_cancel, Bool.and_false, Bool.or_false]
      rw [ha2 j (by omega)]
      simp
      congr 1; omega
  · obtain ⟨a, rfl, ha, ha2⟩ := hI
    refine Yes.cond (fun h => absurd h (by simp)) (fun _ => Yes.some (Yes.bind (Yes.idx hp hpl (Yes.some ?_))))
    rw [hp, Int.toNat_natCast]
    exact ht.set ha (fun k hk => by rw [ha2 k hk]; simp [act3]) (fun q k hq _ => by simp [act3, hq])
end Go.Proofs.Ytpiaipiehjcflaa
