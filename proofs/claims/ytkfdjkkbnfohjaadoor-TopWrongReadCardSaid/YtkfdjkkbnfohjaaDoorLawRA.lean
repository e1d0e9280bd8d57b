/- Plain laws: a cloth, exactly; a cloth that is all right. -/
import Derived.Test.YtkfdjkkbnfohjaaDoorPrtW1
set_option maxRecDepth 8000
namespace Go.Proofs.YtkfdjkkbnfohjaaDoor
open Go.RowKit
open Classical

theorem pow62 : (2 : Nat) ^ 62 = 4611686018427387904 := by decide
theorem ofInt_small {a : Nat} (ha : a < 2 ^ 62) : (BitVec.ofInt 64 (a : Int)).toNat = a := by
 rw [BitVec.ofInt_natCast, BitVec.toNat_ofNat]
 exact Nat.mod_eq_of_lt (by rw [pow62] at ha; omega)
theorem or64 {a b : Nat} (ha : a < 2 ^ 62) (hb : b < 2 ^ 62) : bit64 .or a b = ((a ||| b : Nat) : Int) := by
 have hx : a ||| b < 2 ^ 62 := Nat.or_lt_two_pow ha hb
 unfold bit64
 simp only [BitVec.toNat_or, ofInt_small ha, ofInt_small hb]
 rw [pow62] at hx
 exact w64_id (by omega) (by omega)
theorem and64 {a b : Nat} (ha : a < 2 ^ 62) (hb : b < 2 ^ 62) : bit64 .and a b = ((a &&& b : Nat) : Int) := by
 have hx : a &&& b < 2 ^ 62 := Nat.and_lt_two_pow a hb
 unfold bit64
 simp only [BitVec.toNat_and, ofInt_small ha, ofInt_small hb]
 rw [pow62] at hx
 exact w64_id (by omega) (by omega)
theorem shr_bit {a h : Nat} (hh : h < 62) : shr64 (a : Int) (h : Int) = some ((a >>> h : Nat) : Int) := by
 unfold shr64
 rw [if_neg (by omega), show min (h : Int).toNat 64 = h by simp; omega]
 congr 1
 rw [show ((2 : Int) ^ h) = ((2 ^ h : Nat) : Int) by simp, Nat.shiftRight_eq_div_pow]
 generalize 2 ^ h = q
 rw [Int.fdiv_eq_ediv_of_nonneg _ (by omega)]
 exact (Int.natCast_ediv a q).symm
theorem and_one (a : Nat) : (((a &&& 1 : Nat) : Int) == (1 : Int)) = a.testBit 0 := by
 rw [Bool.eq_iff_iff, Nat.and_one_is_mod]
 simp [Nat.testBit_zero]
 omega
def bit (r k : Int) : Bool := r.toNat.testBit k.toNat
theorem lift_bit {r k : Int} (hr : 0 ≤ r ∧ r < 4096) (hk : 0 ≤ k ∧ k < 62) : ∃ y, shr64 r k = some y ∧ (bit64 .and y 1 == (1 : Int)) = bit r k := by
 obtain ⟨a, rfl⟩ := Int.eq_ofNat_of_zero_le hr.1
 obtain ⟨h, rfl⟩ := Int.eq_ofNat_of_zero_le hk.1
 refine ⟨_, shr_bit (by omega), ?_⟩
 have hs : a >>> h < 2 ^ 62 := Nat.lt_of_le_of_lt (Nat.shiftRight_le a _) (by rw [pow62]; omega)
 rw [show (1 : Int) = ((1 : Nat) : Int) from rfl, and64 hs (by decide)]
 show (((a >>> h &&& 1 : Nat) : Int) == (1 : Int)) = _
 rw [and_one, Nat.testBit_shiftRight, Nat.add_zero]
 rfl
def mk (b : Bool) : UInt8 := if b then 120 else 46
theorem mk_x (b : Bool) : (mk b == (120 : UInt8)) = b := by cases b <;> rfl
theorem mk_inj {a b : Bool} (h : mk a = mk b) : a = b := by cases a <;> cases b <;> first | rfl | (revert h; decide)
def ln (W : List Int) (r : Int) : Str := ⟨W.map fun k => mk (bit r k)⟩
def wv (W : List Int) (rows : List Int) : List Str := rows.map (ln W)
theorem g53 {H : Nat} {h : TieHarness} {r : Int} (hH : H ≤ 12) (hk : HOk H h) (hr : 0 ≤ r ∧ r < 4096) : f53 ⟨h⟩ r = some (ln h.Warps r) := by
 obtain ⟨k1, k2, k3⟩ := hk
 refine Yes.eq ?_
 unfold f53
 refine Yes.bind (Yes.mono (Q' := fun s => s = h.Warps.map fun k => mk (bit r k)) ?_ fun s hs => ?_)
 ·refine Yes.upto h.Warps.length (by omega) (fun i s => s = (h.Warps.take i).map fun k => mk (bit r k)) rfl (fun i s k hi hI hk => ?_) (fun s k hI => ?_)
  ·have hl : s.length = i := by rw [hI]; simp; omega
   obtain ⟨y, hy, hyb⟩ := lift_bit hr (k := h.Warps[i]) (by have := k3 _ (List.getElem_mem hi); omega)
   refine qtake (decide_eq_true (by show (i : Int) < (h.Warps.length : Int); omega)) (Yes.bind (Yes.bind (Yes.mono (Q' := fun b => b = bit r h.Warps[i]) ?_ fun b hb => Yes.bind (Yes.mono (Q' := fun c => c = mk b) ?_ fun c hc => Yes.bind (Yes.apnd (by rw [hl]; simp; omega) (by rw [hl]; simp; omega) (Yes.some (hk _ ?_)))))))
   ·unfold f101
    exact qbind _ (qidx hi) (qbind _ hy (Yes.some hyb))
   ·unfold f100
    cases b
    ·exact Yes.jn (qskip rfl (Yes.some rfl))
    ·exact Yes.jn (qtake rfl (Yes.some rfl))
   ·rw [hI, take_succ hi, List.map_append, hc, hb]; rfl
  ·exact qskip (decide_eq_false (by show ¬ (h.Warps.length : Int) < (h.Warps.length : Int); omega)) (Yes.some (by rw [hI, List.take_length]))
 ·subst hs
  have : sbstr (h.Warps.map fun k => mk (bit r k)) = some (ln h.Warps r) := by
   unfold sbstr
   rw [if_neg fun e => by have := congrArg List.length e; rw [List.length_map, List.length_nil] at this; omega]
   rfl
  exact qbind _ this (Yes.some rfl)
theorem g15 {H : Nat} {h : TieHarness} {d : Design} (hH : 1 ≤ H ∧ H ≤ 12) (hk : HOk H h) (hd : DOk H d) : f15 h d = some (wv h.Warps d.Rows, 0) := by
 have h12 := hd.2.1
 have hp := pow_rng hH.2
 refine Yes.eq ?_
 unfold f15
 refine Yes.jn (qbind _ (c105 hH hk) (qskip rfl (Yes.jn (qbind _ (c102 hH hd) (qskip rfl (qskip ?_ ?_))))))
 ·rw [hd.1, hk.1]; simp
 ·refine Yes.bind (Yes.mono (Q' := fun s => s = wv h.Warps d.Rows) ?_ fun s hs => Yes.some (by rw [hs]))
  refine Yes.upto d.Rows.length (by omega) (fun i s => s = wv h.Warps (d.Rows.take i)) rfl (fun i s k hi hI hk2 => ?_) (fun s k hI => qskip (decide_eq_false (by omega)) (Yes.some (by rw [hI, List.take_length])))
  have hl : s.length = i := by rw [hI]; simp [wv]; omega
  have hr := hd.2.2 _ (List.getElem_mem hi)
  refine qtake (decide_eq_true (by omega)) (Yes.bind (qbind _ (qidx hi) (qbind _ (g53 hH.2 hk (by omega)) (Yes.bind (Yes.apnd (by rw [hl]; simp; omega) (by rw [hl]; simp; omega) (Yes.some (hk2 _ ?_)))))))
  rw [hI, take_succ hi]
  unfold wv
  rw [List.map_append]
  rfl
theorem c125 (xs : List Str) (φ : Str → Option Bool) (p : Str → Bool) (hl : xs.length < 9223372036854775807) (h : ∀ a ∈ xs, φ a = some (p a)) : f125 xs φ = some (xs.any p) :=
 Yes.eq (Yes.bind (Yes.mono (index_is xs φ p hl h) fun _ hr => Yes.some (index_any hr)))
theorem set_xo : (f170 ⟨[120, 46]⟩).map (fun r => (r.2, f198 r.1 120, f198 r.1 46)) = some (true, some true, some true) := by kernel_rfl
theorem cut_end {α : Type} {xs : List α} {n : Nat} (h : n ≤ xs.length) : cut xs 0 (n : Int) = some (xs.take n) := by unfold cut; rw [if_pos ⟨by omega, by omega, by omega⟩]; simp
theorem g124 {s : Str} (hl : s.b.length ≤ 1000) (hs : ∀ c ∈ s.b, c = 120 ∨ c = 46) : f124 s ⟨[120, 46]⟩ = some ⟨[]⟩ := by
 refine Yes.eq ?_
 obtain ⟨⟨aset, ok⟩, ha, he⟩ := Option.map_eq_some_iff.1 set_xo
 simp only [Prod.mk.injEq] at he
 obtain ⟨rfl, hx, ho⟩ := he
 have hc : ∀ c, c = 120 ∨ c = 46 → f198 aset c = some true := fun c h => by rcases h with rfl | rfl <;> assumption
 unfold f124
 by_cases h0 : s.b = []
 ·have : s = ⟨[]⟩ := by cases s; simp only at h0; rw [h0]
  subst this
  exact Yes.jn (Yes.bind (qtake rfl (Yes.some (qtake rfl (Yes.some rfl)))))
 refine Yes.jn (Yes.bind (qskip (by simpa using h0) (Yes.some (qskip rfl (Yes.jn (Yes.bind (qskip rfl (Yes.some (qskip rfl (Yes.jn (qbind _ ha (qtake rfl ?_)))))))))))) 
 refine Yes.bind (Yes.mono (Q' := fun r => r = ⟨[]⟩) ?_ fun r hr => Yes.bind (Yes.mono (Q' := fun r => r = ⟨[]⟩) ?_ fun r hr => Yes.some hr))
 ·unfold f172
  refine Yes.bind (Yes.lp (fun t => t.b.length ≤ 1000 ∧ ∀ c ∈ t.b, c = 120 ∨ c = 46) (fun t => t.b.length) ⟨hl, hs⟩ (by omega) ?_)
  rintro t k ⟨t1, t2⟩ hk
  refine Yes.jn (Yes.cond (fun hc2 => ?_) (fun hc2 => Yes.some (Yes.some ?_)))
  ·have hpos : (t.b.length : Int) > 0 := of_decide_eq_true hc2
   have e : w64 ((t.b.length : Int) - 1) = ((t.b.length - 1 : Nat) : Int) := by rw [w64_id (by omega) (by omega)]; omega
   rw [e]
   have hlt : t.b.length - 1 < t.b.length := by omega
   refine Yes.jn (qbind _ (qidx hlt) (qbind true (hc _ (t2 _ (List.getElem_mem hlt))) (qskip rfl (qbind _ (cut_end (by omega)) (hk _ ⟨?_, fun c hc => t2 c (List.mem_of_mem_take hc)⟩ ?_)))))
   ·show (t.b.take _).length ≤ _; simp; omega
   ·show (t.b.take _).length < _; simp; omega
  ·have : ¬ (t.b.length : Int) > 0 := of_decide_eq_false hc2
   have h1 : t.b = [] := List.eq_nil_of_length_eq_zero (by omega)
   cases t; simp only at h1; rw [h1]
 ·subst hr
  unfold f171
  refine Yes.bind (Yes.lp (fun t => t = ⟨[]⟩) (fun _ => 0) rfl (by omega) ?_)
  rintro t k rfl _
  exact Yes.jn (qskip rfl (Yes.some (Yes.some rfl)))
theorem ln_b {W : List Int} {r : Int} : ∀ c ∈ (ln W r).b, c = 120 ∨ c = 46 := fun c hc => by
 obtain ⟨k, _, rfl⟩ := List.mem_map.1 hc
 unfold mk
 split
 ·exact .inl rfl
 ·exact .inr rfl
theorem ln_len {W : List Int} {r : Int} : (ln W r).b.length = W.length := by simp [ln]
theorem g103 {W rows : List Int} (hw : 1 ≤ W.length ∧ W.length ≤ 96) (hr : 1 ≤ rows.length ∧ rows.length ≤ 10) : f103 (wv W rows) (W.length : Int) = some 0 := by
 have hl : (wv W rows).length = rows.length := by simp [wv]
 refine Yes.eq ?_
 unfold f103
 refine Yes.jn (qskip (decide_eq_false (by rw [hl]; omega)) (qskip (beq_eq_false_iff_ne.2 (by rw [hl]; omega)) (Yes.bind (qbind true (c184 _ _ _ (by simp) fun a ha => by rw [List.mem_singleton.1 ha]; omega) (qskip rfl (qbind false ?_ (Yes.some (qskip rfl (Yes.some rfl)))))))))
 rw [c125 (wv W rows) _ (fun _ => false) (by rw [hl]; omega) fun s hs => ?_]
 ·simp
 ·obtain ⟨r, _, rfl⟩ := List.mem_map.1 hs
  refine Yes.eq ?_
  unfold f156
  refine Yes.bind (qskip (by rw [ln_len]; simp) (qbind _ (g124 (by rw [ln_len]; omega) ln_b) (Yes.some (Yes.some rfl))))
end Go.Proofs.YtkfdjkkbnfohjaaDoor
