/- Plain laws: a cloth, exactly; a cloth that is all right. -/
import Derived.Test.YtkfdjkkbnfohjaaDoorPrtF1
set_option maxRecDepth 8000
namespace Go.Proofs.YtkfdjkkbnfohjaaDoor
open Go.RowKit
open Classical

theorem pow62 : (2 : Nat) ^ 62 = 4611686018427387904 := by decide
theorem ofInt_small {a : Nat} (ha : a < 2 ^ 62) : (BitVec.ofInt 64 (a : Int)).toNat = a := by
 rw [BitVec.ofInt_natCast, BitVec.toNat_ofNat]
 exact Nat.mod_eq_of_lt (by rw [pow62] at ha; omega)
theorem or64 {a b : Nat} (ha : a < 2 ^ 62) (hb : b < 2 ^ 62) : bit64 .or a b = ((a ||| b : Nat) : Int) := by
 have hx : a ||| b < 2 ^ 62 := Nat.or_lt_two_pow ha hb
 unfold bit64
 simp only [BitVec.toNat_or, ofInt_small ha, ofInt_small hb]
 rw [pow62] at hx
 exact w64_id (by omega) (by omega)
theorem and64 {a b : Nat} (ha : a < 2 ^ 62) (hb : b < 2 ^ 62) : bit64 .and a b = ((a &&& b : Nat) : Int) := by
 have hx : a &&& b < 2 ^ 62 := Nat.and_lt_two_pow a hb
 unfold bit64
 simp only [BitVec.toNat_and, ofInt_small ha, ofInt_small hb]
 rw [pow62] at hx
 exact w64_id (by omega) (by omega)
theorem shr_bit {a h : Nat} (hh : h < 62) : shr64 (a : Int) (h : Int) = some ((a >>> h : Nat) : Int) := by
 unfold shr64
 rw [if_neg (by omega), show min (h : Int).toNat 64 = h by simp; omega]
 congr 1
 rw [show ((2 : Int) ^ h) = ((2 ^ h : Nat) : Int) by simp, Nat.shiftRight_eq_div_pow]
 generalize 2 ^ h = q
 rw [Int.fdiv_eq_ediv_of_nonneg _ (by omega)]
 exact (Int.natCast_ediv a q).symm
theorem and_one (a : Nat) : (((a &&& 1 : Nat) : Int) == (1 : Int)) = a.testBit 0 := by
 rw [Bool.eq_iff_iff, Nat.and_one_is_mod]
 simp [Nat.testBit_zero]
 omega
def bit (r k : Int) : Bool := r.toNat.testBit k.toNat
theorem lift_bit {r k : Int} (hr : 0 ≤ r ∧ r < 4096) (hk : 0 ≤ k ∧ k < 62) : ∃ y, shr64 r k = some y ∧ (bit64 .and y 1 == (1 : Int)) = bit r k := by
 obtain ⟨a, rfl⟩ := Int.eq_ofNat_of_zero_le hr.1
 obtain ⟨h, rfl⟩ := Int.eq_ofNat_of_zero_le hk.1
 refine ⟨_, shr_bit (by omega), ?_⟩
 have hs : a >>> h < 2 ^ 62 := Nat.lt_of_le_of_lt (Nat.shiftRight_le a _) (by rw [pow62]; omega)
 rw [show (1 : Int) = ((1 : Nat) : Int) from rfl, and64 hs (by decide)]
 show (((a >>> h &&& 1 : Nat) : Int) == (1 : Int)) = _
 rw [and_one, Nat.testBit_shiftRight, Nat.add_zero]
 rfl
def mk (b : Bool) : UInt8 := if b then 120 else 46
theorem mk_x (b : Bool) : (mk b == (120 : UInt8)) = b := by cases b <;> rfl
theorem mk_inj {a b : Bool} (h : mk a = mk b) : a = b := by cases a <;> cases b <;> first | rfl | (revert h; decide)
def ln (W : List Int) (r : Int) : Str := ⟨W.map fun k => mk (bit r k)⟩
def wv (W : List Int) (rows : List Int) : List Str := rows.map (ln W)
theorem g53 {H : Nat} {h : TieHarness} {r : Int} (hH : H ≤ 12) (hk : HOk H h) (hr : 0 ≤ r ∧ r < 4096) : f53 ⟨h⟩ r = some (ln h.Warps r) := by
 obtain ⟨k1, k2, k3⟩ := hk
 refine Yes.eq ?_
 unfold f53
 refine Yes.bind (Yes.mono (Q' := fun s => s = h.Warps.map fun k => mk (bit r k)) ?_ fun s hs => ?_)
 ·refine Yes.upto h.Warps.length (by omega) (fun i s => s = (h.Warps.take i).map fun k => mk (bit r k)) rfl (fun i s k hi hI hk => ?_) (fun s k hI => ?_)
  ·have hl : s.length = i := by rw [hI]; simp; omega
   obtain ⟨y, hy, hyb⟩ := lift_bit hr (k := h.Warps[i]) (by have := k3 _ (List.getElem_mem hi); omega)
   refine qtake (decide_eq_true (by show (i : Int) < (h.Warps.length : Int); omega)) (Yes.bind (Yes.bind (Yes.mono (Q' := fun b => b = bit r h.Warps[i]) ?_ fun b hb => Yes.bind (Yes.mono (Q' := fun c => c = mk b) ?_ fun c hc => Yes.bind (Yes.apnd (by rw [hl]; simp; omega) (by rw [hl]; simp; omega) (Yes.some (hk _ ?_)))))))
   ·unfold f101
    exact qbind _ (qidx hi) (qbind _ hy (Yes.some hyb))
   ·unfold f100
    cases b
    ·exact Yes.jn (qskip rfl (Yes.some rfl))
    ·exact Yes.jn (qtake rfl (Yes.some rfl))
   ·rw [hI, take_succ hi, List.map_append, hc, hb]; rfl
  ·exact qskip (decide_eq_false (by show ¬ (h.Warps.length : Int) < (h.Warps.length : Int); omega)) (Yes.some (by rw [hI, List.take_length]))
 ·subst hs
  have : sbstr (h.Warps.map fun k => mk (bit r k)) = some (ln h.Warps r) := by
   unfold sbstr
   rw [if_neg fun e => by have := congrArg List.length e; rw [List.length_map, List.length_nil] at this; omega]
   rfl
  exact qbind _ this (Yes.some rfl)
theorem g15 {H : Nat} {h : TieHarness} {d : Design} (hH : 1 ≤ H ∧ H ≤ 12) (hk : HOk H h) (hd : DOk H d) : f15 h d = some (wv h.Warps d.Rows, 0) := by
 have h12 := hd.2.1
 have hp := pow_rng hH.2
 refine Yes.eq ?_
 unfold f15
 refine Yes.jn (qbind _ (c105 hH hk) (qskip rfl (Yes.jn (qbind _ (c102 hH hd) (qskip rfl (qskip ?_ ?_))))))
 ·rw [hd.1, hk.1]; simp
 ·refine Yes.bind (Yes.mono (Q' := fun s => s = wv h.Warps d.Rows) ?_ fun s hs => Yes.some (by rw [hs]))
  refine Yes.upto d.Rows.length (by omega) (fun i s => s = wv h.Warps (d.Rows.take i)) rfl (fun i s k hi hI hk2 => ?_) (fun s k hI => qskip (decide_eq_false (by omega)) (Yes.some (by rw [hI, List.take_length])))
  have hl : s.length = i := by rw [hI]; simp [wv]; omega
  have hr := hd.2.2 _ (List.getElem_mem hi)
  refine qtake (decide_eq_true (by omega)) (Yes.bind (qbind _ (qidx hi) (qbind _ (g53 hH.2 hk (by omega)) (Yes.bind (Yes.apnd (by rw [hl]; simp; omega) (by rw [hl]; simp; omega) (Yes.some (hk2 _ ?_)))))))
  rw [hI, take_succ hi]
  unfold wv
  rw [List.map_append]
  rfl
theorem c125 (xs : List Str) (φ : Str → Option Bool) (p : Str → Bool) (hl : xs.length < 9223372036854775807) (h : ∀ a ∈ xs, φ a = some (p a)) : f125 xs φ = some (xs.any p) :=
 Yes.eq (Yes.bind (Yes.mono (index_is xs φ p hl h) fun _ hr => Yes.some (index_any hr)))
theorem set_xo : (f170 ⟨[120, 46]⟩).map (fun r => (r.2, f198 r.1 120, f198 r.1 46)) = some (true, some true, some true) := by kernel_rfl
theorem cut_end {α : Type} {xs : List α} {n : Nat} (h : n ≤ xs.length) : cut xs 0 (n : Int) = some (xs.take n) := by unfold cut; rw [if_pos ⟨by omega, by omega, by omega⟩]; simp
theorem g124 {s : Str} (hl : s.b.length ≤ 1000) (hs : ∀ c ∈ s.b, c = 120 ∨ c = 46) : f124 s ⟨[120, 46]⟩ = some ⟨[]⟩ := by
 refine Yes.eq ?_
 obtain ⟨⟨aset, ok⟩, ha, he⟩ := Option.map_eq_some_iff.1 set_xo
 simp only [Prod.mk.injEq] at he
 obtain ⟨rfl, hx, ho⟩ := he
 have hc : ∀ c, c = 120 ∨ c = 46 → f198 aset c = some true := fun c h => by rcases h with rfl | rfl <;> assumption
 unfold f124
 by_cases h0 : s.b = []
 ·have : s = ⟨[]⟩ := by cases s; simp only at h0; rw [h0]
  subst this
  exact Yes.jn (Yes.bind (qtake rfl (Yes.some (qtake rfl (Yes.some rfl)))))
 refine Yes.jn (Yes.bind (qskip (by simpa using h0) (Yes.some (qskip rfl (Yes.jn (Yes.bind (qskip rfl (Yes.some (qskip rfl (Yes.jn (qbind _ ha (qtake rfl ?_)))))))))))) 
 refine Yes.bind (Yes.mono (Q' := fun r => r = ⟨[]⟩) ?_ fun r hr => Yes.bind (Yes.mono (Q' := fun r => r = ⟨[]⟩) ?_ fun r hr => Yes.some hr))
 ·unfold f172
  refine Yes.bind (Yes.lp (fun t => t.b.length ≤ 1000 ∧ ∀ c ∈ t.b, c = 120 ∨ c = 46) (fun t => t.b.length) ⟨hl, hs⟩ (by omega) ?_)
  rintro t k ⟨t1, t2⟩ hk
  refine Yes.jn (Yes.cond (fun hc2 => ?_) (fun hc2 => Yes.some (Yes.some ?_)))
  ·have hpos : (t.b.length : Int) > 0 := of_decide_eq_true hc2
   have e : w64 ((t.b.length : Int) - 1) = ((t.b.length - 1 : Nat) : Int) := by rw [w64_id (by omega) (by omega)]; omega
   rw [e]
   have hlt : t.b.length - 1 < t.b.length := by omega
   refine Yes.jn (qbind _ (qidx hlt) (qbind true (hc _ (t2 _ (List.getElem_mem hlt))) (qskip rfl (qbind _ (cut_end (by omega)) (hk _ ⟨?_, fun c hc => t2 c (List.mem_of_mem_take hc)⟩ ?_)))))
   ·show (t.b.take _).length ≤ _; simp; omega
   ·show (t.b.take _).length < _; simp; omega
  ·have : ¬ (t.b.length : Int) > 0 := of_decide_eq_false hc2
   have h1 : t.b = [] := List.eq_nil_of_length_eq_zero (by omega)
   cases t; simp only at h1; rw [h1]
 ·subst hr
  unfold f171
  refine Yes.bind (Yes.lp (fun t => t = ⟨[]⟩) (fun _ => 0) rfl (by omega) ?_)
  rintro t k rfl _
  exact Yes.jn (qskip rfl (Yes.some (Yes.some rfl)))
theorem ln_b {W : List Int} {r : Int} : ∀ c ∈ (ln W r).b, c = 120 ∨ c = 46 := fun c hc => by
 obtain ⟨k, _, rfl⟩ := List.mem_map.1 hc
 unfold mk
 split
 ·exact .inl rfl
 ·exact .inr rfl
theorem ln_len {W : List Int} {r : Int} : (ln W r).b.length = W.length := by simp [ln]
theorem g103 {W rows : List Int} (hw : 1 ≤ W.length ∧ W.length ≤ 96) (hr : 1 ≤ rows.length ∧ rows.length ≤ 10) : f103 (wv W rows) (W.length : Int) = some 0 := by
 have hl : (wv W rows).length = rows.length := by simp [wv]
 refine Yes.eq ?_
 unfold f103
 refine Yes.jn (qskip (decide_eq_false (by rw [hl]; omega)) (qskip (beq_eq_false_iff_ne.2 (by rw [hl]; omega)) (Yes.bind (qbind true (c184 _ _ _ (by simp) fun a ha => by rw [List.mem_singleton.1 ha]; omega) (qskip rfl (qbind false ?_ (Yes.some (qskip rfl (Yes.some rfl)))))))))
 rw [c125 (wv W rows) _ (fun _ => false) (by rw [hl]; omega) fun s hs => ?_]
 ·simp
 ·obtain ⟨r, _, rfl⟩ := List.mem_map.1 hs
  refine Yes.eq ?_
  unfold f156
  refine Yes.bind (qskip (by rw [ln_len]; simp) (qbind _ (g124 (by rw [ln_len]; omega) ln_b) (Yes.some (Yes.some rfl))))
end Go.Proofs.YtkfdjkkbnfohjaaDoor
/- Plain laws: the fewest hooks. -/
set_option maxRecDepth 8000
namespace Go.Proofs.YtkfdjkkbnfohjaaDoor
open Go.RowKit
open Classical

section
variable {κ β : Type} [DecidableEq κ] [DecidableEq β]
def ins (ks : List κ) (k : κ) : List κ := if k ∈ ks then ks else ks ++ [k]
theorem ins_in {ks : List κ} {k : κ} (h : k ∈ ks) : ins ks k = ks := if_pos h
theorem ins_out {ks : List κ} {k : κ} (h : ¬ k ∈ ks) : ins ks k = ks ++ [k] := if_neg h
theorem ins_mem {ks : List κ} {k x : κ} : x ∈ ins ks k ↔ x ∈ ks ∨ x = k := by
 unfold ins
 split
 ·exact ⟨.inl, fun h => h.elim id fun e => e ▸ (by assumption)⟩
 ·simp
theorem ins_nodup {ks : List κ} {k : κ} (h : ks.Nodup) : (ins ks k).Nodup := by
 unfold ins
 split
 ·exact h
 ·rename_i hk
  exact List.nodup_append.2 ⟨h, by simp, fun a ha b hb e => hk (by rw [List.mem_singleton.1 hb] at e; exact e ▸ ha)⟩
theorem ded_mem {x : κ} : ∀ {L ks : List κ}, x ∈ L.foldl ins ks ↔ x ∈ ks ∨ x ∈ L
 | [], ks => by simp
 | a :: L, ks => by rw [List.foldl_cons, ded_mem, ins_mem, List.mem_cons]; exact ⟨fun h => by rcases h with (h | h) | h <;> simp [h], fun h => by rcases h with h | h | h <;> simp [h]⟩
theorem ded_nodup : ∀ {L ks : List κ}, ks.Nodup → (L.foldl ins ks).Nodup
 | [], _, h => h
 | _ :: L, _, h => ded_nodup (L := L) (ins_nodup h)
theorem ded_snoc (L : List κ) (k : κ) (ks : List κ) : (L ++ [k]).foldl ins ks = ins (L.foldl ins ks) k := by rw [List.foldl_append]; rfl
theorem ded_map {f : β → κ} {S : β → Prop} (hf : ∀ a b, S a → S b → f a = f b → a = b) : ∀ {L ks : List β}, (∀ a ∈ ks, S a) → (∀ a ∈ L, S a) → (L.map f).foldl ins (ks.map f) = (L.foldl ins ks).map f
 | [], _, _, _ => rfl
 | a :: L, ks, h1, h2 => by
  have ha := h2 a (by simp)
  have e : ins (ks.map f) (f a) = (ins ks a).map f := by
   unfold ins
   by_cases h : a ∈ ks
   ·rw [if_pos h, if_pos (List.mem_map_of_mem h)]
   ·rw [if_neg h, if_neg fun hm => by
     obtain ⟨b, hb, he⟩ := List.mem_map.1 hm
     exact h (hf b a (h1 b hb) ha he ▸ hb)]
    simp
  rw [List.map_cons, List.foldl_cons, List.foldl_cons, e]
  exact ded_map hf (fun b hb => by rcases ins_mem.1 hb with h | rfl; exact h1 b h; exact ha) (fun b hb => h2 b (List.mem_cons_of_mem _ hb))
theorem nodup_img (g : Nat → κ) : ∀ (n : Nat) (K : List κ), K.Nodup → (∀ c ∈ K, ∃ k, k < n ∧ g k = c) → K.length ≤ n
 | 0, K, _, h => by
  cases K with
  | nil => simp
  | cons a K => obtain ⟨k, hk, _⟩ := h a (by simp); exact absurd hk (Nat.not_lt_zero _)
 | n + 1, K, hd, h => by
  by_cases hm : g n ∈ K
  ·have h1 := nodup_img g n (K.erase (g n)) (hd.erase _) fun c hc => by
    have h2 := (hd.mem_erase_iff).1 hc
    obtain ⟨k, hk, e⟩ := h c h2.2
    have : k ≠ n := fun e2 => h2.1 (by rw [← e, e2])
    exact ⟨k, by omega, e⟩
   rw [List.length_erase_of_mem hm] at h1
   omega
  ·have h1 := nodup_img g n K hd fun c hc => by
    obtain ⟨k, hk, e⟩ := h c hc
    have : k ≠ n := fun e2 => hm (by rw [← e2, e]; exact hc)
    exact ⟨k, by omega, e⟩
   omega
theorem mset_keys {ν : Type} {k : κ} {v : ν} : ∀ {m : List (κ × ν)}, (mset m k v).map (·.1) = ins (m.map (·.1)) k
 | [] => rfl
 | p :: m => by
  have ih := mset_keys (k := k) (v := v) (m := m)
  unfold mset
  by_cases h : p.1 = k
  ·rw [if_pos h, ins_in (by simp [h])]
   simp [h]
  ·rw [if_neg h, List.map_cons, ih]
   by_cases hm : k ∈ m.map (·.1)
   ·rw [ins_in hm]
    show p.1 :: m.map (·.1) = ins (p.1 :: m.map (·.1)) k
    rw [ins_in (List.mem_cons_of_mem _ hm)]
   ·rw [ins_out hm]
    show p.1 :: (m.map (·.1) ++ [k]) = ins (p.1 :: m.map (·.1)) k
    rw [ins_out fun hc => by
     rcases List.mem_cons.1 hc with e | e
     ·exact h e.symm
     ·exact hm e]
    rfl
theorem mget_at {ν : Type} {k : κ} {m : List (κ × ν)} (h : k ∈ m.map (·.1)) : ∃ j, ∃ hj : j < m.length, m[j].1 = k ∧ mget m k = some m[j].2 := by
 obtain ⟨p, hp, he⟩ := List.mem_map.1 h
 obtain ⟨q, hq⟩ : ∃ q, m.find? (fun p => decide (p.1 = k)) = some q := by
  rw [← Option.isSome_iff_exists, List.find?_isSome]
  exact ⟨p, hp, by simpa using he⟩
 obtain ⟨j, hj, e⟩ := List.getElem_of_mem (List.mem_of_find?_eq_some hq)
 refine ⟨j, hj, by rw [e]; simpa using List.find?_some hq, ?_⟩
 unfold mget
 rw [hq, e]; rfl
end
def bl (rows : List Int) (k : Int) : List Bool := rows.map fun r => bit r k
def cs (b : List Bool) : Str := ⟨b.map mk⟩
theorem map_mk_inj : ∀ {x y : List Bool}, x.map mk = y.map mk → x = y
 | [], [], _ => rfl
 | [], _ :: _, h => by simp at h
 | _ :: _, [], h => by simp at h
 | a :: x, b :: y, h => by
  simp only [List.map_cons, List.cons.injEq] at h
  rw [mk_inj h.1, map_mk_inj h.2]
theorem cs_inj {x y : List Bool} (h : cs x = cs y) : x = y := map_mk_inj (congrArg Str.b h)
theorem g104 {W rows : List Int} {w : Nat} (hw : w < W.length) (hr : 1 ≤ rows.length ∧ rows.length ≤ 10) : f104 (wv W rows) (w : Int) = some (cs (bl rows W[w])) := by
 have hl : (wv W rows).length = rows.length := by simp [wv]
 refine Yes.eq ?_
 unfold f104
 refine Yes.bind (Yes.mono (Q' := fun s => s = (bl rows W[w]).map mk) ?_ fun s hs => ?_)
 ·refine Yes.upto rows.length (by omega) (fun i s => s = (bl (rows.take i) W[w]).map mk) rfl (fun i s k hi hI hk => ?_) (fun s k hI => qskip (decide_eq_false (by rw [hl]; omega)) (Yes.some (by rw [hI, List.take_length])))
  have hsl : s.length = i := by rw [hI]; simp [bl]; omega
  have hi2 : i < (wv W rows).length := by omega
  have e1 : (wv W rows)[i] = ln W rows[i] := by simp [wv]
  have hwl : w < (ln W rows[i]).b.length := by rw [ln_len]; exact hw
  refine qtake (decide_eq_true (by rw [hl]; omega)) (Yes.bind (qbind _ (qidx hi2) ?_))
  rw [e1]
  refine qbind _ (qidx hwl) (Yes.bind (Yes.apnd (by rw [hsl]; simp; omega) (by rw [hsl]; simp; omega) (Yes.some (hk _ ?_))))
  have eb : (ln W rows[i]).b[w] = mk (bit rows[i] W[w]) := by simp [ln]
  rw [hI, eb, take_succ hi]
  unfold bl
  rw [List.map_append, List.map_append]
  rfl
 ·subst hs
  have : sbstr ((bl rows W[w]).map mk) = some (cs (bl rows W[w])) := by
   unfold sbstr
   rw [if_neg fun e => by have := congrArg List.length e; rw [List.length_map, bl, List.length_map, List.length_nil] at this; omega]
   rfl
  exact qbind _ this (Yes.some rfl)
structure Few (W rows : List Int) (h : TieHarness) : Prop where
 hooks : h.Hooks = (((W.map (bl rows)).foldl ins []).length : Int)
 len : h.Warps.length = W.length
 at_ : ∀ w (h1 : w < h.Warps.length) (h2 : w < W.length), ∃ j : Nat, h.Warps[w] = j ∧ ((W.map fun k => cs (bl rows k)).foldl ins [])[j]? = some (cs (bl rows W[w]))
theorem ded_cs (W rows : List Int) : ((W.map fun k => cs (bl rows k)).foldl ins []) = ((W.map (bl rows)).foldl ins []).map cs := by
 have h := ded_map (f := cs) (S := fun _ => True) (fun a b _ _ e => cs_inj e) (L := W.map (bl rows)) (ks := []) (by simp) (by simp)
 rw [← h]
 simp [List.map_map, Function.comp_def]
theorem few_le {H : Nat} {W rows : List Int} (hW : ∀ a ∈ W, 0 ≤ a ∧ a ≤ (H : Int) - 1) : ((W.map (bl rows)).foldl ins []).length ≤ H := by
 refine nodup_img (fun k => bl rows (k : Int)) H _ (ded_nodup List.nodup_nil) fun c hc => ?_
 rcases ded_mem.1 hc with h | h
 ·cases h
 ·obtain ⟨k, hk, rfl⟩ := List.mem_map.1 h
  have := hW k hk
  exact ⟨k.toNat, by omega, by show bl rows ((k.toNat : Nat) : Int) = _; rw [Int.toNat_of_nonneg this.1]⟩
theorem g54 {H : Nat} (hH : H ≤ 12) {W rows : List Int} (hw : 1 ≤ W.length ∧ W.length ≤ 96) (hr : 1 ≤ rows.length ∧ rows.length ≤ 10) (hW : ∀ a ∈ W, 0 ≤ a ∧ a ≤ (H : Int) - 1) :
  Yes (f54 (wv W rows)) (fun r => r.2 = 0 ∧ Few W rows r.1) := by
 have hl : (wv W rows).length = rows.length := by simp [wv]
 have hfew := few_le (rows := rows) hW
 have hdl : ((W.map fun k => cs (bl rows k)).foldl ins []).length = ((W.map (bl rows)).foldl ins []).length := by rw [ded_cs, List.length_map]
 unfold f54
 have h0 : 0 < (wv W rows).length := by omega
 have e0 : (wv W rows)[0].b.length = W.length := by simp [wv, ln]
 refine Yes.bind (qtake (decide_eq_true (by rw [hl]; omega)) (qbind _ (qidx (i := 0) h0) (Yes.some ?_)))
 rw [e0]
 refine Yes.jn (qbind _ (g103 hw hr) (qskip rfl ?_))
 let C : List Str := W.map fun k => cs (bl rows k)
 have hCl : C.length = W.length := by simp [C]
 have hCat : ∀ w (h : w < C.length) (h2 : w < W.length), C[w] = cs (bl rows W[w]) := fun w h h2 => by simp [C]
 refine Yes.bind (Yes.mono (Q' := fun r => r.1.Warps.length = W.length ∧ r.2.map (·.1) = C.foldl ins [] ∧ ∀ w (h1 : w < r.1.Warps.length) (h2 : w < C.length), ∃ j : Nat, r.1.Warps[w] = j ∧ (C.foldl ins [])[j]? = some C[w]) ?_ fun r hr2 => ?_)
 ·refine Yes.upto2 W.length (by omega) (fun i h m => h.Warps.length = i ∧ m.map (·.1) = (C.take i).foldl ins [] ∧ (∀ j (hj : j < m.length), m[j].2 = (j : Int)) ∧ ∀ w (h1 : w < h.Warps.length) (h2 : w < C.length), ∃ j : Nat, h.Warps[w] = j ∧ ((C.take i).foldl ins [])[j]? = some C[w])
   ⟨rfl, rfl, fun j hj => absurd hj (Nat.not_lt_zero _), fun w h1 => absurd h1 (Nat.not_lt_zero _)⟩ (fun i h m k hi hI hk => ?_) (fun h m k hI => ?_)
  ·obtain ⟨i1, i2, i3, i4⟩ := hI
   have hiC : i < C.length := by omega
   have hml : m.length = ((C.take i).foldl ins []).length := by rw [← i2, List.length_map]
   have hmle : m.length ≤ 12 := by
    have hsub : ((C.take i).foldl ins []).length ≤ H := by
     have e : C.take i = (W.take i).map fun k => cs (bl rows k) := by simp [C, List.map_take]
     rw [e, ded_cs, List.length_map]
     exact few_le fun a ha => hW a (List.mem_of_mem_take ha)
    omega
   have hnext : (C.take (i + 1)).foldl ins [] = ins ((C.take i).foldl ins []) C[i] := by rw [take_succ hiC, ded_snoc]
   refine qtake (decide_eq_true (by omega)) (Yes.bind (qbind _ (g104 hi hr) ?_))
   rw [← hCat i hiC hi]
   have key : ∀ (m' : List (Str × Int)) (j : Nat), m'.map (·.1) = (C.take (i + 1)).foldl ins [] → (∀ j (hj : j < m'.length), m'[j].2 = (j : Int)) → ((C.take (i + 1)).foldl ins [])[j]? = some C[i] →
     (∀ (q : Nat) c, ((C.take i).foldl ins [])[q]? = some c → ((C.take (i + 1)).foldl ins [])[q]? = some c) →
     Yes ((apnd 8 h.Warps [(j : Int)]).bind fun y91 => some ({ h with Warps := y91 }, m')) (fun r => Yes (k (r.1, r.2, w64 ((i : Int) + 1))) fun r => r.1.Warps.length = W.length ∧ r.2.map (·.1) = C.foldl ins [] ∧ ∀ w (h1 : w < r.1.Warps.length) (h2 : w < C.length), ∃ j : Nat, r.1.Warps[w] = j ∧ (C.foldl ins [])[j]? = some C[w]) := fun m' j k1 k2 k3 k4 => by
    refine Yes.bind (Yes.apnd (by rw [i1]; simp; omega) (by rw [i1]; simp; omega) (Yes.some (hk _ _ ⟨by show (h.Warps ++ [(j : Int)]).length = _; rw [List.length_append, i1]; rfl, k1, k2, fun w h1 h2 => ?_⟩)))
    have h1 : w < (h.Warps ++ [(j : Int)]).length := h1
    by_cases hwi : w < h.Warps.length
    ·obtain ⟨q, q1, q2⟩ := i4 w hwi h2
     exact ⟨q, by show (h.Warps ++ [(j : Int)])[w] = _; rw [List.getElem_append_left hwi]; exact q1, k4 _ _ q2⟩
    ·have hwe : w = i := by rw [List.length_append] at h1; simp at h1; omega
     subst hwe
     refine ⟨j, ?_, k3⟩
     show (h.Warps ++ [(j : Int)])[w] = _
     rw [List.getElem_append_right (by omega)]; simp
   by_cases hin : C[i] ∈ m.map (·.1)
   ·obtain ⟨j, hj, j1, j2⟩ := mget_at hin
    have hin2 : C[i] ∈ (C.take i).foldl ins [] := by rw [← i2]; exact hin
    have hsame : (C.take (i + 1)).foldl ins [] = (C.take i).foldl ins [] := by rw [hnext, ins_in hin2]
    refine Yes.bind (qskip (by rw [j2]; rfl) (Yes.some ?_))
    rw [j2, Option.getD_some, i3 j hj]
    refine key m j (by rw [hsame]; exact i2) i3 ?_ (fun q c h => by rw [hsame]; exact h)
    rw [hsame, ← i2, List.getElem?_map, List.getElem?_eq_getElem hj, Option.map_some, j1]
   ·have hno := mget_none hin
    have hin2 : ¬ C[i] ∈ (C.take i).foldl ins [] := by rw [← i2]; exact hin
    have hsame : (C.take (i + 1)).foldl ins [] = (C.take i).foldl ins [] ++ [C[i]] := by rw [hnext, ins_out hin2]
    refine Yes.bind (qtake (by rw [hno]; rfl) (Yes.some ?_))
    rw [mset_new hin]
    refine key (m ++ [(C[i], (m.length : Int))]) m.length (by rw [hsame, List.map_append, i2]; rfl) (fun j hj => ?_) ?_ (fun q c h => ?_)
    ·by_cases hjm : j < m.length
     ·rw [List.getElem_append_left hjm]; exact i3 j hjm
     ·have : j = m.length := by rw [List.length_append] at hj; simp at hj; omega
      subst this; simp
    ·rw [hsame, hml, List.getElem?_append_right (Nat.le_refl _)]; simp
    ·rw [hsame, List.getElem?_append_left (List.getElem?_eq_some_iff.1 h).1]; exact h
  ·obtain ⟨i1, i2, i3, i4⟩ := hI
   rw [← hCl, List.take_length] at i2 i4
   exact qskip (decide_eq_false (by omega)) (Yes.some ⟨i1, i2, i4⟩)
 ·obtain ⟨r1, r2, r3⟩ := hr2
  have hN : r.2.length = ((W.map (bl rows)).foldl ins []).length := by rw [← hdl, ← List.length_map (f := (·.1)), r2]
  refine Yes.jn (qskip (decide_eq_false (by show ¬ (r.2.length : Int) > 24; omega)) (Yes.some ⟨rfl, by show (r.2.length : Int) = _; rw [hN], r1, fun w h1 h2 => ?_⟩))
  obtain ⟨j, j1, j2⟩ := r3 w h1 (by omega)
  exact ⟨j, j1, by rw [j2, hCat w (by omega) h2]⟩
end Go.Proofs.YtkfdjkkbnfohjaaDoor
