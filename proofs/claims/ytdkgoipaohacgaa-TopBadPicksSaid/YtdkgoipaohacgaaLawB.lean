/- What a damaged loom weaves. -/
import Derived.Test.YtdkgoipaohacgaaLawA
set_option maxRecDepth 8000
namespace Go.Proofs.Ytdkgoipaohacgaa
open Go.RowKit
def Br (m : Nat) (br : List (Int × Bool)) (B : Nat → Bool) : Prop := (∀ q ∈ br, ∃ w : Nat, q.1 = (w : Int) ∧ w < m ∧ B w = true) ∧ ∀ w, B w = true → ∃ q ∈ br, q.1 = (w : Int)
theorem mset_mem {br : List (Int × Bool)} {k : Int} {v : Bool} {q : Int × Bool} (h : q ∈ mset br k v) : q = (k, v) ∨ q ∈ br := by
 induction br with
 | nil => simp [mset] at h; exact .inl h
 | cons p m ih =>
  unfold mset at h
  split at h
  ·rcases List.mem_cons.1 h with rfl | h
   ·exact .inl rfl
   ·exact .inr (List.mem_cons_of_mem _ h)
  ·rcases List.mem_cons.1 h with rfl | h
   ·exact .inr List.mem_cons_self
   ·rcases ih h with h | h
    ·exact .inl h
    ·exact .inr (List.mem_cons_of_mem _ h)
theorem mset_key {br : List (Int × Bool)} {k : Int} {v : Bool} : ∃ q ∈ mset br k v, q.1 = k := by
 induction br with
 | nil => exact ⟨(k, v), by simp [mset], rfl⟩
 | cons p m ih =>
  unfold mset
  split
  ·exact ⟨(k, v), List.mem_cons_self, rfl⟩
  ·obtain ⟨q, hq, e⟩ := ih; exact ⟨q, List.mem_cons_of_mem _ hq, e⟩
theorem mset_old {br : List (Int × Bool)} {k : Int} {v : Bool} {q : Int × Bool} (h : q ∈ br) : ∃ q' ∈ mset br k v, q'.1 = q.1 := by
 induction br with
 | nil => cases h
 | cons p m ih =>
  unfold mset
  split
  ·rename_i hp
   rcases List.mem_cons.1 h with rfl | h
   ·exact ⟨_, List.mem_cons_self, hp.symm⟩
   ·exact ⟨q, List.mem_cons_of_mem _ h, rfl⟩
  ·rcases List.mem_cons.1 h with rfl | h
   ·exact ⟨_, List.mem_cons_self, rfl⟩
   ·obtain ⟨q', hq', e⟩ := ih h; exact ⟨q', List.mem_cons_of_mem _ hq', e⟩
theorem mset_len (br : List (Int × Bool)) (k : Int) (v : Bool) : (mset br k v).length ≤ br.length + 1 := by
 induction br with
 | nil => simp [mset]
 | cons p m ih => unfold mset; split <;> simp <;> omega
def actT (l : FaultLoom) (d : FaultDamage) (t : Nat → Nat → Bool) : Nat → Nat → Bool :=
 if d.Kind = 1 then act1 d.Pick.toNat d.Hook.toNat t else if d.Kind = 2 then act2 d.Hook.toNat d.Up t else if d.Kind = 3 then act3 l.Design.Hooks.toNat d.Pick.toNat t
 else if d.Kind = 4 then act4 d.Pick.toNat ((d.Pick.toNat + 1) % l.Design.Rows.length) t else t
def actB (d : FaultDamage) (B : Nat → Bool) : Nat → Bool := if d.Kind = 5 then fun w => decide (w = d.Warp.toNat) || B w else B
theorem dmg_is {l : FaultLoom} {d : FaultDamage} (h : dmg l d = true) :
  (d.Kind = 1 ∧ (0 ≤ d.Pick ∧ d.Pick < l.Design.Rows.length) ∧ 0 ≤ d.Hook ∧ d.Hook < l.Design.Hooks) ∨ (d.Kind = 2 ∧ 0 ≤ d.Hook ∧ d.Hook < l.Design.Hooks) ∨
  ((d.Kind = 3 ∨ d.Kind = 4) ∧ 0 ≤ d.Pick ∧ d.Pick < l.Design.Rows.length) ∨ (d.Kind = 5 ∧ 0 ≤ d.Warp ∧ d.Warp < l.Harness.Warps.length) := by
 unfold dmg btw at h
 split at h
 ·rename_i k; simp at h; exact .inl ⟨k, by omega, by omega⟩
 split at h
 ·rename_i k; simp at h; exact .inr (.inl ⟨k, by omega⟩)
 split at h
 ·rename_i k; simp at h; exact .inr (.inr (.inl ⟨k, by omega⟩))
 split at h
 ·rename_i k; simp at h; exact .inr (.inr (.inr ⟨k, by omega⟩))
 ·cases h
theorem sfchg {l : FaultLoom} (g : Good l) {d : FaultDamage} (hd : dmg l d = true) {rows : List Int} {br : List (Int × Bool)} {t : Nat → Nat → Bool} {B : Nat → Bool}
  (ht : Tb l.Design.Hooks.toNat l.Design.Rows.length rows t) (hb : Br l.Harness.Warps.length br B) :
  Yes (fchg d.Kind ⟨l⟩ d rows br) fun r => Tb l.Design.Hooks.toNat l.Design.Rows.length r.1 (actT l d t) ∧ Br l.Harness.Warps.length r.2 (actB d B) ∧ r.2.length ≤ br.length + 1 := by
 have h1 := g.h1
 have h24 := g.h24
 have r1 := g.r1
 have mp : ∀ {x : Option (List Int)} {Q : List Int → Prop}, Yes x Q → Yes (x.map fun r => (r, br)) fun r => Q r.1 ∧ r.2 = br := fun ⟨a, ha, hq⟩ => ⟨(a, br), by rw [ha]; rfl, hq, rfl⟩
 unfold fchg actT actB
 rcases dmg_is hd with ⟨k, hp, hh⟩ | ⟨k, hh⟩ | ⟨k | k, hp⟩ | ⟨k, hw⟩
 ·simp only [k]
  exact (mp (s97 (by omega) ht ⟨l⟩ (p := d.Pick.toNat) (h := d.Hook.toNat) (by omega) (by omega) (by omega) (by omega))).mono fun r hr => ⟨hr.1, by rw [hr.2]; exact hb, by rw [hr.2]; omega⟩
 ·simp only [k]
  exact (mp (s98 (by omega) ht (by omega) ⟨l⟩ (h := d.Hook.toNat) (by omega) (by omega))).mono fun r hr => ⟨hr.1, by rw [hr.2]; exact hb, by rw [hr.2]; omega⟩
 ·simp only [k]
  exact (mp (s99 (by omega) ht l (by omega) (p := d.Pick.toNat) (by omega) (by omega))).mono fun r hr => ⟨hr.1, by rw [hr.2]; exact hb, by rw [hr.2]; omega⟩
 ·simp only [k]
  exact (mp (s100 ht (by omega) ⟨l⟩ (p := d.Pick.toNat) (by omega) (by omega))).mono fun r hr => ⟨hr.1, by rw [hr.2]; exact hb, by rw [hr.2]; omega⟩
 ·simp only [k]
  refine ⟨(rows, mset br d.Warp true), rfl, ht, ⟨fun q hq => ?_, fun w hw' => ?_⟩, mset_len _ _ _⟩
  ·rcases mset_mem hq with rfl | hq
   ·exact ⟨d.Warp.toNat, by simp only; omega, by omega, by simp⟩
   ·obtain ⟨w, e, hlt, hB⟩ := hb.1 q hq
    exact ⟨w, e, hlt, by simp [hB]⟩
  ·simp only [if_true, Bool.or_eq_true, decide_eq_true_eq] at hw'
   rcases hw' with rfl | hw'
   ·obtain ⟨q, hq, e⟩ := mset_key (br := br) (k := d.Warp) (v := true)
    exact ⟨q, hq, by rw [e]; omega⟩
   ·obtain ⟨q, hq, e⟩ := hb.2 w hw'
    obtain ⟨q', hq', e'⟩ := mset_old (k := d.Warp) (v := true) hq
    exact ⟨q', hq', e'.trans e⟩
theorem splits_mem {α : Type} : ∀ {xs : List α} {p : α × List α}, p ∈ splits xs → p.2.length < xs.length ∧ p.1 ∈ xs ∧ (∀ q ∈ p.2, q ∈ xs) ∧ ∀ q ∈ xs, q = p.1 ∨ q ∈ p.2
 | [], p, h => by simp [splits] at h
 | x :: xs, p, h => by
  rcases List.mem_cons.1 h with rfl | h
  ·exact ⟨by simp, List.mem_cons_self, fun q hq => List.mem_cons_of_mem _ hq, fun q hq => List.mem_cons.1 hq⟩
  ·obtain ⟨p', hp', rfl⟩ := List.mem_map.1 h
   obtain ⟨h1, h2, h3, h4⟩ := splits_mem hp'
   refine ⟨by simpa using h1, List.mem_cons_of_mem _ h2, fun q hq => ?_, fun q hq => ?_⟩
   ·rcases List.mem_cons.1 hq with rfl | hq
    ·exact List.mem_cons_self
    ·exact List.mem_cons_of_mem _ (h3 q hq)
   ·rcases List.mem_cons.1 hq with rfl | hq
    ·exact .inr List.mem_cons_self
    ·rcases h4 q hq with h | h
     ·exact .inl h
     ·exact .inr (List.mem_cons_of_mem _ h)
theorem yes_pickAll {α ρ : Type} [DecidableEq ρ] {rem : List α} {k : α → List α → Option ρ} {R : ρ} (hne : rem ≠ []) (h : ∀ p ∈ splits rem, Yes (k p.1 p.2) (fun r => r = R)) : Yes (Go.Proofs.Ytdkgoipaohacgaa.pickAll rem k) (fun r => r = R) := by
 cases rem with
 | nil => exact absurd rfl hne
 | cons x xs =>
  unfold Go.Proofs.Ytdkgoipaohacgaa.pickAll
  have hx := (h (x, xs) (by simp [splits])).eq
  have hall : ∀ y ∈ ((splits xs).map fun p => (p.1, x :: p.2)).map (fun p => k p.1 p.2), y = some R := fun y hy => by
   obtain ⟨p, hp, rfl⟩ := List.mem_map.1 hy
   exact (h p (by unfold splits; exact List.mem_cons_of_mem _ hp)).eq
  simp only [splits, List.map_cons]
  simp only at hx
  rw [hx, if_pos (List.all_eq_true.2 fun y hy => by simpa using hall y hy)]
  exact ⟨R, rfl, rfl⟩
theorem dots {m : Nat} {br : List (Int × Bool)} {B : Nat → Bool} (hb : Br m br B) (c : Nat → Bool) (hlen : br.length < 1000000) :
  lp (σ := (List UInt8) × (List (Int × Bool))) (fun k156 (m12, m64) => bif m64.isEmpty then some m12 else Go.Proofs.Ytdkgoipaohacgaa.pickAll m64 fun q rm => (idx m12 q.1).bind fun _ => k156 ((List.set m12 (Int.toNat q.1) ((46 : UInt8))), rm))
   big ((line m c).b, br) = some (line m fun w => c w && !B w).b := by
 refine Yes.eq ?_
 refine Yes.lp (fun s => s.1.length = m ∧ (∀ q ∈ s.2, ∃ w : Nat, q.1 = (w : Int) ∧ w < m ∧ B w = true) ∧ ∀ w (hw : w < s.1.length), (B w = false → s.1[w] = mark (c w)) ∧ (B w = true → s.1[w] = 46 ∨ ∃ q ∈ s.2, q.1 = (w : Int)))
  (fun s => s.2.length) ⟨by simp [line], hb.1, fun w hw => ⟨fun _ => by simp [line], fun h => .inr (hb.2 w h)⟩⟩ (by simp only; omega) ?_
 rintro ⟨bs, rem⟩ k ⟨hl, hr, hw⟩ hk
 simp only at hl hr hw hk ⊢
 refine Yes.cond (fun he => Yes.some ?_) (fun he => yes_pickAll (by intro h; subst h; simp at he) fun p hp => ?_)
 ·have : rem = [] := by simpa using he
  subst this
  refine List.ext_getElem (by simp [line, hl]) fun w h1 h2 => ?_
  have := hw w h1
  simp only [line, List.getElem_map, List.getElem_range]
  cases hB : B w with
  | false => rw [this.1 hB]; simp
  | true =>
   rcases this.2 hB with h | ⟨q, hq, _⟩
   ·rw [h]; simp [mark]
   ·cases hq
 ·obtain ⟨h1, h2, h3, h4⟩ := splits_mem hp
  obtain ⟨w, e, hlt, hB⟩ := hr _ h2
  obtain ⟨⟨k1, k2⟩, l2⟩ := p
  simp only at h1 h2 h3 h4 e ⊢
  subst e
  refine Yes.bind (Yes.idx rfl (by rw [hl]; exact hlt) (hk _ ⟨by rw [List.length_set]; exact hl, fun q hq => hr q (h3 q hq), fun v hv => ?_⟩ h1))
  rw [List.length_set] at hv
  simp only [Int.toNat_natCast]
  by_cases hvw : v = w
  ·subst hvw
   exact ⟨fun h => absurd h (by rw [hB]; decide), fun _ => .inl (by simp)⟩
  ·rw [List.getElem_set_ne (fun h => hvw h.symm)]
   refine ⟨(hw v hv).1, fun hB' => ?_⟩
   rcases (hw v hv).2 hB' with h | ⟨q, hq, e'⟩
   ·exact .inl h
   ·rcases h4 q hq with rfl | hq
    ·exact absurd (by simp only at e'; omega) hvw
    ·exact .inr ⟨q, hq, e'⟩
def after (l : FaultLoom) (ds : List FaultDamage) : (Nat → Nat → Bool) × (Nat → Bool) := ds.foldl (fun s d => (actT l d s.1, actB d s.2)) (tab l, fun _ => false)
def rnd (l : FaultLoom) (ds : List FaultDamage) : List Str := clothOf l.Design.Rows.length l.Harness.Warps.length fun p w => (after l ds).1 p (hk l w) && !(after l ds).2 w
theorem after_take {l : FaultLoom} {ds : List FaultDamage} {i : Nat} (hi : i < ds.length) : after l (ds.take (i + 1)) = (actT l ds[i] (after l (ds.take i)).1, actB ds[i] (after l (ds.take i)).2) := by
 unfold after
 rw [List.take_succ_eq_append_getElem hi, List.foldl_append]
 rfl
theorem s55 {l : FaultLoom} (g : Good l) {ds ds' : List FaultDamage} (hs : f87 ds (fun a0 a1 => f88 a0 a1) = some ds') (hl : ds.length ≤ 100000) (hl' : ds'.length ≤ 100000) (hall : ∀ d ∈ ds', dmg l d = true) : f42 ⟨l⟩ ds = some (rnd l ds') := by
 have hr1 := g.r1
 have hw1 := g.w1
 refine Yes.eq ?_
 unfold f42 f54 f86
 refine Yes.bind (Yes.apnd (by simp; omega) (by simp; omega) (Yes.bind (Yes.apnd (by simp; omega) (by simp; omega) ?_)))
 rw [List.nil_append, List.nil_append]
 refine Yes.bind (Yes.of hs (Yes.bind ?_))
 refine Yes.upto2 ds'.length (by omega) (fun i rows br => Tb l.Design.Hooks.toNat l.Design.Rows.length rows (after l (ds'.take i)).1 ∧ Br l.Harness.Warps.length br (after l (ds'.take i)).2 ∧ br.length ≤ i)
  ⟨tab_good g, ⟨fun q hq => by (cases hq), fun w hw => by (cases hw)⟩, Nat.le_refl _⟩ (fun i rows br k hi hI hk' => ?_) (fun rows br k hI => ?_)
 ·obtain ⟨ht, hb, hlen⟩ := hI
  refine Yes.cond (fun _ => Yes.bind (Yes.bind (Yes.idx rfl hi (Yes.bind ((sfchg g (hall _ (List.getElem_mem hi)) ht hb).mono fun r hr => Yes.some (hk' _ _ ?_)))))) (fun h => absurd h (by simp; omega))
  rw [after_take hi]
  exact ⟨hr.1, hr.2.1, by have := hr.2.2; omega⟩
 ·obtain ⟨ht, hb, hlen⟩ := hI
  rw [List.take_length] at ht hb
  refine Yes.cond (fun h => absurd h (by simp)) (fun _ => Yes.some (Yes.bind (Yes.of (s82 g ht) (Yes.bind ?_))))
  simp only
  rw [show (clothOf l.Design.Rows.length l.Harness.Warps.length fun p w => (after l ds').1 p (hk l w)).length = l.Design.Rows.length by simp [clothOf]]
  refine Yes.upto l.Design.Rows.length (by omega) (fun i r => r = (List.range l.Design.Rows.length).map fun p => line l.Harness.Warps.length fun w => (after l ds').1 p (hk l w) && !(decide (p < i) && (after l ds').2 w)) ?_ (fun i r k hi hI hk' => ?_) (fun r k hI => ?_)
  ·simp [clothOf]
  ·subst hI
   refine Yes.cond (fun _ => Yes.bind (Yes.bind (Yes.idx rfl (by simpa using hi) (Yes.bind ?_)))) (fun h => absurd h (by simp; omega))
   simp only [List.getElem_map, List.getElem_range]
   refine Yes.of (dots hb _ (by omega)) (Yes.bind (Yes.idx rfl (by simpa using hi) (Yes.some (hk' _ ?_))))
   rw [Int.toNat_natCast]
   refine List.ext_getElem (by simp) fun p h1 h2 => ?_
   simp only [List.length_set, List.length_map, List.length_range] at h1
   rw [List.getElem_set]
   simp only [List.getElem_map, List.getElem_range]
   by_cases hpi : i = p
   ·subst hpi
    rw [if_pos rfl]
    show line _ _ = line _ _
    congr 1; funext w; simp
   ·rw [if_neg hpi]
    congr 1; funext w
    have : (decide (p < i + 1)) = decide (p < i) := by
     rw [Bool.eq_iff_iff]; simp; omega
    rw [this]
  ·subst hI
   refine Yes.cond (fun h => absurd h (by simp)) (fun _ => Yes.some (Yes.some ?_))
   unfold rnd clothOf
   refine List.map_congr_left fun p hp => ?_
   have hp := List.mem_range.1 hp
   congr 1; funext w; simp [hp]
theorem lp_big {σ ρ : Type} (body : (σ → Option ρ) → σ → Option ρ) (s : σ) : lp body big s = body (lp body 18446744073709551615) s := by
 rw [show big = 18446744073709551615 + 1 by unfold big; rfl]; rfl
theorem s107_few (xs : List FaultDamage) (n : Int) (hn : n ≤ 1) (φ : FaultDamage → FaultDamage → Option Int) : f177 xs 0 n φ = some xs := by
 unfold f177
 rw [lp_big, w64_id (n := 0 + 1) (by decide) (by decide)]
 have : decide ((0 : Int) + 1 < n) = false := by simp; omega
 simp only [jn, this, cond_false]
theorem s96_few (xs : List FaultDamage) (n : Int) (hn : n < 20) (φ : FaultDamage → FaultDamage → Option Int) (ys : List FaultDamage) (h : f177 xs 0 n φ = some ys) : f139 xs n φ = some ys := by
 unfold f139
 rw [lp_big]
 have h1 : decide ((20 : Int) ≤ n) = false := by simp; omega
 simp only [jn, h1, cond_false, Option.bind_some, h]
 rw [lp_big]
 have h2 : decide ((20 : Int) < n) = false := by simp; omega
 simp only [h2, cond_false]
theorem s78_nil : f87 [] (fun a0 a1 => f88 a0 a1) = some [] := by
 unfold f87; rw [s96_few [] _ (by simp) _ [] (s107_few _ _ (by simp) _)]; rfl
theorem s78_one (d : FaultDamage) : f87 [d] (fun a0 a1 => f88 a0 a1) = some [d] := by
 unfold f87; rw [s96_few [d] _ (by simp) _ [d] (s107_few _ _ (by simp) _)]; rfl
end Go.Proofs.Ytdkgoipaohacgaa
