/- TopYarnShared: what shade.Fill answers. -/
import Derived.Test.YticdblhibbaojaaDoorLawYA
set_option maxRecDepth 8000
namespace Go.Proofs.YticdblhibbaojaaDoor
open Go.RowKit
open Classical

def btY (a b x : Int) : Bool := decide (a ≤ x ∧ x ≤ b)
theorem btY_iff {a b x : Int} : btY a b x = true ↔ a ≤ x ∧ x ≤ b := by simp [btY]
theorem y48 (x a b : Int) : f48 x a b = some (!btY a b x) := by unfold f48 btY; by_cases h1 : x < a <;> by_cases h2 : x > b <;> simp [h1, h2] <;> omega
theorem y38 (xs : List Int) (φ : Int → Option Bool) (p : Int → Bool) (hl : xs.length < 9223372036854775807) (h : ∀ a ∈ xs, φ a = some (p a)) : f38 xs φ = some (xs.any p) :=
 Yes.eq (Yes.bind (Yes.mono (index_is xs φ p hl h) fun _ hr => Yes.some (index_any hr)))
theorem y43 (xs : List ShadeEntry) (φ : ShadeEntry → Option Bool) (p : ShadeEntry → Bool) (hl : xs.length < 9223372036854775807) (h : ∀ a ∈ xs, φ a = some (p a)) : f43 xs φ = some (xs.any p) :=
 Yes.eq (Yes.bind (Yes.mono (index_is xs φ p hl h) fun _ hr => Yes.some (index_any hr)))
theorem y45 (xs : List ShadeLot) (φ : ShadeLot → Option Bool) (p : ShadeLot → Bool) (hl : xs.length < 9223372036854775807) (h : ∀ a ∈ xs, φ a = some (p a)) : f45 xs φ = some (xs.any p) :=
 Yes.eq (Yes.bind (Yes.mono (index_is xs φ p hl h) fun _ hr => Yes.some (index_any hr)))
theorem y24 (a b : Int) (xs : List Int) (hl : xs.length < 9223372036854775807) (h : ∀ x ∈ xs, a ≤ x ∧ x ≤ b) : f24 a b xs = some true := by
 unfold f24
 rw [y38 xs _ (fun x => !btY a b x) hl fun x _ => y48 x a b]
 simp only [Option.bind_some, Option.some.injEq, Bool.not_eq_true', List.any_eq_false]
 exact fun x hx => by rw [btY_iff.2 (h x hx)]; simp
theorem y24a {a b x : Int} (h : a ≤ x ∧ x ≤ b) : f24 a b [x] = some true := y24 a b [x] (by simp) fun y hy => by rw [List.mem_singleton.1 hy]; exact h
/-! ### Lots -/
structure Lots (l : List ShadeLot) : Prop where
 n : l.length ≤ 6
 ok : ∀ x ∈ l, (0 ≤ x.Colour ∧ x.Colour ≤ 1) ∧ (0 ≤ x.Shade.Low ∧ x.Shade.Low ≤ x.Shade.High ∧ x.Shade.High ≤ 1000) ∧ 1 ≤ x.Grams ∧ x.Grams ≤ 2000
variable {l : List ShadeLot}
theorem y47 (h : Lots l) {x : ShadeLot} (hx : x ∈ l) : f47 x = some true := by
 obtain ⟨h1, h2, h3⟩ := h.ok x hx
 refine Yes.eq ?_
 unfold f47
 refine Yes.bind (zbind _ (y24a (by omega)) (ztake rfl (zbind _ (y24 _ _ _ (by simp) fun y hy => ?_) (ztake rfl (ztake (decide_eq_true h2.2.1) (zbind _ (y24a (by omega)) (Yes.some (Yes.some rfl))))))))
 simp at hy
 rcases hy with rfl | rfl <;> omega
theorem y10 (h : Lots l) {t : Int} (ht : 0 ≤ t ∧ t ≤ 1000) : f10 l t = some (⟨l, t⟩, 0) := by
 have hn := h.n
 have h23 : f23 l = some 0 := by
  refine Yes.eq ?_
  unfold f23
  refine Yes.jn (zskip (decide_eq_false (by omega)) (zbind _ (y45 l _ (fun _ => false) (by omega) fun a ha => ?_) (zskip (by simp) (Yes.some rfl))))
  unfold f46
  rw [y47 h ha]; rfl
 refine Yes.eq ?_
 unfold f10
 exact zbind _ h23 (Yes.bind (Yes.bind (ztake rfl (zbind _ (y24a ht) (Yes.some (zskip rfl (Yes.some (Yes.some rfl))))))))
theorem y11 {q : ShadeNeed} (h1 : q.Colour = 0) (h2 : 1 ≤ q.Grams ∧ q.Grams ≤ 12000000) : f11 q = some true := by
 refine Yes.eq ?_
 unfold f11
 exact Yes.bind (zbind _ (y24a (by omega)) (ztake rfl (zbind _ (y24a h2) (Yes.some (Yes.some rfl)))))
def lt (l : List ShadeLot) (i : Int) : ShadeLot := l.getD i.toNat ⟨0, ⟨0, 0⟩, 0⟩
theorem lt_idx {i : Int} (h : 0 ≤ i ∧ i < (l.length : Int)) : idx l i = some (lt l i) := by
 unfold idx lt
 rw [if_pos h.1, List.getD_eq_getElem?_getD, List.getElem?_eq_getElem (by omega)]; rfl
theorem lt_mem {i : Int} (h : 0 ≤ i ∧ i < (l.length : Int)) : lt l i ∈ l := by
 unfold lt
 rw [List.getD_eq_getElem?_getD, List.getElem?_eq_getElem (by omega)]; exact List.getElem_mem _
def gs (l : List ShadeLot) (b : List Int) : Int := (b.map fun i => (lt l i).Grams).sum
theorem gs_take {b : List Int} {i : Nat} (h : i < b.length) : gs l (b.take (i + 1)) = gs l (b.take i) + (lt l b[i]).Grams := by
 unfold gs
 rw [List.take_succ_eq_append_getElem h, List.map_append, List.sum_append]; simp
theorem gs_rng (h : Lots l) : ∀ {b : List Int}, (∀ i ∈ b, 0 ≤ i ∧ i < (l.length : Int)) → 0 ≤ gs l b ∧ gs l b ≤ 2000 * b.length
 | [], _ => by simp [gs]
 | i :: b, hb => by
  have ih := gs_rng h (b := b) fun j hj => hb j (by simp [hj])
  have hi := (h.ok _ (lt_mem (hb i (by simp)))).2.2
  have : gs l (i :: b) = (lt l i).Grams + gs l b := by simp [gs]
  rw [this, List.length_cons]; omega
theorem y26 (h : Lots l) {t : Int} {n : Nat} (hn : n < 64) (hb : ∀ i ∈ blY n, 0 ≤ i ∧ i < (l.length : Int)) : f26 ⟨l, t⟩ ⟨(n : Int)⟩ = some (gs l (blY n)) := by
 have hl6 := (bl_props hn).2.1
 refine Yes.eq ?_
 unfold f26
 refine Yes.bind (zbind _ (s25 hn) ?_)
 refine Yes.upto (σ := Int) (blY n).length (by omega) (fun i s => s = gs l ((blY n).take i)) (by simp [gs]) (fun i s k hi hI hk => ?_) (fun s k hI => ?_)
 ·have hm := hb _ (List.getElem_mem hi)
  have hg := gs_rng h (b := (blY n).take (i + 1)) fun j hj => hb j (List.mem_of_mem_take hj)
  have hlen : ((blY n).take (i + 1)).length ≤ 6 := by rw [List.length_take]; omega
  refine ztake (decide_eq_true (by omega)) (Yes.bind (zbind _ (zidx hi) (zbind _ (lt_idx hm) (Yes.some (hk _ ?_)))))
  show w64 (s + (lt l (blY n)[i]).Grams) = _
  rw [hI, ← gs_take hi, w64_id (by omega) (by omega)]
 ·refine zskip (decide_eq_false (by omega)) (Yes.some ?_)
  rw [hI, List.take_length]; exact Yes.some rfl
theorem y51 {m : List ShadeLot} (h1 : m ≠ []) (h6 : m.length ≤ 1000) : Yes (f51 m) fun _ => True := by
 cases m with
 | nil => exact absurd rfl h1
 | cons a m =>
  have hl : (a :: m).length = m.length + 1 := rfl
  have hc : cut (a :: m) (1 : Int) ((a :: m).length : Int) = some m := by unfold cut; rw [if_pos ⟨by omega, by omega, by omega⟩]; simp
  unfold f51
  refine zbind a rfl (zbind a rfl (Yes.bind (zbind m hc ?_)))
  refine Yes.upto2 (σ := Span) (τ := Span) m.length (by omega) (fun _ _ _ => True) trivial (fun i s q k hi _ hk => ?_) (fun s q k _ => ?_)
  ·exact ztake (decide_eq_true (by omega)) (Yes.bind (zbind _ (zidx hi) (Yes.some (hk _ _ trivial))))
  ·exact zskip (decide_eq_false (by omega)) (Yes.some (Yes.some trivial))
theorem y27 (h : Lots l) {t : Int} {n : Nat} (hn : n < 64) (h1 : 1 ≤ n) (hb : ∀ i ∈ blY n, 0 ≤ i ∧ i < (l.length : Int)) : Yes (f27 ⟨l, t⟩ ⟨(n : Int)⟩) fun b => b = true → ∀ i ∈ blY n, ∀ j ∈ blY n, (lt l i).Colour = (lt l j).Colour := by
 obtain ⟨p1, p2, _⟩ := bl_props hn
 have hne := p1 h1
 unfold f27
 refine Yes.bind (zbind _ (s25 hn) (Yes.mono (Q' := fun m => m = (blY n).map (lt l)) ?_ fun m hm => ?_))
 ·refine Yes.upto (σ := List ShadeLot) (blY n).length (by omega) (fun i s => s = ((blY n).take i).map (lt l)) (by simp) (fun i s k hi hI hk => ?_) (fun s k hI => ?_)
  ·have hm := hb _ (List.getElem_mem hi)
   subst hI
   refine ztake (decide_eq_true (by omega)) (Yes.bind (zbind _ (zidx hi) (zbind _ (lt_idx hm) (Yes.bind (Yes.apnd (by simp; omega) (by simp; omega) (Yes.some (hk _ ?_)))))))
   rw [List.take_succ_eq_append_getElem hi, List.map_append]; rfl
  ·refine zskip (decide_eq_false (by omega)) (Yes.some ?_)
   rw [hI, List.take_length]
 ·subst hm
  cases hbl : blY n with
  | nil => exact absurd hbl hne
  | cons c b =>
   have h50 : ∀ x ∈ (c :: b).map (lt l), f50 x ((c :: b).map (lt l)) = some (x.Colour != (lt l c).Colour) := fun x _ => rfl
   rw [hbl] at p2
   have hany := y45 ((c :: b).map (lt l)) (fun a0 => f50 a0 ((c :: b).map (lt l))) (fun x => x.Colour != (lt l c).Colour) (by rw [List.length_map]; omega) h50
   refine zbind _ hany (Yes.bind (Yes.cond (fun hs => ?_) (fun _ => Yes.some (Yes.some fun h => by cases h))))
   refine Yes.bind ((y51 (m := (c :: b).map (lt l)) (by simp) (by rw [List.length_map]; omega)).mono fun r _ => Yes.some (Yes.some fun _ => ?_))
   have hs2 : ((c :: b).map (lt l)).any (fun x => x.Colour != (lt l c).Colour) = false := by simpa using hs
   have hall : ∀ i ∈ c :: b, (lt l i).Colour = (lt l c).Colour := fun i hi => by
    have := List.any_eq_false.1 hs2 (lt l i) (List.mem_map.2 ⟨i, hi, rfl⟩)
    simpa using this
   exact fun i hi j hj => (hall i hi).trans (hall j hj).symm
/-! ### The best set -/
theorem y20 (x y : Int) : Yes (f20 x y) fun _ => True := by
 unfold f20 f41
 by_cases h1 : x < y <;> by_cases h2 : x > y <;> simp [jn, h1, h2, Yes]
theorem y29 {x y : List Int} (hx : x.length ≤ 1000) : Yes (f29 x y) fun _ => True := by
 unfold f29
 refine Yes.jn ?_
 refine Yes.upto0 x.length (by omega) (fun _ => True) trivial (fun i k hi _ hk => ?_) (fun k _ => ?_)
 ·refine ztake (decide_eq_true (by omega)) (Yes.jn (zbind _ (zidx hi) (Yes.jn (Yes.cond (fun _ => Yes.some trivial) (fun hc => ?_)))))
  have hlt : i < y.length := by have := of_decide_eq_false hc; omega
  exact zbind _ (zidx hlt) (Yes.bind ((y20 _ _).mono fun c _ => Yes.cond (fun _ => Yes.some trivial) (fun _ => hk trivial)))
 ·refine zskip (decide_eq_false (by omega)) (Yes.jn (Yes.cond (fun _ => Yes.some trivial) (fun _ => Yes.some trivial)))
theorem y28 (a b : Int) : Yes (f28 [a, b]) fun _ => True := by
 unfold f28
 refine Yes.jn ?_
 refine Yes.upto0 ([a, b] : List Int).length (by simp) (fun _ => True) trivial (fun i k hi _ hk => ?_) (fun k _ => ?_)
 ·exact ztake (decide_eq_true (by omega)) (Yes.jn (zbind _ (zidx hi) (Yes.cond (fun _ => Yes.some trivial) (fun _ => hk trivial))))
 ·exact zskip (decide_eq_false (by omega)) (Yes.some trivial)
structure OkB (l : List ShadeLot) (q : ShadeNeed) (b : List Int) : Prop where
 n : b.length ≤ 6
 asc : b.Pairwise (· < ·)
 m : ∀ i ∈ b, 0 ≤ i ∧ i < (l.length : Int) ∧ (lt l i).Colour = q.Colour
 g : q.Grams ≤ gs l b
theorem shl_all : (List.range 7).all (fun (k : Nat) => decide (shlU 1 (k : Int) = some ((2 ^ k : Nat) : Int))) = true := by kernel_rfl
theorem shl_is {k : Nat} (h : k ≤ 6) : shlU 1 (k : Int) = some ((2 ^ k : Nat) : Int) := of_decide_eq_true (List.all_eq_true.1 shl_all k (List.mem_range.2 (by omega)))
theorem wuY {n : Int} (h1 : 0 ≤ n) (h2 : n ≤ 1000) : wu64 n = n := by unfold wu64; rw [IntKind.wrap_u64]; omega
theorem y12 (h : Lots l) {t : Int} (q : ShadeNeed) : Yes (f12 ⟨l, t⟩ q) fun r => r = ([], 7) ∨ r.2 = 0 ∧ OkB l q r.1 := by
 have hn := h.n
 have hp : 2 ^ l.length ≤ 2 ^ 6 := Nat.pow_le_pow_right (by decide) hn
 have hp1 : 1 ≤ 2 ^ l.length := Nat.one_le_two_pow
 unfold f12
 refine Yes.bind (Yes.mono (Q' := fun b => b = [] ∨ OkB l q b) ?_ fun b hb => ?_)
 ·refine Yes.lp (fun s => ∃ n : Nat, s.2 = ⟨(n : Int)⟩ ∧ 1 ≤ n ∧ n ≤ 2 ^ l.length ∧ (s.1 = [] ∨ OkB l q s.1)) (fun s => 2 ^ l.length - s.2.n.toNat) ⟨1, rfl, Nat.le_refl _, hp1, .inl rfl⟩ (by simp only; omega) ?_
  rintro ⟨b, u⟩ k ⟨n, hu, hn1, hn2, hb⟩ hk
  simp only at hu hb
  subst hu
  refine Yes.jn (zbind _ (shl_is hn) (Yes.cond (fun hc => ?_) (fun _ => Yes.some hb)))
  have hlt : n < 2 ^ l.length := by have := of_decide_eq_true hc; simp only at this; omega
  have hn64 : n < 64 := by omega
  obtain ⟨p1, p2, p3⟩ := bl_props hn64
  have hin := p3 l.length hn hlt
  have next : ∀ b', (b' = [] ∨ OkB l q b') → Yes (k (b', (⟨wu64 ((n : Int) + 1)⟩ : U64))) fun b => b = [] ∨ OkB l q b := fun b' hb' => by
   have hw : wu64 ((n : Int) + 1) = ((n + 1 : Nat) : Int) := by rw [wuY (by omega) (by omega)]; omega
   rw [hw]
   exact hk _ ⟨n + 1, rfl, by omega, by omega, hb'⟩ (by simp only [Int.toNat_natCast]; omega)
  refine Yes.bind (zbind _ (s25 hn64) (Yes.jn (Yes.bind ?_)))
  cases hbl : blY n with
  | nil => exact absurd hbl (p1 hn1)
  | cons c bs =>
   rw [← hbl]
   have hc0 : c ∈ blY n := by rw [hbl]; simp
   have i0 : idx (blY n) (0 : Int) = some c := by rw [hbl]; rfl
   refine zbind _ i0 (zbind _ (lt_idx (hin c hc0)) (Yes.cond (fun _ => Yes.some (ztake rfl (Yes.some (next b hb)))) (fun hcol => ?_)))
   have hcol : (lt l c).Colour = q.Colour := by simpa using hcol
   refine zbind _ (y26 h hn64 hin) (Yes.cond (fun _ => Yes.some (ztake rfl (Yes.some (next b hb)))) (fun hgr => ?_))
   have hgr : q.Grams ≤ gs l (blY n) := by have := of_decide_eq_false hgr; omega
   refine Yes.bind ((y27 h hn64 hn1 hin).mono fun v hv => Yes.some ?_)
   cases v with
   | false => exact ztake rfl (Yes.some (next b hb))
   | true =>
    have hok : OkB l q (blY n) := ⟨p2, bl_asc n, fun i hi => ⟨(hin i hi).1, (hin i hi).2, (hv rfl i hi c hc0).trans hcol⟩, hgr⟩
    have hneL : neL (blY n) = some () := by rw [hbl]; rfl
    refine zskip rfl (Yes.bind (Yes.cond (fun _ => Yes.some (ztake rfl (zbind _ hneL (Yes.some (next _ (.inr hok)))))) (fun _ => ?_)))
    refine Yes.bind ((y20 _ _).mono fun c1 _ => Yes.bind ((y29 (by omega)).mono fun c2 _ => Yes.bind ((y28 _ _).mono fun c3 _ => Yes.some (Yes.cond (fun _ => zbind _ hneL (Yes.some (next _ (.inr hok)))) (fun _ => Yes.some (next b hb))))))
 ·refine Yes.jn ?_
  rcases hb with rfl | hb
  ·exact ztake rfl (Yes.some (.inl rfl))
  ·exact Yes.cond (fun he => Yes.some (.inl rfl)) (fun _ => Yes.some (.inr ⟨rfl, hb⟩))
theorem y5 (h : Lots l) {t : Int} (ht : 0 ≤ t ∧ t ≤ 1000) {q : ShadeNeed} (h1 : q.Colour = 0) (h2 : 1 ≤ q.Grams ∧ q.Grams ≤ 12000000) : Yes (f5 l t q) fun r => r = ([], 7) ∨ r.2 = 0 ∧ OkB l q r.1 := by
 unfold f5
 refine zbind _ (y10 h ht) (Yes.jn (zskip rfl (zbind _ (y11 h1 h2) (zskip rfl (Yes.bind ((y12 h q).mono fun r hr => Yes.some hr))))))
end Go.Proofs.YticdblhibbaojaaDoor
