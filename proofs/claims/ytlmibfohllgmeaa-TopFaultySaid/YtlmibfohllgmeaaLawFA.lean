/- TopFaulty: the example of chapter 2, whose maps are ranged over in any order. -/
import Derived.Test.YtlmibfohllgmeaaFpF1
set_option maxRecDepth 8000
namespace Go.Proofs.Ytlmibfohllgmeaa
open Go.RowKit
open Classical

/-! ### All outcomes -/
def Dz {α : Type} (Q : α → Prop) (rs : List α) : Prop := rs ≠ [] ∧ ∀ r ∈ rs, Q r
theorem Dz.one {α : Type} {Q : α → Prop} {a : α} (h : Q a) : Dz Q [a] := ⟨by simp, by simpa using h⟩
theorem Rz {α : Type} {Q : α → Prop} : ∀ {l : List (Option (List α))}, l ≠ [] → (∀ x ∈ l, Yes x (Dz Q)) → Yes (Aa l) (Dz Q)
 | [], h, _ => absurd rfl h
 | x :: l, _, h => by
  obtain ⟨rs, h1, h2, h3⟩ := h x (by simp)
  by_cases hl : l = []
  ·subst hl; subst h1
   exact ⟨rs ++ [], rfl, by simpa using h2, by simpa using h3⟩
  ·obtain ⟨qs, k1, k2, k3⟩ := Rz hl fun z hz => h z (by simp [hz])
   subst h1
   refine ⟨rs ++ qs, by simp only [Aa, k1], by simp [h2], fun r hr => ?_⟩
   rcases List.mem_append.1 hr with hr | hr
   ·exact h3 r hr
   ·exact k3 r hr
theorem Ai {α β : Type} {rs : List α} {k : α → Option (List β)} {Q : β → Prop} (hne : rs ≠ []) (h : ∀ a ∈ rs, Yes (k a) (Dz Q)) : Yes (Ma rs k) (Dz Q) := by
 refine Rz (by simpa using hne) fun x hx => ?_
 obtain ⟨a, ha, rfl⟩ := List.mem_map.1 hx
 exact h a ha
theorem Ix {α β : Type} {rs : List α} {k : α → Option β} {b : β} (hne : rs ≠ []) (h : ∀ a ∈ rs, k a = some b) : Mm rs k = some b := by
 cases rs with
 | nil => exact absurd rfl hne
 | cons a l =>
  have ha := h a (by simp)
  have hall : ∀ c ∈ l, k c = k a := fun c hc => by rw [h c (by simp [hc]), ha]
  show (@ite _ (∀ c ∈ l, k c = k a) (Classical.propDecidable _) (k a) none) = _
  rw [if_pos hall, ha]
/-! ### One pick -/
abbrev Sts := List (Gi × Int)
def Nm {ρ : Type} (c : Gd) (p most : Int) (K : Sts → Option (List ρ)) : (Sts × Sts → Option (List ρ)) → Sts × Sts → Option (List ρ) := fun k s =>
 bif s.2.isEmpty then K s.1 else Cx s.2 fun q rm =>
  (f45 c p q.1.at_).bind fun y => bif y then (f88 c s.1 q.1 q.2 most).bind fun z => k (z, rm) else k (s.1, rm)
theorem Al {ρ : Type} {c : Gd} {p most : Int} {K : Sts → Option (List ρ)} {k : Sts × Sts → Option (List ρ)} {s : Sts × Sts} : Nm c p most K k s = bif s.2.isEmpty then K s.1 else Cx s.2 fun q rm =>
  (f45 c p q.1.at_).bind fun y => bif y then (f88 c s.1 q.1 q.2 most).bind fun z => k (z, rm) else k (s.1, rm) := rfl
theorem Oc {α β : Type} {rem : List α} {k : α → List α → Option (List β)} {Q : β → Prop} (hne : rem.isEmpty = false) (h : ∀ p ∈ Jo rem, Yes (k p.1 p.2) (Dz Q)) : Yes (Cx rem k) (Dz Q) := by
 unfold Cx
 refine Rz (fun hn => ?_) fun x hx => ?_
 ·have hs : Jo rem = [] := List.map_eq_nil_iff.1 hn
  cases rem with
  | nil => cases hne
  | cons a l => simp [Jo] at hs
 ·obtain ⟨q, hq, rfl⟩ := List.mem_map.1 hx
  exact h q hq
theorem Fo {ρ : Type} {c : Gd} {p most : Int} {K : Sts → Option (List ρ)} {Q : ρ → Prop} : ∀ (n : Nat) (s : Sts × Sts) (L : List Sts),
  lp (Nm c p most fun m => some [m]) n s = some L → (∀ m ∈ L, Yes (K m) (Dz Q)) → Yes (lp (Nm c p most K) n s) (Dz Q)
 | 0, _, _, h, _ => by rw [Lq] at h; cases h
 | n + 1, s, L, h, hK => by
  rw [Sy, Al] at h ⊢
  cases he : s.2.isEmpty with
  | true =>
   rw [he, cond_true] at h
   rw [cond_true]
   exact hK _ (by have := Option.some.inj h; subst this; simp)
  | false =>
   rw [he, cond_false] at h
   rw [cond_false]
   refine Oc he fun q hq => ?_
   obtain ⟨r, h1, h2⟩ := Nb h (fun _ h => h) q hq
   cases hy : f45 c p q.1.1.at_ with
   | none => rw [hy] at h1; cases h1
   | some y =>
    rw [hy, Option.bind_some] at h1
    simp only [hy, Option.bind_some]
    cases y with
    | false =>
     rw [cond_false] at h1
     exact Fo n _ r h1 fun m hm => hK m (h2 m hm)
    | true =>
     rw [cond_true] at h1
     simp only [cond_true]
     cases hz : f88 c s.1 q.1.1 q.1.2 most with
     | none => rw [hz] at h1; cases h1
     | some z =>
      rw [hz, Option.bind_some] at h1
      simp only [Option.bind_some]
      exact Fo n _ r h1 fun m hm => hK m (h2 m hm)
/-! ### The example -/
def exB : ChainBelt := ⟨4, [⟨0, 1, false⟩, ⟨3, 8, false⟩, ⟨1, 2, false⟩, ⟨2, 4, false⟩, ⟨4, 15, false⟩]⟩
def exC : Gd := ⟨⟨exB, 4⟩, [8, 2, 2, -1, 1]⟩
def exS : Nat → List Sts
 | 0 => [[(⟨0, 0⟩, 1), (⟨1, 0⟩, 1), (⟨2, 0⟩, 1), (⟨3, 0⟩, 1), (⟨4, 0⟩, 1)]]
 | 1 => [[(⟨1, 1⟩, 1), (⟨2, 0⟩, 1), (⟨3, 1⟩, 1)]]
 | 2 => [[(⟨2, 1⟩, 1), (⟨3, 0⟩, 1), (⟨4, 1⟩, 1)]]
 | 3 => [[(⟨2, 2⟩, 1), (⟨3, 1⟩, 1), (⟨4, 2⟩, 1)]]
 | 4 => [[(⟨3, 2⟩, 2), (⟨4, 1⟩, 1), (⟨0, 2⟩, 2)], [(⟨3, 2⟩, 2), (⟨0, 2⟩, 2), (⟨4, 1⟩, 1)], [(⟨0, 2⟩, 2), (⟨3, 2⟩, 2), (⟨4, 1⟩, 1)]]
 | _ => [[(⟨1, 2⟩, 2)]]
def exR (p : Nat) (m : Sts) : Bool := match lp (Nm exC (p : Int) 2 fun m => some [m]) big ([], m) with | some L => L.all fun x => (exS (p + 1)).any fun y => decide (x = y) | none => false
theorem ex_ok : (List.range 5).all (fun p => (exS p).all (exR p)) = true := by kernel_rfl
theorem ex_step {p : Nat} (hp : p < 5) {m : Sts} (hm : m ∈ exS p) : ∃ L, lp (Nm exC (p : Int) 2 fun m => some [m]) big ([], m) = some L ∧ ∀ x ∈ L, x ∈ exS (p + 1) := by
 have h := List.all_eq_true.1 (List.all_eq_true.1 ex_ok p (List.mem_range.2 hp)) m hm
 unfold exR at h
 cases hL : lp (Nm exC (p : Int) 2 fun m => some [m]) big ([], m) with
 | none => rw [hL] at h; cases h
 | some L =>
  rw [hL] at h
  refine ⟨L, rfl, fun x hx => ?_⟩
  obtain ⟨y, hy, he⟩ := List.any_eq_true.1 (List.all_eq_true.1 h x hx)
  rw [of_decide_eq_true he]; exact hy
theorem ex_ends : Yes (f73 exC 2) (Dz fun m => m = [(⟨1, 2⟩, 2)]) := by
 unfold f73
 refine Yes.bind (Yes.of (a := [(⟨0, 0⟩, 1), (⟨1, 0⟩, 1), (⟨2, 0⟩, 1), (⟨3, 0⟩, 1), (⟨4, 0⟩, 1)]) (by kernel_rfl) (Yes.jn ?_))
 refine Yes.lp (fun s => ∃ p : Nat, s.2 = p ∧ p ≤ 5 ∧ s.1 ∈ exS p) (fun s => 5 - s.2.toNat) ⟨0, rfl, by omega, by simp [exS]⟩ (by simp only; omega) ?_
 rintro ⟨m, j⟩ k ⟨p, hj, hp5, hm⟩ hk
 simp only at hj hm
 subst hj
 by_cases hp : p < 5
 ·refine Dm (decide_eq_true (show (p : Int) < (5 : Int) by omega)) (Yes.jn (Yes.jn ?_))
  obtain ⟨L, hL, hin⟩ := ex_step hp hm
  refine Fo (c := exC) (p := (p : Int)) (most := 2) big ([], m) L hL fun x hx => ?_
  refine hk _ ⟨p + 1, ?_, by omega, hin x hx⟩ ?_
  ·show w64 ((p : Int) + 1) = _
   rw [Qw (by omega) (by omega)]; omega
  ·show 5 - (w64 ((p : Int) + 1)).toNat < 5 - ((p : Int)).toNat
   rw [Qw (by omega) (by omega)]; omega
 ·obtain rfl : p = 5 := by omega
  refine Kd (decide_eq_false (show ¬ ((5 : Nat) : Int) < (5 : Int) by omega)) (Yes.some (Dz.one ?_))
  simpa [exS] using hm
theorem ex_asked : Yes (f53 exB [8, 2, 2, -1, 1] 2) (Dz fun r => r = (some [(⟨1, 2⟩, 2)], 0)) := by
 unfold f53
 refine Yes.bind (Yes.of (a := (exC, 0)) (by kernel_rfl) (Yes.jn (Kd rfl (Qn true (by kernel_rfl) (Kd rfl ?_)))))
 refine Yes.bind (ex_ends.mono fun rs hrs => Ai hrs.1 fun a ha => ?_)
 rw [hrs.2 a ha]
 exact Yes.some (Dz.one rfl)
theorem ex_ways : f34 exB [8, 2, 2, -1, 1] 2 = some (2, 0) := by
 obtain ⟨rs, h1, h2, h3⟩ := ex_asked
 unfold f34
 rw [h1, Option.bind_some]
 refine Ix h2 fun a ha => ?_
 rw [h3 a ha]
 kernel_rfl
theorem Lo : f15 = some true := by
 refine Yes.eq ?_
 unfold f15
 refine Qn exB (by kernel_rfl) (Qn ([1, 8, 2, 2], 4, 0) (by kernel_rfl) (Qn exB (by kernel_rfl) (Qn ([1], 0) (by kernel_rfl) (Qn exB (by kernel_rfl) (Qn _ ex_ways ?_)))))
 exact Yes.of (by kernel_rfl) rfl
theorem Mb : f16 = some true := by kernel_rfl
end Go.Proofs.Ytlmibfohllgmeaa
