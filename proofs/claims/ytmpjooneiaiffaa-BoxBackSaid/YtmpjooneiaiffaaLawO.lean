/- Plain laws: full, and standing. -/
import Derived.Test.YtmpjooneiaiffaaLawM
set_option maxRecDepth 8000
namespace Go.Proofs.Ytmpjooneiaiffaa
open Go.RowKit
open Classical

def BxV (v : Vector (Vector Int 4) 2) (l : BoxLoom) : Prop := ∀ (s b : Nat) (hs : s < 2) (hb : b < 4), v[s][b] = inX l.Shuttles s b + 1
theorem s45 {l : BoxLoom} (hl : LOk l) : Yes (f45 l) (fun v => BxV v l) := by
 have hf := hl.few
 unfold f45
 refine Yes.bind (Yes.upto l.Shuttles.length (by omega) (fun n t => ∀ (s b : Nat) (hs : s < 2) (hb : b < 4), (∀ j, j < n → isAt l.Shuttles s b j → t[s][b] = (j : Int) + 1) ∧ ((∀ j, j < n → ¬ isAt l.Shuttles s b j) → t[s][b] = 0)) ?_ (fun i t k hi hI hk => ?_) (fun t k hI => ?_))
 ·intro s b hs hb
  refine ⟨fun j h => absurd h (Nat.not_lt_zero _), fun _ => ?_⟩
  rcases (by omega : s = 0 ∨ s = 1) with rfl | rfl <;> rcases (by omega : b = 0 ∨ b = 1 ∨ b = 2 ∨ b = 3) with rfl | rfl | rfl | rfl <;> rfl
 ·have hok := okS_plc hl (List.getElem_mem hi)
  obtain ⟨S, hS⟩ : ∃ S : Nat, l.Shuttles[i].Side = S := ⟨l.Shuttles[i].Side.toNat, by omega⟩
  obtain ⟨B, hB⟩ : ∃ B : Nat, l.Shuttles[i].Box = B := ⟨l.Shuttles[i].Box.toNat, by omega⟩
  have hS2 : S < 2 := by omega
  have hB4 : B < 4 := by omega
  refine Yes.jn (qtake (by simp; omega) (Yes.jn (Yes.bind (qbind _ (qidx hi) (qbind _ (qidx hi) ?_)))))
  rw [hS, hB, w64_id (n := (i : Int) + 1) (by omega) (by omega)]
  refine qbind _ (vidx t hS2) (qbind _ (vidx _ hB4) (Yes.some ?_))
  have hk := hk (vmod t (S : Int) (fun b => vset b (B : Int) ((i : Int) + 1)))
  rw [w64_id (n := (i : Int) + 1) (by omega) (by omega)] at hk
  refine hk fun s b hs hb => ?_
  have hat : isAt l.Shuttles S B i := ⟨hi, hS, hB⟩
  obtain ⟨o1, o2⟩ := hI s b hs hb
  by_cases hsb : S = s ∧ B = b
  ·obtain ⟨rfl, rfl⟩ := hsb
   have hv : (vmod t (S : Int) (fun b => vset b (B : Int) ((i : Int) + 1)))[S][B] = (i : Int) + 1 := by
    rw [vmod_at hs, if_pos rfl, vset_at hb, if_pos rfl]
   rw [hv]
   exact ⟨fun j _ hj => by rw [hl.dst.one hj hat], fun h => absurd hat (h i (by omega))⟩
  ·have hv : (vmod t (S : Int) (fun b => vset b (B : Int) ((i : Int) + 1)))[s][b] = t[s][b] := by
    by_cases hss : S = s
    ·subst hss
     rw [vmod_at hs, if_pos rfl, vset_at hb, if_neg (fun h => hsb ⟨rfl, h⟩)]
    ·rw [vmod_at hs, if_neg hss]
   rw [hv]
   refine ⟨fun j hj hja => ?_, fun h => o2 fun j hj => h j (by omega)⟩
   rcases Nat.lt_succ_iff_lt_or_eq.1 hj with h | rfl
   ·exact o1 j h hja
   ·have := isAt_same hat hja
    exact absurd ⟨by omega, by omega⟩ hsb
 ·refine Yes.jn (qskip (by simp) (Yes.some (Yes.some fun s b hs hb => ?_)))
  obtain ⟨o1, o2⟩ := hI s b hs hb
  rcases inX_cases hl.dst s b with ⟨i, hi, e⟩ | ⟨hi, e⟩
  ·rw [e, o1 i hi.1 hi]
  ·rw [e, o2 fun j _ h => hi ⟨j, h⟩]; rfl
structure Smb (n l : BoxLoom) : Prop where
 bx : n.Boxes = l.Boxes
 len : n.Shuttles.length = l.Shuttles.length
 sm : ∀ i (h : i < n.Shuttles.length) (h' : i < l.Shuttles.length), n.Shuttles[i].Colour = l.Shuttles[i].Colour ∧ n.Shuttles[i].Yarn = l.Shuttles[i].Yarn
theorem thr_smb {l n : BoxLoom} {ps : List BoxPick} (hl : LOk l) (hp : ∀ p ∈ ps, okP l.Boxes p = true) (h : thr l ps = some n) : Smb n l := by
 obtain ⟨k1, k2, k3⟩ := thr_ok hl hp h
 exact ⟨k2, k3, fun i h1 h2 => by rw [thr_same hl hp h h2 h1]; exact ⟨rfl, rfl⟩⟩
theorem Smb.trans {a b c : BoxLoom} (h : Smb a b) (k : Smb b c) : Smb a c := ⟨h.bx.trans k.bx, h.len.trans k.len, fun i h1 h2 => by
 have h3 : i < b.Shuttles.length := by rw [k.len]; exact h2
 exact ⟨(h.sm i h1 h3).1.trans (k.sm i h3 h2).1, (h.sm i h1 h3).2.trans (k.sm i h3 h2).2⟩⟩
theorem s41 {n l m : BoxLoom} (hn : LOk n) (hm : LOk m) (hs : Smb n l) (hml : m.Shuttles.length = n.Shuttles.length) {v : Vector (Vector Int 4) 2} (hv : BxV v m) :
  f41 n l v = some (decide (Wh n.Shuttles m.Shuttles)) := by
 have hf := hn.few
 have hlb : len2 n := hn.len
 have key : (∀ i (h : i < n.Shuttles.length), isAt m.Shuttles n.Shuttles[i].Side n.Shuttles[i].Box i) ↔ Wh n.Shuttles m.Shuttles := by
  constructor
  ·intro h s c i
   constructor
   ·rintro ⟨h1, rfl, rfl⟩; exact h i h1
   ·intro h1
    have hi : i < n.Shuttles.length := by rw [← hml]; exact h1.1
    have := isAt_same (h i hi) h1
    exact ⟨hi, this.1, this.2⟩
  ·intro h i hi; exact (h _ _ _).1 ⟨hi, rfl, rfl⟩
 have hb0 : idx n.Boxes (0 : Int) = some (n.Boxes.getD 0 0) := box_at hlb (i := 0) (by omega)
 have hb1 : idx n.Boxes (1 : Int) = some (n.Boxes.getD 1 0) := box_at hlb (i := 1) (by omega)
 refine Yes.eq ?_
 unfold f41
 refine Yes.jn (Yes.bind (qskip (bne_eq_false_iff_eq.2 (by rw [hs.len])) (qskip (bne_eq_false_iff_eq.2 (by have := hlb.1; omega)) (qbind _ hb0 (qbind _ (by rw [← hs.bx]; exact hb0) (qskip (by simp) (qbind _ hb1 (qbind _ (by rw [← hs.bx]; exact hb1) (Yes.some ?_)))))))))
 refine qskip (by simp) (Yes.jn ?_)
 refine Yes.upto0 n.Shuttles.length (by omega) (fun i => ∀ j (h1 : j < n.Shuttles.length), j < i → isAt m.Shuttles n.Shuttles[j].Side n.Shuttles[j].Box j) (fun _ _ h => absurd h (Nat.not_lt_zero _)) (fun i k hi hI hk => ?_) (fun k hI => ?_)
 ·have hil : i < l.Shuttles.length := by rw [← hs.len]; exact hi
  have hsm := hs.sm i hi hil
  have hok := okS_plc hn (List.getElem_mem hi)
  obtain ⟨S, hS⟩ : ∃ S : Nat, n.Shuttles[i].Side = S := ⟨n.Shuttles[i].Side.toNat, by omega⟩
  obtain ⟨B, hB⟩ : ∃ B : Nat, n.Shuttles[i].Box = B := ⟨n.Shuttles[i].Box.toNat, by omega⟩
  have hS2 : S < 2 := by omega
  have hB4 : B < 4 := by omega
  refine Yes.jn (qtake (by simp; omega) (Yes.jn (qbind _ (qidx hi) (qbind _ (qidx hil) (Yes.bind (Yes.mono (Q' := fun r => r = !decide (isAt m.Shuttles n.Shuttles[i].Side n.Shuttles[i].Box i)) ?_ fun r hr => ?_)))))) 
  ·refine qskip (by rw [hsm.1]; simp) (qskip (by rw [hsm.2]; simp) (qskip (decide_eq_false (by omega)) (qskip (decide_eq_false (by omega)) (qskip (decide_eq_false (by omega)) (qskip (decide_eq_false (by omega)) ?_)))))
   rw [hS, hB]
   refine qbind _ (vidx v hS2) (qbind _ (vidx _ hB4) (Yes.some ?_))
   rw [hv S B hS2 hB4, w64_id (by omega) (by omega)]
   rcases inX_cases hm.dst S B with ⟨j, hj, e⟩ | ⟨hj, e⟩
   ·rw [e]
    by_cases hij : i = j
    ·subst hij; rw [decide_eq_true hj]; simp
    ·rw [decide_eq_false (fun h => hij (hm.dst.one h hj))]
     have : ¬ (j : Int) = (i : Int) := by omega
     simp [this]
   ·rw [e, decide_eq_false (fun h => hj ⟨i, h⟩)]
    have : ¬ (-1 : Int) + 1 = (i : Int) + 1 := by omega
    simp; omega
  ·subst hr
   refine Yes.cond (fun hc => Yes.some ?_) (fun hc => hk fun j h1 hj => ?_)
   ·refine (decide_eq_false fun hw => ?_).symm
    rw [decide_eq_true (key.2 hw i hi)] at hc; cases hc
   ·rcases Nat.lt_succ_iff_lt_or_eq.1 hj with h | rfl
    ·exact hI j h1 h
    ·exact of_decide_eq_true (by simpa using hc)
 ·exact Yes.jn (qskip (by simp) (Yes.some (decide_eq_true (key.1 fun j h1 => hI j h1 h1)).symm))
end Go.Proofs.Ytmpjooneiaiffaa
/- Plain laws: the loom of bytes is all right. -/
set_option maxRecDepth 8000
namespace Go.Proofs.Ytmpjooneiaiffaa
open Go.RowKit
open Classical

theorem rem_nn {a b : Int} (ha : 0 ≤ a) (hb : 0 < b) : rem64 a b = some (a % b) := by
 unfold rem64; rw [if_neg (by omega), Int.tmod_eq_emod_of_nonneg ha]
def pk (b0 : Int) (s : BoxShuttle) : Nat := if s.Side = 0 then s.Box.toNat else b0.toNat + s.Box.toNat
theorem dst_snoc {xs : List BoxShuttle} (h : Dst xs) {s : BoxShuttle} (hn : ∀ x ∈ xs, ¬ (x.Side = s.Side ∧ x.Box = s.Box)) : Dst (xs ++ [s]) := by
 have el : ∀ k (hk : k < (xs ++ [s]).length), (∃ h' : k < xs.length, (xs ++ [s])[k] = xs[k]) ∨ (k = xs.length ∧ (xs ++ [s])[k] = s) := fun k hk => by
  by_cases hk' : k < xs.length
  ·exact .inl ⟨hk', List.getElem_append_left hk'⟩
  ·have hk2 : k = xs.length := by simp at hk; omega
   subst hk2
   exact .inr ⟨rfl, by simp⟩
 intro i j hi hj hji
 rcases el i hi with ⟨hi', ei⟩ | ⟨hi', ei⟩ <;> rcases el j hj with ⟨hj', ej⟩ | ⟨hj', ej⟩ <;> rw [ei, ej]
 ·exact h i j hi' hj' hji
 ·omega
 ·exact fun he => hn _ (List.getElem_mem hj') ⟨he.1.symm, he.2.symm⟩
 ·omega
theorem s38 (x : Race) : Yes (f38 x) (fun l => LOk l) := by
 unfold f38
 obtain ⟨B, Sh, Pk⟩ := x
 have byte : ∀ u : UInt8, (0 : Int) ≤ (u.toNat : Int) ∧ (u.toNat : Int) ≤ 255 := fun u => by have := u.toNat_lt; omega
 refine qbind _ (vidx B (i := 0) (by omega)) (qbind _ (rem_nn (byte _).1 (by omega)) (qbind _ (vidx B (i := 1) (by omega)) (qbind _ (rem_nn (byte _).1 (by omega)) (qbind _ (vidx B (i := 2) (by omega)) ?_))))
 obtain ⟨b0, hb0, h0⟩ : ∃ b0 : Int, w64 ((1 : Int) + (B[0].toNat : Int) % (4 : Int)) = b0 ∧ 1 ≤ b0 ∧ b0 ≤ 4 := ⟨_, rfl, by rw [w64_id (by omega) (by omega)]; omega⟩
 obtain ⟨b1, hb1, h1⟩ : ∃ b1 : Int, w64 ((1 : Int) + (B[1].toNat : Int) % (4 : Int)) = b1 ∧ 1 ≤ b1 ∧ b1 ≤ 4 := ⟨_, rfl, by rw [w64_id (by omega) (by omega)]; omega⟩
 rw [hb0, hb1]
 refine qbind b0 rfl (qbind _ (rem_nn (byte _).1 (by omega)) (qbind _ (vidx B (i := 3) (by omega)) (qbind b1 rfl (qbind _ (rem_nn (byte _).1 (by omega)) (Yes.bind ?_)))))
 obtain ⟨a0, ha0, g0⟩ : ∃ a0 : Int, (B[2].toNat : Int) % b0 = a0 ∧ 0 ≤ a0 ∧ a0 < b0 := ⟨_, rfl, Int.emod_nonneg _ (by omega), Int.emod_lt_of_pos _ (by omega)⟩
 obtain ⟨a1, ha1, g1⟩ : ∃ a1 : Int, (B[3].toNat : Int) % b1 = a1 ∧ 0 ≤ a1 ∧ a1 < b1 := ⟨_, rfl, Int.emod_nonneg _ (by omega), Int.emod_lt_of_pos _ (by omega)⟩
 rw [ha0, ha1]
 refine Yes.lp (fun s => ∃ k : Nat, s.2.2 = (k : Int) ∧ k ≤ 6 ∧ s.1.Boxes = [b0, b1] ∧ s.1.At = [a0, a1] ∧ s.1.Shuttles.length ≤ k ∧ (k = 0 → ∀ j (h : j < 8), s.2.1[j] = false) ∧ (1 ≤ k → 0 < s.1.Shuttles.length) ∧ (∀ y ∈ s.1.Shuttles, okS [b0, b1] y = true ∧ ∃ h : pk b0 y < 8, s.2.1[pk b0 y] = true) ∧ Dst s.1.Shuttles)
  (fun s => 7 - s.2.2.toNat) ⟨0, rfl, by omega, rfl, rfl, by simp, fun _ j h => ?_, fun h => absurd h (by omega), by simp, fun i j hi => absurd hi (Nat.not_lt_zero _)⟩ (by simp) ?_
 ·rcases (by omega : j = 0 ∨ j = 1 ∨ j = 2 ∨ j = 3 ∨ j = 4 ∨ j = 5 ∨ j = 6 ∨ j = 7) with rfl | rfl | rfl | rfl | rfl | rfl | rfl | rfl <;> rfl
 rintro ⟨l, us, o⟩ kk ⟨k, rfl, k6, c1, c2, c3, c4, c5, c6, c7⟩ hk
 simp only at c1 c2 c3 c4 c5 c6 c7
 refine Yes.jn (Yes.bind (Yes.mono (Q' := fun b => b = decide (k = 0 ∨ (k < Sh.length ∧ k < 6))) ?_ fun b hb => ?_))
 ·refine Yes.cond (fun hc => Yes.some ?_) (fun hc => Yes.cond (fun hc2 => Yes.some ?_) (fun hc2 => Yes.some ?_))
  ·have : (k : Int) = 0 := by simpa using hc
   exact (decide_eq_true (.inl (by omega))).symm
  ·have : ¬ (k : Int) = 0 := by simpa using hc
   have h2 : (k : Int) < (Sh.length : Int) := of_decide_eq_true hc2
   rw [decide_eq_decide]
   constructor
   ·intro h; exact .inr ⟨by omega, by omega⟩
   ·rintro (h | h) <;> omega
  ·have : ¬ (k : Int) = 0 := by simpa using hc
   have h2 : ¬ (k : Int) < (Sh.length : Int) := of_decide_eq_false hc2
   exact (decide_eq_false (by omega)).symm
 subst hb
 refine Yes.cond (fun hc => ?_) (fun hc => Yes.some (Yes.some ?_))
 ·have hc := of_decide_eq_true hc
  have hk1 : k + 1 ≤ 6 := by omega
  have next : ∀ (l' : BoxLoom) (us' : Vector Bool 8), l'.Boxes = [b0, b1] → l'.At = [a0, a1] → l'.Shuttles.length ≤ k + 1 → 0 < l'.Shuttles.length → (∀ y ∈ l'.Shuttles, okS [b0, b1] y = true ∧ ∃ h : pk b0 y < 8, us'[pk b0 y] = true) → Dst l'.Shuttles → Yes (kk (l', us', w64 ((k : Int) + 1))) fun r => Yes (some r) fun l => LOk l := fun l' us' d1 d2 d3 d4 d5 d6 => by
   rw [w64_id (by omega) (by omega)]
   refine hk _ ⟨k + 1, by simp, hk1, d1, d2, d3, fun h => absurd h (by omega), fun _ => d4, d5, d6⟩ ?_
   show 7 - ((k : Int) + 1).toNat < 7 - ((k : Int)).toNat
   omega
  refine Yes.jn (Yes.bind (Yes.bind (Yes.mono (Q' := fun _ => True) ?_ fun v _ => ?_)))
  ·exact Yes.cond (fun hc => Yes.bind (Yes.idx rfl (of_decide_eq_true hc |> Int.ofNat_lt.1) (Yes.some trivial))) (fun _ => Yes.some trivial)
  ·rw [c1]
   refine qbind b0 rfl (qbind b1 rfl (qbind _ (by rw [w64_id (by omega) (by omega)]; exact rem_nn (byte _).1 (by omega)) ?_))
   obtain ⟨u, hu, hu2⟩ : ∃ u : Nat, (v[0].toNat : Int) % (b0 + b1) = u ∧ (u : Int) < b0 + b1 := by
    have e1 := Int.emod_nonneg (v[0].toNat : Int) (show b0 + b1 ≠ 0 by omega)
    have e2 := Int.emod_lt_of_pos (v[0].toNat : Int) (show 0 < b0 + b1 by omega)
    exact ⟨((v[0].toNat : Int) % (b0 + b1)).toNat, by omega, by omega⟩
   rw [hu]
   have hu8 : u < 8 := by omega
   refine Yes.jn (qbind _ (vidx us hu8) (Yes.cond (fun hc2 => Yes.some ?_) (fun hc2 => ?_)))
   ·have hk0 : 1 ≤ k := by
     rcases Nat.eq_zero_or_pos k with h | h
     ·rw [c4 h u hu8] at hc2; cases hc2
     ·exact h
    exact next l us c1 c2 (by omega) (c5 hk0) c6 c7
   ·refine qbind _ (vidx us hu8) (qbind _ (rem_nn (byte _).1 (by omega)) (qbind _ (rem_nn (byte _).1 (by omega)) (qbind _ (rem_nn (byte _).1 (by omega)) (qbind _ (rem_nn (byte _).1 (by omega)) (qbind _ rfl (Yes.bind (Yes.mono (Q' := fun s => okS [b0, b1] s = true ∧ pk b0 s = u) ?_ fun s hs => ?_)))))))
    ·have y1 := byte v[1]; have y2 := byte v[2]; have y3 := byte v[3]
     refine qbind b0 rfl (Yes.cond (fun hc3 => qbind b0 rfl (Yes.some ?_)) (fun hc3 => Yes.some ?_))
     ·have hge := of_decide_eq_true hc3
      rw [w64_id (n := (u : Int) - b0) (by omega) (by omega), w64_id (n := _ + _) (by omega) (by omega)]
      refine ⟨?_, ?_⟩
      ·unfold okS
       simp only [Bool.and_eq_true, btw_iff, decide_eq_true_eq]
       refine ⟨⟨⟨by omega, by omega⟩, ?_⟩, by omega⟩
       show 0 ≤ (u : Int) - b0 ∧ (u : Int) - b0 ≤ b1 - 1
       omega
      ·unfold pk; rw [if_neg (by simp)]; show b0.toNat + ((u : Int) - b0).toNat = u; omega
     ·have hlt := of_decide_eq_false hc3
      rw [w64_id (n := _ + _) (by omega) (by omega)]
      refine ⟨?_, ?_⟩
      ·unfold okS
       simp only [Bool.and_eq_true, btw_iff, decide_eq_true_eq]
       refine ⟨⟨⟨by omega, by omega⟩, ?_⟩, by omega⟩
       show 0 ≤ (u : Int) ∧ (u : Int) ≤ b0 - 1
       omega
      ·unfold pk; rw [if_pos rfl]; show ((u : Int)).toNat = u; omega
    ·obtain ⟨s1, s2⟩ := hs
     refine Yes.bind (Yes.apnd (by simp; omega) (by simp; omega) (Yes.some (next _ _ rfl c2 (by simp; omega) (by simp) ?_ ?_)))
     ·intro y hy
      have hup : ∀ j (h : j < 8), us[j] = true → (vset us (u : Int) true)[j] = true := fun j h ht => by
       rw [vset_at h]
       split
       ·rfl
       ·exact ht
      rcases List.mem_append.1 hy with hy | hy
      ·obtain ⟨d1, d2, d3⟩ := c6 y hy
       exact ⟨d1, d2, hup _ d2 d3⟩
      ·rw [List.mem_singleton.1 hy]
       exact ⟨s1, by rw [s2]; exact hu8, by simp only [s2]; rw [vset_at hu8, if_pos rfl]⟩
     ·refine dst_snoc c7 fun y hy he => ?_
      obtain ⟨_, d2, d3⟩ := c6 y hy
      have : pk b0 y = u := by rw [← s2]; unfold pk; rw [he.1, he.2]
      simp only [this] at d3
      rw [d3] at hc2; cases hc2
 ·have hc := of_decide_eq_false hc
  have hk0 : 1 ≤ k := by omega
  refine ⟨⟨by rw [c1]; rfl, by rw [c2]; rfl⟩, fun i hi => ?_, by omega, c5 hk0, fun y hy => by rw [c1]; exact (c6 y hy).1, c7⟩
  unfold sideOk
  rw [c1, c2, Bool.and_eq_true, btw_iff, btw_iff]
  rcases (by omega : i = 0 ∨ i = 1) with rfl | rfl
  ·show (1 ≤ b0 ∧ b0 ≤ 4) ∧ 0 ≤ a0 ∧ a0 ≤ b0 - 1; omega
  ·show (1 ≤ b1 ∧ b1 ≤ 4) ∧ 0 ≤ a1 ∧ a1 ≤ b1 - 1; omega
end Go.Proofs.Ytmpjooneiaiffaa
