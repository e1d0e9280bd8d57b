/- Insertion sort by a key. -/
import Derived.Test.YtjoniingnbmljaaLawPA
set_option maxRecDepth 8000
namespace Go.Proofs.Ytjoniingnbmljaa
open Go.RowKit
abbrev El := ChainCard

/-! ### Lists by a key -/
section
variable {α : Type} (key : α → Int)
def Stab (xs ys : List α) : Prop := ∀ v : Int, xs.filter (fun x => key x == v) = ys.filter (fun x => key x == v)
def Srt (xs : List α) : Prop := xs.Pairwise fun a b => key a ≤ key b
variable {key}
theorem Stab.refl (xs : List α) : Stab key xs xs := fun _ => rfl
theorem Stab.trans {xs ys zs : List α} (h : Stab key xs ys) (k : Stab key ys zs) : Stab key xs zs := fun v => (h v).trans (k v)
theorem Stab.app {a a' b b' : List α} (h : Stab key a a') (k : Stab key b b') : Stab key (a ++ b) (a' ++ b') := fun v => by rw [List.filter_append, List.filter_append, h v, k v]
theorem Stab.mem {xs ys : List α} (h : Stab key xs ys) {x : α} (hx : x ∈ ys) : x ∈ xs := by
 have h1 : x ∈ ys.filter (fun y => key y == key x) := List.mem_filter.2 ⟨hx, by simp⟩
 rw [← h (key x)] at h1
 exact (List.mem_filter.1 h1).1
theorem Stab.swap {a b : List α} (h : ∀ x ∈ a, ∀ y ∈ b, key y < key x) : Stab key (a ++ b) (b ++ a) := fun v => by
 rw [List.filter_append, List.filter_append]
 by_cases hb : b.filter (fun x => key x == v) = []
 ·rw [hb]; simp
 ·have ha : a.filter (fun x => key x == v) = [] := List.filter_eq_nil_iff.2 fun x hx hk => by
   obtain ⟨y, hy⟩ := List.exists_mem_of_ne_nil _ hb
   obtain ⟨hy1, hy2⟩ := List.mem_filter.1 hy
   have := h x hx y hy1
   simp at hk hy2
   omega
  rw [ha]; simp
theorem srt_app {a b : List α} : Srt key (a ++ b) ↔ Srt key a ∧ Srt key b ∧ ∀ x ∈ a, ∀ y ∈ b, key x ≤ key y := List.pairwise_append
end
/-! ### Places in a list of parts -/
section
variable {α : Type}
theorem get_at {p s : List α} {x : α} {i : Nat} (hi : i = p.length) (h : i < (p ++ x :: s).length) : (p ++ x :: s)[i] = x := by subst hi; simp
theorem set_at {p s : List α} {x y : α} {i : Nat} (hi : i = p.length) : (p ++ x :: s).set i y = p ++ y :: s := by subst hi; simp
end
section
variable {β : Type} {Q : β → Prop} {K : List El → Option β} {m A B C : List El} {u v : El} {a b : Int}
theorem get_lo {i : Nat} (hi : i = A.length) (h : i < (A ++ u :: (B ++ v :: C)).length) : (A ++ u :: (B ++ v :: C))[i] = u := get_at hi h
theorem get_hi {i : Nat} (hi : i = A.length + 1 + B.length) (h : i < (A ++ u :: (B ++ v :: C)).length) : (A ++ u :: (B ++ v :: C))[i] = v := by
 have e : A ++ u :: (B ++ v :: C) = (A ++ u :: B) ++ v :: C := by simp
 simp only [e]
 exact get_at (by simp; omega) _
theorem set_lo {i : Nat} (hi : i = A.length) (y : El) : (A ++ u :: (B ++ v :: C)).set i y = A ++ y :: (B ++ v :: C) := set_at hi
theorem set_hi {i : Nat} (hi : i = A.length + 1 + B.length) (y : El) : (A ++ u :: (B ++ v :: C)).set i y = A ++ u :: (B ++ y :: C) := by
 have e : ∀ z, A ++ u :: (B ++ z :: C) = (A ++ u :: B) ++ z :: C := fun z => by simp
 rw [e, e]
 exact set_at (by simp; omega)
theorem swapHi (hm : m = A ++ u :: (B ++ v :: C)) (ha : a = ((A.length + 1 + B.length : Nat) : Int)) (hb : b = (A.length : Int)) (hk : Yes (K (A ++ v :: (B ++ u :: C))) Q) :
  Yes ((idx m b).bind fun y1 => (idx m a).bind fun y2 => (idx m a).bind fun _ => (idx (List.set m (Int.toNat a) y1) b).bind fun _ => K (List.set (List.set m (Int.toNat a) y1) (Int.toNat b) y2)) Q := by
 subst hm
 refine Yes.bind (Yes.idx hb (by simp) (Yes.bind (Yes.idx ha (by simp; omega) (Yes.bind (Yes.idx ha (by simp; omega) (Yes.bind (Yes.idx hb (by simp) ?_)))))))
 subst ha; subst hb
 rw [get_hi rfl, get_lo rfl, Int.toNat_natCast, Int.toNat_natCast, set_hi rfl, set_lo rfl]
 exact hk
end
theorem s289 {φ : El → El → Option Int} {key : El → Int} {xs P X S : List El} (hφ : ∀ x y, x ∈ xs → y ∈ xs → ∃ c, φ x y = some c ∧ (c < 0 ↔ key x < key y)) {a b : Int} (hm : xs = P ++ X ++ S) (ha : a = P.length) (hb : b = ((P.length + X.length : Nat) : Int)) (hs : xs.length < 1000000) : Yes (f289 xs a b φ) fun r => ∃ Y, r = P ++ Y ++ S ∧ Stab key X Y ∧ Srt key Y := by
 have hlen : P.length + X.length + S.length < 1000000 := by rw [hm] at hs; simp at hs; omega
 unfold f289
 subst ha; subst hb
 rw [w64_id (by omega) (by omega)]
 by_cases h0 : X = []
 ·subst h0
  refine Yes.lp (fun s => s.1 = xs ∧ s.2 = (P.length : Int) + 1) (fun _ => 0) ⟨rfl, rfl⟩ (by decide) ?_
  rintro ⟨r, j⟩ k ⟨h1, h2⟩ hk
  simp only at h1 h2
  subst h1; subst h2
  exact Yes.jn (Yes.cond (fun h => absurd h (by simp; omega)) (fun _ => Yes.some ⟨[], by rw [hm], Stab.refl _, List.Pairwise.nil⟩))
 obtain ⟨x0, X0, rfl⟩ := List.exists_cons_of_ne_nil h0
 have hXl : (x0 :: X0).length = X0.length + 1 := rfl
 refine Yes.lp (fun s => ∃ X1 Z Y : List El, X0 = X1 ++ Z ∧ s.1 = P ++ Y ++ Z ++ S ∧ Y.length = X1.length + 1 ∧ s.2 = ((P.length + Y.length : Nat) : Int) ∧ Stab key (x0 :: X1) Y ∧ Srt key Y) (fun s => (P.length + X0.length + 2) - s.2.toNat)
  ⟨[], X0, [x0], rfl, by rw [hm]; simp, rfl, by simp, Stab.refl _, List.pairwise_singleton _ _⟩ (by simp only; omega) ?_
 rintro ⟨r, j⟩ k ⟨X1, Z, Y, hX, h1, hY, h2, hst, hsr⟩ hk
 simp only at h1 h2 hk
 subst h2
 have hXl2 : X0.length = X1.length + Z.length := by rw [hX]; simp
 refine Yes.jn (Yes.cond (fun hlt => Yes.bind ?_) (fun hge => Yes.some ?_))
 rotate_left
 ·have hz : Z = [] := List.length_eq_zero_iff.1 (by simp at hge; omega)
  subst hz
  exact ⟨Y, by rw [h1]; simp, by rw [hX]; simpa using hst, hsr⟩
 have hzl : 0 < Z.length := by simp at hlt; omega
 obtain ⟨z, Z', rfl⟩ := List.exists_cons_of_ne_nil (List.length_pos_iff.1 hzl)
 simp only [List.length_cons] at hXl2
 refine Yes.lp (fun s => ∃ Y1 Y2 : List El, Y = Y1 ++ Y2 ∧ s.1 = P ++ Y1 ++ z :: Y2 ++ Z' ++ S ∧ s.2 = ((P.length + Y1.length : Nat) : Int) ∧ ∀ y ∈ Y2, key z < key y) (fun s => s.2.toNat)
  ⟨Y, [], by simp, by rw [h1]; simp, rfl, fun y hy => by cases hy⟩ (by simp only; omega) ?_
 rintro ⟨r2, j⟩ k2 ⟨Y1, Y2, hYe, h3, h4, hY2⟩ hk2
 simp only at h3 h4 hk2
 subst h4
 have hYl : Y.length = Y1.length + Y2.length := by rw [hYe]; simp
 have hr2 : r2.length < 1000000 := by rw [h3]; simp; omega
 have fin : (Y1 = [] ∨ ∃ y Y1', Y1 = Y1' ++ [y] ∧ key y ≤ key z) → Yes (some r2) (fun r => Yes (k (r, w64 (((P.length + Y.length : Nat) : Int) + 1))) fun r => ∃ Y, r = P ++ Y ++ S ∧ Stab key (x0 :: X0) Y ∧ Srt key Y) := fun hfin => by
  rw [w64_id (by omega) (by omega)]
  refine Yes.some (hk _ ⟨X1 ++ [z], Z', Y1 ++ z :: Y2, by rw [hX]; simp, by rw [h3]; simp, by simp; omega, by simp; omega, ?_, ?_⟩ (by simp only; omega))
  ·have e1 : Stab key (x0 :: (X1 ++ [z])) (Y ++ [z]) := hst.app (Stab.refl [z])
   have e2 : Stab key (Y2 ++ [z]) ([z] ++ Y2) := Stab.swap fun x hx y hy => by rw [List.mem_singleton.1 hy]; exact hY2 x hx
   have e3 : Stab key (Y1 ++ (Y2 ++ [z])) (Y1 ++ ([z] ++ Y2)) := (Stab.refl Y1).app e2
   refine e1.trans ?_
   rw [hYe, List.append_assoc]
   exact e3
  ·rw [hYe] at hsr
   obtain ⟨s1, s2, s3⟩ := srt_app.1 hsr
   refine srt_app.2 ⟨s1, List.pairwise_cons.2 ⟨fun y hy => by have := hY2 y hy; omega, s2⟩, fun x hx y hy => ?_⟩
   rcases List.mem_cons.1 hy with rfl | hy
   ·rcases hfin with rfl | ⟨q, Q, rfl, hq⟩
    ·cases hx
    ·obtain ⟨_, _, s5⟩ := srt_app.1 s1
     rcases List.mem_append.1 hx with h | h
     ·have := s5 x h q (by simp); omega
     ·rw [List.mem_singleton.1 h]; exact hq
   ·exact s3 x hx y hy
 refine Yes.jn (Yes.bind (Yes.cond (fun hgt => ?_) (fun hng => Yes.some (Yes.cond (fun h => nomatch h) (fun _ => fin (.inl ?_))))))
 rotate_left
 ·exact List.length_eq_zero_iff.1 (by simp at hng; omega)
 have hY1 : 0 < Y1.length := by simp at hgt; omega
 obtain ⟨y, Y1', hY1e⟩ : ∃ y Y1', Y1 = Y1' ++ [y] := by
  have hne : Y1 ≠ [] := List.length_pos_iff.1 hY1
  exact ⟨Y1.getLast hne, Y1.dropLast, (List.dropLast_concat_getLast hne).symm⟩
 have hY1l : Y1.length = Y1'.length + 1 := by rw [hY1e]; simp
 have e : r2 = (P ++ Y1') ++ y :: ([] ++ z :: (Y2 ++ Z' ++ S)) := by rw [h3, hY1e]; simp
 have hA : (P ++ Y1').length = P.length + Y1'.length := by simp
 rw [w64_id (n := ((P.length + Y1.length : Nat) : Int) - 1) (by omega) (by omega)]
 have hi1 : P.length + Y1.length < r2.length := by rw [h3]; simp
 have hi0 : P.length + Y1'.length < r2.length := by omega
 refine Yes.bind (Yes.idx (n := P.length + Y1.length) rfl hi1 (Yes.bind (Yes.idx (n := P.length + Y1'.length) (by omega) hi0 ?_)))
 have g1 : r2[P.length + Y1.length] = z := by simp only [e]; exact get_hi (by rw [hA]; simp; omega) _
 have g0 : r2[P.length + Y1'.length] = y := by simp only [e]; exact get_lo (by rw [hA]) _
 rw [g1, g0]
 obtain ⟨c, hφc, hcl⟩ := hφ z y (by rw [hm, hX]; simp) (by rw [hm]; have := hst.mem (x := y) (by rw [hYe, hY1e]; simp); rw [hX]; simp at this ⊢; grind)
 refine Yes.bind (Yes.of hφc (Yes.some (Yes.cond (fun hc => ?_) (fun hc => fin (.inr ⟨y, Y1', hY1e, ?_⟩)))))
 rotate_left
 ·simp at hc; omega
 have hc : key z < key y := by simp at hc; omega
 refine Yes.jn (Yes.bind (swapHi e (by rw [hA]; simp; omega) (by rw [hA]; omega) (Yes.some ?_)))
 refine hk2 _ ⟨Y1', y :: Y2, by rw [hYe, hY1e]; simp, by simp, by omega, fun q hq => ?_⟩ (by simp only; omega)
 rcases List.mem_cons.1 hq with rfl | hq
 ·exact hc
 ·exact hY2 q hq
end Go.Proofs.Ytjoniingnbmljaa
/- Plain laws: cards that are punched, and woven. -/
set_option maxRecDepth 8000
namespace Go.Proofs.Ytjoniingnbmljaa
open Go.RowKit
open Classical

def crd (rs : List Int) : List ChainCard := rs.mapIdx fun i r => ⟨i, r, false⟩
theorem crd_len (rs : List Int) : (crd rs).length = rs.length := by simp [crd]
theorem crd_at {rs : List Int} {i : Nat} (h : i < (crd rs).length) (h' : i < rs.length) : (crd rs)[i] = ⟨i, rs[i], false⟩ := by simp [crd]
theorem crd_snoc (rs : List Int) (r : Int) : crd (rs ++ [r]) = crd rs ++ [⟨rs.length, r, false⟩] := by unfold crd; rw [List.mapIdx_concat]
theorem c109 {H : Nat} (h : 1 ≤ H ∧ H ≤ 12) : f109 (H : Int) = some true := by
 unfold f109
 rw [c112 _ _ _ (by simp) fun a ha => by rw [List.mem_singleton.1 ha]; omega]
 rfl
theorem c110 {H : Nat} (h : 1 ≤ H ∧ H ≤ 12) {xs : List Int} (hl : xs.length ≤ 1000) (hx : ∀ r ∈ xs, 0 ≤ r ∧ r < ((2 ^ H : Nat) : Int)) : f110 (H : Int) xs = some true := by
 have hp := pow_rng h.2
 refine Yes.eq ?_
 unfold f110
 refine qbind _ (shl_small (by omega)) (qbind true (c112 _ _ _ (by omega) fun a ha => ?_) (Yes.some rfl))
 rw [w64_id (by omega) (by omega)]
 have := hx a ha
 omega
theorem p42 {H : Nat} (hH : 1 ≤ H ∧ H ≤ 12) {d : Design} (hd : DOk H d) : f42 d = some (⟨d.Hooks, crd d.Rows⟩, 0) := by
 obtain ⟨h1, h2, h3⟩ := hd
 refine Yes.eq ?_
 unfold f42
 refine Yes.jn (qbind true (by rw [h1]; exact c109 hH) (qskip rfl (qskip (decide_eq_false (by omega)) (qskip (beq_eq_false_iff_ne.2 (by omega)) (qbind true (by rw [h1]; exact c110 hH (by omega) h3) (qskip rfl ?_))))))
 refine Yes.bind (Yes.mono (Q' := fun m => m = ⟨d.Hooks, crd d.Rows⟩) ?_ fun m hm => Yes.some (by rw [hm]))
 refine Yes.upto d.Rows.length (by omega) (fun i m => m = ⟨d.Hooks, crd (d.Rows.take i)⟩) rfl (fun i m k hi hI hk => ?_) (fun m k hI => qskip (decide_eq_false (by omega)) (Yes.some (by rw [hI, List.take_length])))
 subst hI
 have hl : (crd (d.Rows.take i)).length = i := by rw [crd_len]; simp; omega
 refine qtake (decide_eq_true (by omega)) (Yes.bind (qbind _ (qidx hi) (Yes.bind (Yes.apnd (by simp only [hl]; simp; omega) (by simp only [hl]; simp; omega) (Yes.some (hk _ ?_))))))
 rw [take_succ hi, crd_snoc, List.length_take, show min i d.Rows.length = i by omega]
def BOk (H : Nat) (b : ChainBelt) : Prop := b.Hooks = H ∧ (1 ≤ b.Cards.length ∧ b.Cards.length ≤ 10) ∧ ∀ c ∈ b.Cards, (0 ≤ c.Number ∧ c.Number ≤ 59) ∧ 0 ≤ c.Row ∧ c.Row < ((2 ^ H : Nat) : Int)
theorem c59 {H : Nat} {b : ChainBelt} (h : BOk H b) : f59 b = some b := by
 have := h.2.1
 refine Yes.eq ?_
 unfold f59
 exact Yes.bind (Yes.apnd (by simp; omega) (by simp; omega) (Yes.some rfl))
theorem c111 {H : Nat} (hH : 1 ≤ H ∧ H ≤ 12) {b : ChainBelt} (h : BOk H b) : f111 b = some (⟨b, b.Hooks⟩, 0) := by
 obtain ⟨h1, h2, h3⟩ := h
 refine Yes.eq ?_
 unfold f111
 have t1 : ∀ x y z : Int, x ≤ z → z ≤ y → ∀ a ∈ ([z] : List Int), x ≤ a ∧ a ≤ y := fun x y z h1 h2 a ha => by rw [List.mem_singleton.1 ha]; exact ⟨h1, h2⟩
 have h249 : ∀ c ∈ b.Cards, f249 c (H : Int) = some false := fun c hc => by
  have hc := h3 c hc
  refine Yes.eq ?_
  unfold f249
  refine Yes.bind (qbind true (c112 _ _ _ (by simp) (t1 _ _ _ (by omega) (by omega))) (qskip rfl (qbind true (c110 hH (by simp) fun r hr => ?_) (Yes.some (Yes.some rfl)))))
  rw [List.mem_singleton.1 hr]; exact hc.2
 have h191 : f191 (H : Int) b.Cards = some true := by
  refine Yes.eq ?_
  unfold f191
  refine Yes.bind (qtake (decide_eq_true (by omega)) (qbind _ (c250 b.Cards _ (fun _ => false) (by omega) h249) (Yes.some (Yes.some ?_))))
  simp
 refine Yes.jn (qbind true (by rw [h1]; exact c109 hH) (qskip rfl (qskip (decide_eq_false (by omega)) (qbind true (by rw [h1]; exact h191) (qskip rfl (Yes.some rfl))))))
theorem shr_some (x : Int) {n : Int} (h : 0 ≤ n) : shr64 x n = some (x.fdiv (2 ^ (min n.toNat 64))) := by unfold shr64; rw [if_neg (by omega)]
theorem shl_some (x : Int) {n : Int} (h : 0 ≤ n) : shlU x n = some (wu64 (x * 2 ^ (min n.toNat 64))) := by unfold shlU; rw [if_neg (by omega)]
theorem wu_rng (n : Int) : 0 ≤ wu64 n ∧ wu64 n < 18446744073709551616 := by
 unfold wu64 IntKind.wrap
 simp only [IntKind.bits, IntKind.signed]
 first
  | omega
  | (simp; omega)
theorem c278 (u : U64) : Yes (f278 u) (fun v => 0 ≤ v.n ∧ v.n < 18446744073709551616) := by
 unfold f278
 exact qbind _ (shr_some _ (by omega)) (qbind _ (shl_some _ (by omega)) (qbind _ (shr_some _ (by omega)) (qbind _ (shl_some _ (by omega)) (qbind _ (shr_some _ (by omega)) (qbind _ (shl_some _ (by omega)) (Yes.some (wu_rng _)))))))
theorem c251 (u : U64) : Yes (f251 u) (fun v => 0 ≤ v.n ∧ v.n < 18446744073709551616) := by
 unfold f251
 exact qbind _ (shr_some _ (by omega)) (qbind _ (shl_some _ (by omega)) (qbind _ (shr_some _ (by omega)) (qbind _ (shl_some _ (by omega)) (qbind _ (shr_some _ (by omega)) (qbind _ (shl_some _ (by omega)) (Yes.bind ((c278 _).mono fun v hv => Yes.some hv)))))))
theorem p193 {H : Nat} (hH : 1 ≤ H ∧ H ≤ 12) (r : Int) : Yes (f193 (H : Int) r) (fun m => 0 ≤ m ∧ m < ((2 ^ H : Nat) : Int)) := by
 unfold f193
 have hp := pow_rng hH.2
 refine Yes.bind ((c251 _).mono fun v hv => ?_)
 rw [wu_id (n := (H : Int)) (by omega) (by omega), wu_id (n := (64 : Int) - H) (by omega) (by omega)]
 refine qbind _ (shr_some _ (by omega)) ?_
 have e : min ((64 : Int) - H).toNat 64 = 64 - H := by omega
 have e2 : (2 : Nat) ^ H * 2 ^ (64 - H) = 18446744073709551616 := by rw [← Nat.pow_add, show H + (64 - H) = 64 by omega]
 have e3 : ((2 : Int) ^ (64 - H)) = ((2 ^ (64 - H) : Nat) : Int) := by norm_cast
 rw [e, e3]
 obtain ⟨n, hn⟩ := Int.eq_ofNat_of_zero_le hv.1
 have hv2 := hv.2
 rw [hn] at hv2 ⊢
 rw [Int.fdiv_eq_ediv_of_nonneg _ (Int.natCast_nonneg _)]
 have hlt : n / 2 ^ (64 - H) < 2 ^ H := by
  rw [Nat.div_lt_iff_lt_mul (Nat.two_pow_pos _), e2]; omega
 have hc : ((n : Int) / ((2 ^ (64 - H) : Nat) : Int)) = ((n / 2 ^ (64 - H) : Nat) : Int) := (Int.natCast_ediv n (2 ^ (64 - H))).symm
 rw [hc]
 generalize n / 2 ^ (64 - H) = q at hlt ⊢
 rw [w64_id (by omega) (by omega)]
 exact Yes.some ⟨by omega, by omega⟩
theorem p113 {H : Nat} (hH : 1 ≤ H ∧ H ≤ 12) {b : ChainBelt} (h : BOk H b) {i : Nat} (hi : i < b.Cards.length) :
  Yes (f113 ⟨b, b.Hooks⟩ (i : Int)) (fun r => (0 ≤ r ∧ r < ((2 ^ H : Nat) : Int)) ∧ (b.Cards[i].Turned = false → r = b.Cards[i].Row)) := by
 have hc := h.2.2 _ (List.getElem_mem hi)
 unfold f113
 refine Yes.jn (qbind _ (qidx hi) (Yes.cond (fun ht => ?_) (fun hf => qbind _ (qidx hi) (Yes.some ⟨hc.2, fun _ => rfl⟩))))
 rw [h.1]
 exact Yes.bind ((p193 hH _).mono fun m hm => Yes.some ⟨hm, fun hf => absurd (ht.symm.trans hf) (by simp)⟩)
theorem c60 {n : Nat} (hn : n ≤ 10) : f60 (n : Int) 1 = some (List.replicate n 1) := by
 refine Yes.eq ?_
 unfold f60
 rw [w64_id (n := (n : Int) * 1) (by omega) (by omega), Int.mul_one]
 refine Yes.bind (Yes.mono (Q' := fun m => m = List.replicate n 1) ?_ fun m hm => Yes.some hm)
 refine Yes.upto n (by omega) (fun i m => m = List.replicate i 1) rfl (fun i m k hi hI hk => ?_) (fun m k hI => Yes.jn (qskip (decide_eq_false (by omega)) (Yes.some hI)))
 subst hI
 refine Yes.jn (qtake (decide_eq_true (by omega)) (Yes.bind (Yes.bind (Yes.apnd (by simp; omega) (by simp; omega) (Yes.some (hk _ ?_))))))
 rw [List.replicate_succ']
theorem p45 {H : Nat} (hH : 1 ≤ H ∧ H ≤ 12) {b : ChainBelt} (h : BOk H b) :
  Yes (f45 b 0 (List.replicate b.Cards.length 1)) (fun r => r.2.2 = 0 ∧ r.1.length = b.Cards.length ∧ (∀ a ∈ r.1, 0 ≤ a ∧ a < ((2 ^ H : Nat) : Int)) ∧ ((∀ c ∈ b.Cards, c.Turned = false) → r.1 = b.Cards.map (·.Row))) := by
 have h2 := h.2.1
 unfold f45
 refine qbind _ (c111 hH h) (Yes.jn (qskip rfl (qbind true (c112 _ _ _ (by simp) fun a ha => ?_) (qskip rfl (qskip (decide_eq_false (by rw [List.length_replicate]; omega)) (qbind true (c112 _ _ _ (by rw [List.length_replicate]; omega) fun a ha => ?_) (qskip rfl ?_)))))))
 ·rw [List.mem_singleton.1 ha, w64_id (by omega) (by omega)]; omega
 ·rw [List.eq_of_mem_replicate ha]; omega
 refine Yes.bind (Yes.mono (Q' := fun r => r.1.length = b.Cards.length ∧ (∀ a ∈ r.1, 0 ≤ a ∧ a < ((2 ^ H : Nat) : Int)) ∧ ((∀ c ∈ b.Cards, c.Turned = false) → r.1 = b.Cards.map (·.Row))) ?_ fun r hr => Yes.some ⟨rfl, hr⟩)
 refine Yes.upto2 b.Cards.length (by omega) (fun i rows a => rows.length = i ∧ a = ((i % b.Cards.length : Nat) : Int) ∧ (∀ a ∈ rows, 0 ≤ a ∧ a < ((2 ^ H : Nat) : Int)) ∧ ((∀ c ∈ b.Cards, c.Turned = false) → rows = (b.Cards.take i).map (·.Row))) ⟨rfl, by simp, by simp, fun _ => rfl⟩ (fun i rows a k hi hI hk => ?_) (fun rows a k hI => ?_)
 ·obtain ⟨i1, i2, i3, i4⟩ := hI
  rw [Nat.mod_eq_of_lt hi] at i2
  subst i2
  refine qtake (decide_eq_true (by simp; omega)) (Yes.bind (qbind 1 ?_ (Yes.bind ((p113 hH h hi).mono fun r hr => Yes.bind (Yes.apnd (by rw [i1]; simp; omega) (by rw [i1]; simp; omega) ?_)))))
  ·rw [qidx (by simpa using hi)]; simp
  ·have h114 : f114 ⟨b, b.Hooks⟩ (i : Int) 1 = some (((i + 1) % b.Cards.length : Nat) : Int) := by
    unfold f114
    rw [w64_id (n := (i : Int) + 1) (by omega) (by omega)]
    show (rem64 _ (b.Cards.length : Int)).bind _ = _
    rw [rem_nn (by omega) (by omega)]
    rfl
   refine qbind _ h114 (Yes.some (hk (rows ++ [r]) _ ⟨by rw [List.length_append, i1]; rfl, rfl, fun a ha => ?_, fun hall => ?_⟩))
   ·rcases List.mem_append.1 ha with ha | ha
    ·exact i3 a ha
    ·rw [List.mem_singleton.1 ha]; exact hr.1
   ·rw [take_succ hi, List.map_append, ← i4 hall, hr.2 (hall _ (List.getElem_mem hi))]; rfl
 ·obtain ⟨i1, i2, i3, i4⟩ := hI
  exact qskip (decide_eq_false (by simp)) (Yes.some ⟨i1, i3, fun hall => by rw [i4 hall, List.take_length]⟩)
end Go.Proofs.Ytjoniingnbmljaa
