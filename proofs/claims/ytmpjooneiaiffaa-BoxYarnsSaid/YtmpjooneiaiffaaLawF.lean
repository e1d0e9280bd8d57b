/- Plain laws: what is in a box; one pick, by the reference. -/
import Derived.Test.YtmpjooneiaiffaaLawD
set_option maxRecDepth 8000
namespace Go.Proofs.Ytmpjooneiaiffaa
open Go.RowKit
open Classical

def isAt (xs : List BoxShuttle) (s b : Int) (i : Nat) : Prop := ∃ h : i < xs.length, xs[i].Side = s ∧ xs[i].Box = b
noncomputable def inX (xs : List BoxShuttle) (s b : Int) : Int := if h : ∃ i, isAt xs s b i then ((Classical.choose h : Nat) : Int) else -1
theorem Dst.one {xs : List BoxShuttle} (hd : Dst xs) {s b : Int} {i j : Nat} (h1 : isAt xs s b i) (h2 : isAt xs s b j) : i = j := by
 obtain ⟨hi, a1, a2⟩ := h1
 obtain ⟨hj, b1, b2⟩ := h2
 rcases Nat.lt_trichotomy i j with h | h | h
 ·exact absurd ⟨b1.trans a1.symm, b2.trans a2.symm⟩ (hd j i hj hi h)
 ·exact h
 ·exact absurd ⟨a1.trans b1.symm, a2.trans b2.symm⟩ (hd i j hi hj h)
theorem inX_some {xs : List BoxShuttle} (hd : Dst xs) {s b : Int} {i : Nat} (h : isAt xs s b i) : inX xs s b = i := by
 unfold inX
 have he : ∃ i, isAt xs s b i := ⟨i, h⟩
 rw [dif_pos he, hd.one (Classical.choose_spec he) h]
theorem inX_none {xs : List BoxShuttle} {s b : Int} (h : ¬ ∃ i, isAt xs s b i) : inX xs s b = -1 := by
 unfold inX; rw [dif_neg h]
theorem inX_cases {xs : List BoxShuttle} (hd : Dst xs) (s b : Int) : (∃ i : Nat, isAt xs s b i ∧ inX xs s b = i) ∨ ((¬ ∃ i, isAt xs s b i) ∧ inX xs s b = -1) := by
 by_cases h : ∃ i, isAt xs s b i
 ·obtain ⟨i, hi⟩ := h; exact .inl ⟨i, hi, inX_some hd hi⟩
 ·exact .inr ⟨h, inX_none h⟩
theorem s89 (l : BoxLoom) (h : l.Shuttles.length ≤ 1000) (hd : Dst l.Shuttles) (s b : Int) : f89 l s b = some (inX l.Shuttles s b) := by
 refine Yes.eq ?_
 unfold f89
 refine Yes.jn (Yes.upto0 l.Shuttles.length (by omega) (fun i => ∀ j, j < i → ¬ isAt l.Shuttles s b j) (fun _ h => absurd h (Nat.not_lt_zero _)) (fun i k hi hI hk => ?_) (fun k hI => ?_))
 ·refine Yes.jn (qtake (by simp; omega) (Yes.jn (Yes.bind (Yes.mono (Q' := fun r => r = decide (isAt l.Shuttles s b i)) ?_ fun r hr => ?_))))
  ·refine qbind _ (qidx hi) (Yes.cond (fun hc => qbind _ (qidx hi) (Yes.some ?_)) (fun hc => Yes.some ?_))
   ·have : l.Shuttles[i].Side = s := by simpa using hc
    by_cases h9 : l.Shuttles[i].Box = b
    ·rw [decide_eq_true (p := isAt l.Shuttles s b i) ⟨hi, this, h9⟩]; simp [h9]
    ·rw [decide_eq_false (p := isAt l.Shuttles s b i) (fun h => h9 h.2.2)]; simp [h9]
   ·have : ¬ l.Shuttles[i].Side = s := by simpa using hc
    exact (decide_eq_false (p := isAt l.Shuttles s b i) (fun h => this h.2.1)).symm
  ·subst hr
   refine Yes.cond (fun hc => Yes.some (inX_some hd (of_decide_eq_true hc)).symm) (fun hc => hk fun j hj => ?_)
   rcases Nat.lt_succ_iff_lt_or_eq.1 hj with h | rfl
   ·exact hI j h
   ·exact of_decide_eq_false hc
 ·refine Yes.jn (qskip (by simp) (Yes.some (inX_none ?_).symm))
  rintro ⟨j, hj⟩
  exact hI j hj.1 hj
def mv (xs : List BoxShuttle) (i : Nat) (s b : Int) : List BoxShuttle := xs.modify i fun x => { x with Side := s, Box := b }
theorem mv_len {xs : List BoxShuttle} {i : Nat} {s b : Int} : (mv xs i s b).length = xs.length := by simp [mv]
theorem mv_at {xs : List BoxShuttle} {i : Nat} {s b : Int} {j : Nat} (h : j < (mv xs i s b).length) (h' : j < xs.length) : (mv xs i s b)[j] = if i = j then { xs[j] with Side := s, Box := b } else xs[j] := by
 simp [mv, List.getElem_modify]
theorem mv_isAt {xs : List BoxShuttle} {i : Nat} (hi : i < xs.length) {s b s' b' : Int} {j : Nat} : isAt (mv xs i s b) s' b' j ↔ (i = j ∧ s = s' ∧ b = b') ∨ (i ≠ j ∧ isAt xs s' b' j) := by
 unfold isAt
 constructor
 ·rintro ⟨h, h1, h2⟩
  have h' : j < xs.length := by rw [mv_len] at h; exact h
  rw [mv_at h h'] at h1 h2
  split at h1
  ·rename_i he
   rw [if_pos he] at h2
   exact .inl ⟨he, h1, h2⟩
  ·rename_i he
   rw [if_neg he] at h2
   exact .inr ⟨he, h', h1, h2⟩
 ·rintro (⟨rfl, rfl, rfl⟩ | ⟨he, h, h1, h2⟩)
  ·refine ⟨by rw [mv_len]; exact hi, ?_⟩
   rw [mv_at (by rw [mv_len]; exact hi) hi, if_pos rfl]; exact ⟨rfl, rfl⟩
  ·refine ⟨by rw [mv_len]; exact h, ?_⟩
   rw [mv_at (by rw [mv_len]; exact h) h, if_neg he]; exact ⟨h1, h2⟩
theorem dst_iff {xs : List BoxShuttle} : Dst xs ↔ ∀ s b i j, isAt xs s b i → isAt xs s b j → i = j := by
 constructor
 ·intro h s b i j h1 h2; exact h.one h1 h2
 ·intro h i j hi hj hji he
  have := h _ _ i j ⟨hi, rfl, rfl⟩ ⟨hj, he.1.symm, he.2.symm⟩
  omega
theorem mv_dst {xs : List BoxShuttle} (hd : Dst xs) {i : Nat} (hi : i < xs.length) {s b : Int} (hn : ¬ ∃ j, isAt xs s b j) : Dst (mv xs i s b) := by
 rw [dst_iff] at hd ⊢
 intro s' b' j k h1 h2
 rw [mv_isAt hi] at h1 h2
 rcases h1 with ⟨rfl, rfl, rfl⟩ | ⟨hj, h1⟩
 ·rcases h2 with ⟨rfl, _⟩ | ⟨_, h2⟩
  ·rfl
  ·exact absurd ⟨_, h2⟩ hn
 ·rcases h2 with ⟨rfl, rfl, rfl⟩ | ⟨_, h2⟩
  ·exact absurd ⟨_, h1⟩ hn
  ·exact hd _ _ _ _ h1 h2
def mvs (l : BoxLoom) (p : BoxPick) : Int := (max p.Left (l.At.getD 0 0) - min p.Left (l.At.getD 0 0)) + (max p.Right (l.At.getD 1 0) - min p.Right (l.At.getD 1 0))
noncomputable def oneL (l : BoxLoom) (p : BoxPick) : Option (BoxLoom × Nat × Int) :=
 if h : (inX l.Shuttles 0 p.Left < 0) ↔ (inX l.Shuttles 1 p.Right < 0) then none
 else if 0 ≤ inX l.Shuttles 0 p.Left then some (⟨l.Boxes, [p.Left, p.Right], mv l.Shuttles (inX l.Shuttles 0 p.Left).toNat 1 p.Right⟩, (inX l.Shuttles 0 p.Left).toNat, mvs l p)
 else some (⟨l.Boxes, [p.Left, p.Right], mv l.Shuttles (inX l.Shuttles 1 p.Right).toNat 0 p.Left⟩, (inX l.Shuttles 1 p.Right).toNat, mvs l p)
theorem okP_iff {B : List Int} {p : BoxPick} : okP B p = true ↔ (0 ≤ p.Left ∧ p.Left ≤ B.getD 0 0 - 1) ∧ (0 ≤ p.Right ∧ p.Right ≤ B.getD 1 0 - 1) := by
 unfold okP; rw [Bool.and_eq_true, btw_iff, btw_iff]
theorem set_set {xs : List BoxShuttle} {i : Nat} (hi : i < xs.length) (s b : Int) :
  (xs.set i { xs[i] with Side := s }).set i { { xs[i] with Side := s } with Box := b } = mv xs i s b := by
 unfold mv
 rw [List.set_set]
 apply List.ext_getElem (by simp)
 intro n h1 h2
 rw [List.getElem_set, List.getElem_modify]
 split
 ·rename_i he; subst he; rfl
 ·rfl
theorem moves_is {a b c d : Int} (ha : 0 ≤ a ∧ a ≤ 1000) (hb : 0 ≤ b ∧ b ≤ 1000) (hc : 0 ≤ c ∧ c ≤ 1000) (hd : 0 ≤ d ∧ d ≤ 1000) :
  w64 (w64 (w64 (max64 a b - min64 a b) + max64 c d) - min64 c d) = (max a b - min a b) + (max c d - min c d) := by
 simp only [max64_eq, min64_eq]
 rw [w64_id (n := max a b - min a b) (by omega) (by omega), w64_id (n := max a b - min a b + max c d) (by omega) (by omega), w64_id (by omega) (by omega)]
 omega
theorem s61 {l : BoxLoom} (hl : LOk l) {p : BoxPick} (hp : okP l.Boxes p = true) :
  f61 l p = some (match oneL l p with | some (n, i, m) => (n, (i : Int), m, true) | none => (l, 0, 0, false)) := by
 have hd := hl.dst
 have hf := hl.few
 have hp' := okP_iff.1 hp
 have b0 := hl.box (i := 0) (by omega)
 have b1 := hl.box (i := 1) (by omega)
 have a0 := hl.at (i := 0) (by omega)
 have a1 := hl.at (i := 1) (by omega)
 refine Yes.eq ?_
 unfold f61
 refine qbind _ (s89 l (by omega) hd 0 p.Left) (qbind _ (s89 l (by omega) hd 1 p.Right) (Yes.jn ?_))
 have hmv : w64 (w64 (w64 (max64 p.Left (l.At.getD 0 0) - min64 p.Left (l.At.getD 0 0)) + max64 p.Right (l.At.getD 1 0)) - min64 p.Right (l.At.getD 1 0)) = mvs l p :=
  moves_is (by omega) (by omega) (by omega) (by omega)
 rcases inX_cases hd 0 p.Left with ⟨i, hi, ei⟩ | ⟨hi, ei⟩ <;> rcases inX_cases hd 1 p.Right with ⟨j, hj, ej⟩ | ⟨hj, ej⟩ <;> rw [ei, ej]
 ·refine qbind true (by rw [decide_eq_true (p := (i : Int) ≥ 0) (by omega), decide_eq_true (p := (j : Int) ≥ 0) (by omega)]; rfl) (Yes.some ?_)
  unfold oneL; rw [ei, ej, dif_pos (by omega)]
 ·refine qbind false (by rw [decide_eq_true (p := (i : Int) ≥ 0) (by omega), decide_eq_false (p := (-1 : Int) ≥ 0) (by omega), decide_eq_false (p := (i : Int) < 0) (by omega)]; rfl) ?_
  refine qbind _ (s50 l hl.sml) (Yes.bind ?_)
  refine qtake (by simp) (qbind _ (qidx hi.1) (qbind { l.Shuttles[i]'hi.1 with Side := 1 } ?_ (Yes.some ?_)))
  ·rw [Int.toNat_natCast]
   show idx (l.Shuttles.set i _) (i : Int) = _
   rw [qidx (by rw [List.length_set]; exact hi.1), List.getElem_set_self]
  ·refine qbind _ (at_at hl.len (i := 0) (by omega)) (qbind _ (at_at hl.len (i := 0) (by omega)) (qbind _ (at_at hl.len (i := 1) (by omega)) (qbind _ (at_at hl.len (i := 1) (by omega)) (Yes.some ?_))))
   rw [hmv]
   unfold oneL; rw [ei, ej, dif_neg (by omega), if_pos (by omega)]
   simp only [Int.toNat_natCast]
   rw [← set_set hi.1]
 ·refine qbind false (by rw [decide_eq_true (p := (-1 : Int) < 0) (by omega), decide_eq_false (p := (-1 : Int) ≥ 0) (by omega), decide_eq_false (p := (j : Int) < 0) (by omega)]; rfl) ?_
  refine qbind _ (s50 l hl.sml) (Yes.bind ?_)
  refine qskip (by simp) (qbind _ (qidx hj.1) (qbind { l.Shuttles[j]'hj.1 with Side := 0 } ?_ (Yes.some ?_)))
  ·rw [Int.toNat_natCast]
   show idx (l.Shuttles.set j _) (j : Int) = _
   rw [qidx (by rw [List.length_set]; exact hj.1), List.getElem_set_self]
  ·refine qbind _ (at_at hl.len (i := 0) (by omega)) (qbind _ (at_at hl.len (i := 0) (by omega)) (qbind _ (at_at hl.len (i := 1) (by omega)) (qbind _ (at_at hl.len (i := 1) (by omega)) (Yes.some ?_))))
   rw [hmv]
   unfold oneL; rw [ei, ej, dif_neg (by omega), if_neg (by omega)]
   simp only [Int.toNat_natCast]
   rw [← set_set hj.1]
 ·refine qbind true (by rw [decide_eq_true (p := (-1 : Int) < 0) (by omega), decide_eq_false (p := (-1 : Int) ≥ 0) (by omega)]; rfl) (Yes.some ?_)
  unfold oneL; rw [ei, ej, dif_pos (by omega)]
end Go.Proofs.Ytmpjooneiaiffaa
/- Plain laws: what one pick does to the loom and to the race. -/
set_option maxRecDepth 8000
namespace Go.Proofs.Ytmpjooneiaiffaa
open Go.RowKit
open Classical

structure Goes (a a' : List BoxShuttle) (i : Nat) (s c s' c' : Int) : Prop where
 at0 : isAt a s c i
 free : ¬ ∃ k, isAt a s' c' k
 to : ∀ t d k, isAt a' t d k ↔ (i = k ∧ s' = t ∧ c' = d) ∨ (i ≠ k ∧ isAt a t d k)
theorem Goes.mv {a : List BoxShuttle} {i : Nat} {s c s' c' : Int} (h : isAt a s c i) (hf : ¬ ∃ k, isAt a s' c' k) : Goes a (mv a i s' c') i s c s' c' := ⟨h, hf, fun _ _ _ => mv_isAt h.1⟩
theorem isAt_same {a : List BoxShuttle} {s c t d : Int} {i : Nat} (h : isAt a s c i) (h' : isAt a t d i) : s = t ∧ c = d := by
 obtain ⟨_, h1, h2⟩ := h; obtain ⟨_, k1, k2⟩ := h'; exact ⟨h1.symm.trans k1, h2.symm.trans k2⟩
theorem Goes.left {a a' : List BoxShuttle} {i : Nat} {s c s' c' : Int} (hd : Dst a) (h : Goes a a' i s c s' c') (hn : ¬ (s = s' ∧ c = c')) : ¬ ∃ k, isAt a' s c k := by
 rintro ⟨k, hk⟩
 rcases (h.to _ _ _).1 hk with ⟨_, h1, h2⟩ | ⟨h1, h2⟩
 ·exact hn ⟨h1.symm, h2.symm⟩
 ·exact h1 (hd.one h.at0 h2)
theorem Goes.there {a a' : List BoxShuttle} {i : Nat} {s c s' c' : Int} (h : Goes a a' i s c s' c') : isAt a' s' c' i := (h.to _ _ _).2 (.inl ⟨rfl, rfl, rfl⟩)
def Wh (a b : List BoxShuttle) : Prop := ∀ s c i, isAt a s c i ↔ isAt b s c i
theorem Wh.symm {a b : List BoxShuttle} (h : Wh a b) : Wh b a := fun s c i => (h s c i).symm
theorem oneL_some {l : BoxLoom} (hd : Dst l.Shuttles) {p : BoxPick} {n : BoxLoom} {i : Nat} {m : Int} (h : oneL l p = some (n, i, m)) :
  m = mvs l p ∧ n.Boxes = l.Boxes ∧ n.At = [p.Left, p.Right] ∧ ((n.Shuttles = mv l.Shuttles i 1 p.Right ∧ Goes l.Shuttles n.Shuttles i 0 p.Left 1 p.Right) ∨ (n.Shuttles = mv l.Shuttles i 0 p.Left ∧ Goes l.Shuttles n.Shuttles i 1 p.Right 0 p.Left)) := by
 unfold oneL at h
 rcases inX_cases hd 0 p.Left with ⟨a, ha, ea⟩ | ⟨ha, ea⟩ <;> rcases inX_cases hd 1 p.Right with ⟨b, hb, eb⟩ | ⟨hb, eb⟩ <;> rw [ea, eb] at h
 ·rw [dif_pos (by omega)] at h; cases h
 ·rw [dif_neg (by omega), if_pos (by omega), Int.toNat_natCast] at h
  cases h
  exact ⟨rfl, rfl, rfl, .inl ⟨rfl, Goes.mv ha hb⟩⟩
 ·rw [dif_neg (by omega), if_neg (by omega), Int.toNat_natCast] at h
  cases h
  exact ⟨rfl, rfl, rfl, .inr ⟨rfl, Goes.mv hb ha⟩⟩
 ·rw [dif_pos (by omega)] at h; cases h
theorem oneL_none {l : BoxLoom} (hd : Dst l.Shuttles) {p : BoxPick} : oneL l p = none ↔ ((inX l.Shuttles 0 p.Left + 1 = 0) ↔ (inX l.Shuttles 1 p.Right + 1 = 0)) := by
 unfold oneL
 rcases inX_cases hd 0 p.Left with ⟨a, ha, ea⟩ | ⟨ha, ea⟩ <;> rcases inX_cases hd 1 p.Right with ⟨b, hb, eb⟩ | ⟨hb, eb⟩ <;> rw [ea, eb]
 ·rw [dif_pos (by omega)]; simp; omega
 ·rw [dif_neg (by omega), if_pos (by omega)]; simp; omega
 ·rw [dif_neg (by omega), if_neg (by omega)]; simp; omega
 ·rw [dif_pos (by omega)]; simp
theorem okS_mv {B : List Int} {x : BoxShuttle} (h : okS B x = true) {s : Nat} (hs : s < 2) {c : Int} (hc : 0 ≤ c ∧ c ≤ B.getD s 0 - 1) : okS B { x with Side := s, Box := c } = true := by
 unfold okS at h ⊢
 simp only [Bool.and_eq_true] at h ⊢
 exact ⟨⟨⟨h.1.1.1, btw_iff.2 (by omega)⟩, btw_iff.2 (by rw [Int.toNat_natCast]; exact hc)⟩, h.2⟩
theorem mv_ok {B : List Int} {xs : List BoxShuttle} (h : ∀ x ∈ xs, okS B x = true) {i s : Nat} (hs : s < 2) {c : Int} (hc : 0 ≤ c ∧ c ≤ B.getD s 0 - 1) : ∀ x ∈ mv xs i s c, okS B x = true := by
 intro x hx
 obtain ⟨j, hj, rfl⟩ := List.mem_iff_getElem.1 hx
 have hj' : j < xs.length := by rw [mv_len] at hj; exact hj
 rw [mv_at hj hj']
 split
 ·exact okS_mv (h _ (List.getElem_mem hj')) hs hc
 ·exact h _ (List.getElem_mem hj')
theorem oneL_ok {l : BoxLoom} (hl : LOk l) {p : BoxPick} (hp : okP l.Boxes p = true) {n : BoxLoom} {i : Nat} {m : Int} (h : oneL l p = some (n, i, m)) :
  LOk n ∧ n.Boxes = l.Boxes ∧ n.Shuttles.length = l.Shuttles.length ∧ i < l.Shuttles.length ∧ 0 ≤ m ∧ m ≤ 6 := by
 obtain ⟨h1, h2, h3, h4⟩ := oneL_some hl.dst h
 have hp' := okP_iff.1 hp
 have b0 := hl.box (i := 0) (by omega)
 have b1 := hl.box (i := 1) (by omega)
 have a0 := hl.at (i := 0) (by omega)
 have a1 := hl.at (i := 1) (by omega)
 have hsd : sides n := fun j hj => by
  have hb := hl.box hj
  unfold sideOk
  rw [h2, h3, Bool.and_eq_true]
  refine ⟨btw_iff.2 hb, btw_iff.2 ?_⟩
  rcases (by omega : j = 0 ∨ j = 1) with rfl | rfl
  ·exact hp'.1
  ·exact hp'.2
 have hlen : len2 n := ⟨by rw [h2]; exact hl.len.1, by rw [h3]; rfl⟩
 have hm : 0 ≤ m ∧ m ≤ 6 := by rw [h1]; unfold mvs; omega
 rcases h4 with ⟨e, g⟩ | ⟨e, g⟩
 ·have hi : i < l.Shuttles.length := g.at0.1
  have hl' : n.Shuttles.length = l.Shuttles.length := by rw [e, mv_len]
  refine ⟨⟨hlen, hsd, by rw [hl']; exact hl.few, by rw [hl']; exact hl.some, ?_, ?_⟩, h2, hl', hi, hm⟩
  ·rw [e, h2]; exact mv_ok (s := 1) hl.sh (by omega) hp'.2
  ·rw [e]; exact mv_dst hl.dst hi g.free
 ·have hi : i < l.Shuttles.length := g.at0.1
  have hl' : n.Shuttles.length = l.Shuttles.length := by rw [e, mv_len]
  refine ⟨⟨hlen, hsd, by rw [hl']; exact hl.few, by rw [hl']; exact hl.some, ?_, ?_⟩, h2, hl', hi, hm⟩
  ·rw [e, h2]; exact mv_ok (s := 0) hl.sh (by omega) hp'.1
  ·rw [e]; exact mv_dst hl.dst hi g.free
/-! ### The race -/
theorem vidx {α : Type} {n : Nat} (v : Vector α n) {i : Nat} (h : i < n) : idx v.toList (i : Int) = some v[i] := by
 rw [qidx (by simpa using h)]; simp
theorem vmod_at {β : Type} {n : Nat} {v : Vector β n} {i : Nat} {h : β → β} {j : Nat} (hj : j < n) : (vmod v (i : Int) h)[j] = if i = j then h v[j] else v[j] := by
 unfold vmod
 rw [Int.toNat_natCast]
 split
 ·rw [Vector.getElem_set]; split
  ·rename_i he; subst he; rfl
  ·rfl
 ·rw [if_neg (by omega)]
theorem vset_at {β : Type} {n : Nat} {v : Vector β n} {i : Nat} {y : β} {j : Nat} (hj : j < n) : (vset v (i : Int) y)[j] = if i = j then y else v[j] := by
 unfold vset
 rw [Int.toNat_natCast, Vector.getElem_setIfInBounds]
structure Rel (r : BoxRace) (l : BoxLoom) : Prop where
 bx : ∀ (s b : Nat) (hs : s < 2) (hb : b < 4), r.boxes[s][b] = inX l.Shuttles s b + 1
 at_ : r.at_ = ⟨l.At.getD 0 0, l.At.getD 1 0⟩
theorem inX_eq {xs ys : List BoxShuttle} (hx : Dst xs) (hy : Dst ys) {s c : Int} (h : ∀ i, isAt xs s c i ↔ isAt ys s c i) : inX xs s c = inX ys s c := by
 rcases inX_cases hx s c with ⟨i, hi, e⟩ | ⟨hi, e⟩
 ·rw [e, inX_some hy ((h i).1 hi)]
 ·rw [e, inX_none fun ⟨j, hj⟩ => hi ⟨j, (h j).2 hj⟩]
theorem Goes.else {a a' : List BoxShuttle} {i : Nat} {s c s' c' : Int} (ha : Dst a) (ha' : Dst a') (h : Goes a a' i s c s' c') {t d : Int} (h1 : ¬ (t = s ∧ d = c)) (h2 : ¬ (t = s' ∧ d = c')) : inX a' t d = inX a t d := by
 refine inX_eq ha' ha fun k => ?_
 rw [h.to]
 constructor
 ·rintro (⟨_, e1, e2⟩ | ⟨_, h⟩)
  ·exact absurd ⟨e1.symm, e2.symm⟩ h2
  ·exact h
 ·intro hk
  refine .inr ⟨fun he => ?_, hk⟩
  subst he
  have := isAt_same h.at0 hk
  exact h1 ⟨this.1.symm, this.2.symm⟩
theorem s106 {a b : Int} (ha : 0 ≤ a ∧ a ≤ 1000) (hb : 0 ≤ b ∧ b ≤ 1000) : f106 a b = some (max a b - min a b) := by
 unfold f106; rw [max64_eq, min64_eq, w64_id (by omega) (by omega)]
theorem s97 {r : BoxRace} {l : BoxLoom} (hr : Rel r l) (hl : LOk l) {p : BoxPick} (hp : okP l.Boxes p = true) :
  Yes (f97 r p) (fun x => match oneL l p with | some (n, i, m) => Rel x.1 n ∧ x.2.1 = (i : Int) + 1 ∧ x.2.2 = m | none => x = (r, 0, 0)) := by
 have hd := hl.dst
 have hf := hl.few
 have hp' := okP_iff.1 hp
 have b0 := hl.box (i := 0) (by omega)
 have b1 := hl.box (i := 1) (by omega)
 have a0 := hl.at (i := 0) (by omega)
 have a1 := hl.at (i := 1) (by omega)
 obtain ⟨L, hL⟩ : ∃ L : Nat, p.Left = L := ⟨p.Left.toNat, by omega⟩
 obtain ⟨R, hR⟩ : ∃ R : Nat, p.Right = R := ⟨p.Right.toNat, by omega⟩
 have hL4 : L < 4 := by omega
 have hR4 : R < 4 := by omega
 have e0 := hr.bx 0 L (by omega) hL4
 have e1 := hr.bx 1 R (by omega) hR4
 unfold f97
 rw [hL, hR]
 refine qbind _ (vidx r.boxes (i := 0) (by omega)) (qbind _ (vidx _ hL4) (qbind _ (vidx r.boxes (i := 1) (by omega)) (qbind _ (vidx _ hR4) (Yes.jn (Yes.cond (fun hc => Yes.some ?_) (fun hc => ?_))))))
 ·have hn : oneL l p = none := by
   rw [oneL_none hd, hL, hR]
   have h0 : inX l.Shuttles (0 : Int) (L : Int) + (1 : Int) = r.boxes[0][L] := e0.symm
   have h1 : inX l.Shuttles (1 : Int) (R : Int) + (1 : Int) = r.boxes[1][R] := e1.symm
   rw [h0, h1]
   have := beq_iff_eq.1 hc
   constructor
   ·intro h
    rw [h] at this
    exact beq_iff_eq.1 (this.symm.trans rfl)
   ·intro h
    rw [h] at this
    exact beq_iff_eq.1 (this.trans rfl)
  rw [hn]
 ·have hnn : oneL l p ≠ none := fun hn => by
   rw [oneL_none hd, hL, hR] at hn
   have h0 : inX l.Shuttles (0 : Int) (L : Int) + (1 : Int) = r.boxes[0][L] := e0.symm
   have h1 : inX l.Shuttles (1 : Int) (R : Int) + (1 : Int) = r.boxes[1][R] := e1.symm
   rw [h0, h1] at hn
   have : (r.boxes[0][L] == (0 : Int)) = (r.boxes[1][R] == (0 : Int)) := by
    rw [Bool.eq_iff_iff, beq_iff_eq, beq_iff_eq]; exact hn
   rw [this] at hc
   simp at hc
  obtain ⟨⟨n, i, m⟩, hon⟩ := Option.ne_none_iff_exists'.1 hnn
  obtain ⟨hm, hnb, hna, hgo⟩ := oneL_some hd hon
  obtain ⟨hln, _, hlen, hil, _⟩ := oneL_ok hl hp hon
  rw [hon]
  have hat : r.at_.Left = l.At.getD 0 0 ∧ r.at_.Right = l.At.getD 1 0 := by rw [hr.at_]; exact ⟨rfl, rfl⟩
  refine qbind _ (s106 (by rw [hat.1]; omega) (by omega)) (qbind _ (s106 (by rw [hat.2]; omega) (by omega)) (qbind _ (vidx r.boxes (i := 0) (by omega)) (qbind _ (vidx _ hL4) (qbind _ (vidx _ (i := 1) (by omega)) (qbind _ (vidx _ hR4) (Yes.some ⟨⟨fun s b hs hb => ?_, ?_⟩, ?_, ?_⟩))))))
  ·show (vmod (vmod r.boxes ((0 : Nat) : Int) (fun b => vset b (L : Int) r.boxes[1][R])) ((1 : Nat) : Int) (fun b => vset b (R : Int) r.boxes[0][L]))[s][b] = _
   have hold := hr.bx s b hs hb
   rcases (by omega : s = 0 ∨ s = 1) with rfl | rfl
   ·rw [vmod_at (i := 1) (by omega), if_neg (by omega), vmod_at (i := 0) (by omega), if_pos rfl, vset_at hb]
    split
    ·rename_i hb'; subst hb'
     rcases hgo with ⟨_, g⟩ | ⟨_, g⟩
     ·rw [e1, show inX l.Shuttles ((1 : Nat) : Int) (R : Int) = -1 from inX_none (hR ▸ g.free), show inX n.Shuttles ((0 : Nat) : Int) (L : Int) = -1 from inX_none (hL ▸ g.left hd (by simp))]
     ·rw [e1, show inX l.Shuttles ((1 : Nat) : Int) (R : Int) = i from inX_some hd (hR ▸ g.at0), show inX n.Shuttles ((0 : Nat) : Int) (L : Int) = i from inX_some hln.dst (hL ▸ g.there)]
    ·rename_i hb'
     rw [hold]; congr 1
     rcases hgo with ⟨_, g⟩ | ⟨_, g⟩
     ·exact (g.else hd hln.dst (by omega) (by omega)).symm
     ·exact (g.else hd hln.dst (by omega) (by omega)).symm
   ·rw [vmod_at (i := 1) (by omega), if_pos rfl, vset_at hb]
    split
    ·rename_i hb'; subst hb'
     rcases hgo with ⟨_, g⟩ | ⟨_, g⟩
     ·rw [e0, show inX l.Shuttles ((0 : Nat) : Int) (L : Int) = i from inX_some hd (hL ▸ g.at0), show inX n.Shuttles ((1 : Nat) : Int) (R : Int) = i from inX_some hln.dst (hR ▸ g.there)]
     ·rw [e0, show inX l.Shuttles ((0 : Nat) : Int) (L : Int) = -1 from inX_none (hL ▸ g.free), show inX n.Shuttles ((1 : Nat) : Int) (R : Int) = -1 from inX_none (hR ▸ g.left hd (by simp))]
    ·rename_i hb'
     rw [vmod_at (i := 0) (by omega), if_neg (by omega), hold]; congr 1
     rcases hgo with ⟨_, g⟩ | ⟨_, g⟩
     ·exact (g.else hd hln.dst (by omega) (by omega)).symm
     ·exact (g.else hd hln.dst (by omega) (by omega)).symm
  ·show p = _
   rw [hna]; rfl
  ·show w64 (r.boxes[0][L] + r.boxes[1][R]) = _
   rw [e0, e1]
   rcases hgo with ⟨_, g⟩ | ⟨_, g⟩
   ·rw [show inX l.Shuttles ((1 : Nat) : Int) (R : Int) = -1 from inX_none (hR ▸ g.free), show inX l.Shuttles ((0 : Nat) : Int) (L : Int) = i from inX_some hd (hL ▸ g.at0), w64_id (by omega) (by omega)]; omega
   ·rw [show inX l.Shuttles ((0 : Nat) : Int) (L : Int) = -1 from inX_none (hL ▸ g.free), show inX l.Shuttles ((1 : Nat) : Int) (R : Int) = i from inX_some hd (hR ▸ g.at0), w64_id (by omega) (by omega)]; omega
  ·show w64 (_ + _) = m
   rw [hm, hat.1, hat.2, w64_id (by omega) (by omega)]; unfold mvs; rw [hL, hR]; omega
end Go.Proofs.Ytmpjooneiaiffaa
