/- Plain laws: what one pick does to the loom and to the race. -/
import Derived.Test.YtmpjooneiaiffaaLawE
set_option maxRecDepth 8000
namespace Go.Proofs.Ytmpjooneiaiffaa
open Go.RowKit
open Classical

structure Goes (a a' : List BoxShuttle) (i : Nat) (s c s' c' : Int) : Prop where
 at0 : isAt a s c i
 free : ¬ ∃ k, isAt a s' c' k
 to : ∀ t d k, isAt a' t d k ↔ (i = k ∧ s' = t ∧ c' = d) ∨ (i ≠ k ∧ isAt a t d k)
theorem Goes.mv {a : List BoxShuttle} {i : Nat} {s c s' c' : Int} (h : isAt a s c i) (hf : ¬ ∃ k, isAt a s' c' k) : Goes a (mv a i s' c') i s c s' c' := ⟨h, hf, fun _ _ _ => mv_isAt h.1⟩
theorem isAt_same {a : List BoxShuttle} {s c t d : Int} {i : Nat} (h : isAt a s c i) (h' : isAt a t d i) : s = t ∧ c = d := by
 obtain ⟨_, h1, h2⟩ := h; obtain ⟨_, k1, k2⟩ := h'; exact ⟨h1.symm.trans k1, h2.symm.trans k2⟩
theorem Goes.left {a a' : List BoxShuttle} {i : Nat} {s c s' c' : Int} (hd : Dst a) (h : Goes a a' i s c s' c') (hn : ¬ (s = s' ∧ c = c')) : ¬ ∃ k, isAt a' s c k := by
 rintro ⟨k, hk⟩
 rcases (h.to _ _ _).1 hk with ⟨_, h1, h2⟩ | ⟨h1, h2⟩
 ·exact hn ⟨h1.symm, h2.symm⟩
 ·exact h1 (hd.one h.at0 h2)
theorem Goes.there {a a' : List BoxShuttle} {i : Nat} {s c s' c' : Int} (h : Goes a a' i s c s' c') : isAt a' s' c' i := (h.to _ _ _).2 (.inl ⟨rfl, rfl, rfl⟩)
def Wh (a b : List BoxShuttle) : Prop := ∀ s c i, isAt a s c i ↔ isAt b s c i
theorem Wh.symm {a b : List BoxShuttle} (h : Wh a b) : Wh b a := fun s c i => (h s c i).symm
theorem oneL_some {l : BoxLoom} (hd : Dst l.Shuttles) {p : BoxPick} {n : BoxLoom} {i : Nat} {m : Int} (h : oneL l p = some (n, i, m)) :
  m = mvs l p ∧ n.Boxes = l.Boxes ∧ n.At = [p.Left, p.Right] ∧ ((n.Shuttles = mv l.Shuttles i 1 p.Right ∧ Goes l.Shuttles n.Shuttles i 0 p.Left 1 p.Right) ∨ (n.Shuttles = mv l.Shuttles i 0 p.Left ∧ Goes l.Shuttles n.Shuttles i 1 p.Right 0 p.Left)) := by
 unfold oneL at h
 rcases inX_cases hd 0 p.Left with ⟨a, ha, ea⟩ | ⟨ha, ea⟩ <;> rcases inX_cases hd 1 p.Right with ⟨b, hb, eb⟩ | ⟨hb, eb⟩ <;> rw [ea, eb] at h
 ·rw [dif_pos (by omega)] at h; cases h
 ·rw [dif_neg (by omega), if_pos (by omega), Int.toNat_natCast] at h
  cases h
  exact ⟨rfl, rfl, rfl, .inl ⟨rfl, Goes.mv ha hb⟩⟩
 ·rw [dif_neg (by omega), if_neg (by omega), Int.toNat_natCast] at h
  cases h
  exact ⟨rfl, rfl, rfl, .inr ⟨rfl, Goes.mv hb ha⟩⟩
 ·rw [dif_pos (by omega)] at h; cases h
theorem oneL_none {l : BoxLoom} (hd : Dst l.Shuttles) {p : BoxPick} : oneL l p = none ↔ ((inX l.Shuttles 0 p.Left + 1 = 0) ↔ (inX l.Shuttles 1 p.Right + 1 = 0)) := by
 unfold oneL
 rcases inX_cases hd 0 p.Left with ⟨a, ha, ea⟩ | ⟨ha, ea⟩ <;> rcases inX_cases hd 1 p.Right with ⟨b, hb, eb⟩ | ⟨hb, eb⟩ <;> rw [ea, eb]
 ·rw [dif_pos (by omega)]; simp; omega
 ·rw [dif_neg (by omega), if_pos (by omega)]; simp; omega
 ·rw [dif_neg (by omega), if_neg (by omega)]; simp; omega
 ·rw [dif_pos (by omega)]; simp
theorem okS_mv {B : List Int} {x : BoxShuttle} (h : okS B x = true) {s : Nat} (hs : s < 2) {c : Int} (hc : 0 ≤ c ∧ c ≤ B.getD s 0 - 1) : okS B { x with Side := s, Box := c } = true := by
 unfold okS at h ⊢
 simp only [Bool.and_eq_true] at h ⊢
 exact ⟨⟨⟨h.1.1.1, btw_iff.2 (by omega)⟩, btw_iff.2 (by rw [Int.toNat_natCast]; exact hc)⟩, h.2⟩
theorem mv_ok {B : List Int} {xs : List BoxShuttle} (h : ∀ x ∈ xs, okS B x = true) {i s : Nat} (hs : s < 2) {c : Int} (hc : 0 ≤ c ∧ c ≤ B.getD s 0 - 1) : ∀ x ∈ mv xs i s c, okS B x = true := by
 intro x hx
 obtain ⟨j, hj, rfl⟩ := List.mem_iff_getElem.1 hx
 have hj' : j < xs.length := by rw [mv_len] at hj; exact hj
 rw [mv_at hj hj']
 split
 ·exact okS_mv (h _ (List.getElem_mem hj')) hs hc
 ·exact h _ (List.getElem_mem hj')
theorem oneL_ok {l : BoxLoom} (hl : LOk l) {p : BoxPick} (hp : okP l.Boxes p = true) {n : BoxLoom} {i : Nat} {m : Int} (h : oneL l p = some (n, i, m)) :
  LOk n ∧ n.Boxes = l.Boxes ∧ n.Shuttles.length = l.Shuttles.length ∧ i < l.Shuttles.length ∧ 0 ≤ m ∧ m ≤ 6 := by
 obtain ⟨h1, h2, h3, h4⟩ := oneL_some hl.dst h
 have hp' := okP_iff.1 hp
 have b0 := hl.box (i := 0) (by omega)
 have b1 := hl.box (i := 1) (by omega)
 have a0 := hl.at (i := 0) (by omega)
 have a1 := hl.at (i := 1) (by omega)
 have hsd : sides n := fun j hj => by
  have hb := hl.box hj
  unfold sideOk
  rw [h2, h3, Bool.and_eq_true]
  refine ⟨btw_iff.2 hb, btw_iff.2 ?_⟩
  rcases (by omega : j = 0 ∨ j = 1) with rfl | rfl
  ·exact hp'.1
  ·exact hp'.2
 have hlen : len2 n := ⟨by rw [h2]; exact hl.len.1, by rw [h3]; rfl⟩
 have hm : 0 ≤ m ∧ m ≤ 6 := by rw [h1]; unfold mvs; omega
 rcases h4 with ⟨e, g⟩ | ⟨e, g⟩
 ·have hi : i < l.Shuttles.length := g.at0.1
  have hl' : n.Shuttles.length = l.Shuttles.length := by rw [e, mv_len]
  refine ⟨⟨hlen, hsd, by rw [hl']; exact hl.few, by rw [hl']; exact hl.some, ?_, ?_⟩, h2, hl', hi, hm⟩
  ·rw [e, h2]; exact mv_ok (s := 1) hl.sh (by omega) hp'.2
  ·rw [e]; exact mv_dst hl.dst hi g.free
 ·have hi : i < l.Shuttles.length := g.at0.1
  have hl' : n.Shuttles.length = l.Shuttles.length := by rw [e, mv_len]
  refine ⟨⟨hlen, hsd, by rw [hl']; exact hl.few, by rw [hl']; exact hl.some, ?_, ?_⟩, h2, hl', hi, hm⟩
  ·rw [e, h2]; exact mv_ok (s := 0) hl.sh (by omega) hp'.1
  ·rw [e]; exact mv_dst hl.dst hi g.free
/-! ### The race -/
theorem vidx {α : Type} {n : Nat} (v : Vector α n) {i : Nat} (h : i < n) : idx v.toList (i : Int) = some v[i] := by
 rw [qidx (by simpa using h)]; simp
theorem vmod_at {β : Type} {n : Nat} {v : Vector β n} {i : Nat} {h : β → β} {j : Nat} (hj : j < n) : (vmod v (i : Int) h)[j] = if i = j then h v[j] else v[j] := by
 unfold vmod
 rw [Int.toNat_natCast]
 split
 ·rw [Vector.getElem_set]; split
  ·rename_i he; subst he; rfl
  ·rfl
 ·rw [if_neg (by omega)]
theorem vset_at {β : Type} {n : Nat} {v : Vector β n} {i : Nat} {y : β} {j : Nat} (hj : j < n) : (vset v (i : Int) y)[j] = if i = j then y else v[j] := by
 unfold vset
 rw [Int.toNat_natCast, Vector.getElem_setIfInBounds]
structure Rel (r : BoxRace) (l : BoxLoom) : Prop where
 bx : ∀ (s b : Nat) (hs : s < 2) (hb : b < 4), r.boxes[s][b] = inX l.Shuttles s b + 1
 at_ : r.at_ = ⟨l.At.getD 0 0, l.At.getD 1 0⟩
theorem inX_eq {xs ys : List BoxShuttle} (hx : Dst xs) (hy : Dst ys) {s c : Int} (h : ∀ i, isAt xs s c i ↔ isAt ys s c i) : inX xs s c = inX ys s c := by
 rcases inX_cases hx s c with ⟨i, hi, e⟩ | ⟨hi, e⟩
 ·rw [e, inX_some hy ((h i).1 hi)]
 ·rw [e, inX_none fun ⟨j, hj⟩ => hi ⟨j, (h j).2 hj⟩]
theorem Goes.else {a a' : List BoxShuttle} {i : Nat} {s c s' c' : Int} (ha : Dst a) (ha' : Dst a') (h : Goes a a' i s c s' c') {t d : Int} (h1 : ¬ (t = s ∧ d = c)) (h2 : ¬ (t = s' ∧ d = c')) : inX a' t d = inX a t d := by
 refine inX_eq ha' ha fun k => ?_
 rw [h.to]
 constructor
 ·rintro (⟨_, e1, e2⟩ | ⟨_, h⟩)
  ·exact absurd ⟨e1.symm, e2.symm⟩ h2
  ·exact h
 ·intro hk
  refine .inr ⟨fun he => ?_, hk⟩
  subst he
  have := isAt_same h.at0 hk
  exact h1 ⟨this.1.symm, this.2.symm⟩
theorem s106 {a b : Int} (ha : 0 ≤ a ∧ a ≤ 1000) (hb : 0 ≤ b ∧ b ≤ 1000) : f106 a b = some (max a b - min a b) := by
 unfold f106; rw [max64_eq, min64_eq, w64_id (by omega) (by omega)]
theorem s97 {r : BoxRace} {l : BoxLoom} (hr : Rel r l) (hl : LOk l) {p : BoxPick} (hp : okP l.Boxes p = true) :
  Yes (f97 r p) (fun x => match oneL l p with | some (n, i, m) => Rel x.1 n ∧ x.2.1 = (i : Int) + 1 ∧ x.2.2 = m | none => x = (r, 0, 0)) := by
 have hd := hl.dst
 have hf := hl.few
 have hp' := okP_iff.1 hp
 have b0 := hl.box (i := 0) (by omega)
 have b1 := hl.box (i := 1) (by omega)
 have a0 := hl.at (i := 0) (by omega)
 have a1 := hl.at (i := 1) (by omega)
 obtain ⟨L, hL⟩ : ∃ L : Nat, p.Left = L := ⟨p.Left.toNat, by omega⟩
 obtain ⟨R, hR⟩ : ∃ R : Nat, p.Right = R := ⟨p.Right.toNat, by omega⟩
 have hL4 : L < 4 := by omega
 have hR4 : R < 4 := by omega
 have e0 := hr.bx 0 L (by omega) hL4
 have e1 := hr.bx 1 R (by omega) hR4
 unfold f97
 rw [hL, hR]
 refine qbind _ (vidx r.boxes (i := 0) (by omega)) (qbind _ (vidx _ hL4) (qbind _ (vidx r.boxes (i := 1) (by omega)) (qbind _ (vidx _ hR4) (Yes.jn (Yes.cond (fun hc => Yes.some ?_) (fun hc => ?_))))))
 ·have hn : oneL l p = none := by
   rw [oneL_none hd, hL, hR]
   have h0 : inX l.Shuttles (0 : Int) (L : Int) + (1 : Int) = r.boxes[0][L] := e0.symm
   have h1 : inX l.Shuttles (1 : Int) (R : Int) + (1 : Int) = r.boxes[1][R] := e1.symm
   rw [h0, h1]
   have := beq_iff_eq.1 hc
   constructor
   ·intro h
    rw [h] at this
    exact beq_iff_eq.1 (this.symm.trans rfl)
   ·intro h
    rw [h] at this
    exact beq_iff_eq.1 (this.trans rfl)
  rw [hn]
 ·have hnn : oneL l p ≠ none := fun hn => by
   rw [oneL_none hd, hL, hR] at hn
   have h0 : inX l.Shuttles (0 : Int) (L : Int) + (1 : Int) = r.boxes[0][L] := e0.symm
   have h1 : inX l.Shuttles (1 : Int) (R : Int) + (1 : Int) = r.boxes[1][R] := e1.symm
   rw [h0, h1] at hn
   have : (r.boxes[0][L] == (0 : Int)) = (r.boxes[1][R] == (0 : Int)) := by
    rw [Bool.eq_iff_iff, beq_iff_eq, beq_iff_eq]; exact hn
   rw [this] at hc
   simp at hc
  obtain ⟨⟨n, i, m⟩, hon⟩ := Option.ne_none_iff_exists'.1 hnn
  obtain ⟨hm, hnb, hna, hgo⟩ := oneL_some hd hon
  obtain ⟨hln, _, hlen, hil, _⟩ := oneL_ok hl hp hon
  rw [hon]
  have hat : r.at_.Left = l.At.getD 0 0 ∧ r.at_.Right = l.At.getD 1 0 := by rw [hr.at_]; exact ⟨rfl, rfl⟩
  refine qbind _ (s106 (by rw [hat.1]; omega) (by omega)) (qbind _ (s106 (by rw [hat.2]; omega) (by omega)) (qbind _ (vidx r.boxes (i := 0) (by omega)) (qbind _ (vidx _ hL4) (qbind _ (vidx _ (i := 1) (by omega)) (qbind _ (vidx _ hR4) (Yes.some ⟨⟨fun s b hs hb => ?_, ?_⟩, ?_, ?_⟩))))))
  ·show (vmod (vmod r.boxes ((0 : Nat) : Int) (fun b => vset b (L : Int) r.boxes[1][R])) ((1 : Nat) : Int) (fun b => vset b (R : Int) r.boxes[0][L]))[s][b] = _
   have hold := hr.bx s b hs hb
   rcases (by omega : s = 0 ∨ s = 1) with rfl | rfl
   ·rw [vmod_at (i := 1) (by omega), if_neg (by omega), vmod_at (i := 0) (by omega), if_pos rfl, vset_at hb]
    split
    ·rename_i hb'; subst hb'
     rcases hgo with ⟨_, g⟩ | ⟨_, g⟩
     ·rw [e1, show inX l.Shuttles ((1 : Nat) : Int) (R : Int) = -1 from inX_none (hR ▸ g.free), show inX n.Shuttles ((0 : Nat) : Int) (L : Int) = -1 from inX_none (hL ▸ g.left hd (by simp))]
     ·rw [e1, show inX l.Shuttles ((1 : Nat) : Int) (R : Int) = i from inX_some hd (hR ▸ g.at0), show inX n.Shuttles ((0 : Nat) : Int) (L : Int) = i from inX_some hln.dst (hL ▸ g.there)]
    ·rename_i hb'
     rw [hold]; congr 1
     rcases hgo with ⟨_, g⟩ | ⟨_, g⟩
     ·exact (g.else hd hln.dst (by omega) (by omega)).symm
     ·exact (g.else hd hln.dst (by omega) (by omega)).symm
   ·rw [vmod_at (i := 1) (by omega), if_pos rfl, vset_at hb]
    split
    ·rename_i hb'; subst hb'
     rcases hgo with ⟨_, g⟩ | ⟨_, g⟩
     ·rw [e0, show inX l.Shuttles ((0 : Nat) : Int) (L : Int) = i from inX_some hd (hL ▸ g.at0), show inX n.Shuttles ((1 : Nat) : Int) (R : Int) = i from inX_some hln.dst (hR ▸ g.there)]
     ·rw [e0, show inX l.Shuttles ((0 : Nat) : Int) (L : Int) = -1 from inX_none (hL ▸ g.free), show inX n.Shuttles ((1 : Nat) : Int) (R : Int) = -1 from inX_none (hR ▸ g.left hd (by simp))]
    ·rename_i hb'
     rw [vmod_at (i := 0) (by omega), if_neg (by omega), hold]; congr 1
     rcases hgo with ⟨_, g⟩ | ⟨_, g⟩
     ·exact (g.else hd hln.dst (by omega) (by omega)).symm
     ·exact (g.else hd hln.dst (by omega) (by omega)).symm
  ·show p = _
   rw [hna]; rfl
  ·show w64 (r.boxes[0][L] + r.boxes[1][R]) = _
   rw [e0, e1]
   rcases hgo with ⟨_, g⟩ | ⟨_, g⟩
   ·rw [show inX l.Shuttles ((1 : Nat) : Int) (R : Int) = -1 from inX_none (hR ▸ g.free), show inX l.Shuttles ((0 : Nat) : Int) (L : Int) = i from inX_some hd (hL ▸ g.at0), w64_id (by omega) (by omega)]; omega
   ·rw [show inX l.Shuttles ((0 : Nat) : Int) (L : Int) = -1 from inX_none (hL ▸ g.free), show inX l.Shuttles ((1 : Nat) : Int) (R : Int) = i from inX_some hd (hR ▸ g.at0), w64_id (by omega) (by omega)]; omega
  ·show w64 (_ + _) = m
   rw [hm, hat.1, hat.2, w64_id (by omega) (by omega)]; unfold mvs; rw [hL, hR]; omega
end Go.Proofs.Ytmpjooneiaiffaa
