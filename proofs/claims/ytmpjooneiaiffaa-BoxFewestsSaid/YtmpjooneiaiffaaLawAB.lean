/- BoxFewests. -/
import Derived.Test.YtmpjooneiaiffaaLawAA
set_option maxRecDepth 8000
namespace Go.Proofs.Ytmpjooneiaiffaa
open Go.RowKit
open Classical

theorem allP_len {l : BoxLoom} (hl : LOk l) : (allP l).length ≤ 16 := by
 obtain ⟨_, a0, b0⟩ := nbx_eq hl (s := 0) (by omega)
 obtain ⟨_, a1, b1⟩ := nbx_eq hl (s := 1) (by omega)
 have : ∀ i, ((List.range i).flatMap (row (nbx l 1))).length = i * nbx l 1 := fun i => by
  induction i with
  | zero => simp
  | succ i ih => rw [List.range_succ, List.flatMap_append, List.length_append, ih, List.flatMap_cons, List.flatMap_nil, List.append_nil, row, List.length_map, List.length_range, Nat.add_mul]; omega
 show ((List.range (nbx l 0)).flatMap (row (nbx l 1))).length ≤ 16
 rw [this]
 exact Nat.le_trans (Nat.mul_le_mul b0 b1) (by omega)
theorem cut_tail {α : Type} (c : α) (cs : List α) : cut (c :: cs) (1 : Int) (((c :: cs).length : Nat) : Int) = some cs := by
 unfold cut
 rw [if_pos ⟨by omega, by simp; omega, Int.le_refl _⟩]
 simp
theorem s22 : ∀ (cs : List Int) (n : Nat) {l : BoxLoom}, cs.length < n → cs.length ≤ 30 → LOk l → f22 n l cs = some (rf cs l)
 | cs, 0, _, h, _, _ => absurd h (Nat.not_lt_zero _)
 | [], n + 1, l, _, _, _ => by rw [f22, rf]; rfl
 | c :: cs, n + 1, l, hn, h30, hl => by
  simp only [List.length_cons] at hn h30
  have hal := allP_len hl
  have hF : ∀ n, LOk n → RfOk cs n := fun n hn => rf_ok cs (by omega) hn
  refine Yes.eq ?_
  rw [f22]
  refine Yes.jn (qskip (beq_eq_false_iff_ne.2 (by simp only [List.length_cons]; omega)) (qbind _ (s60 hl) (Yes.bind (Yes.mono (Q' := fun r => r = rf (c :: cs) l) ?_ fun r hr => Yes.some hr))))
  refine Yes.lp (fun s => ∃ i : Nat, s.2.2.2.2 = (i : Int) ∧ i ≤ (allP l).length ∧ (s.1, s.2.1, s.2.2.1, s.2.2.2.1) = ((allP l).take i).foldl (rfS l c (cs.length : Int) (fun n => rf cs n)) ([], 0, 0, false)) (fun s => (allP l).length + 1 - s.2.2.2.2.toNat) ⟨0, rfl, by omega, by simp⟩ (by simp; omega) ?_
  rintro ⟨pk, mv, fa, fd, u⟩ kk ⟨i, rfl, hi, hs⟩ hk
  simp only at hs
  by_cases hlt : i < (allP l).length
  ·have hpa : (allP l)[i] ∈ allP l := List.getElem_mem hlt
   have hpi := (mem_allP hl).1 hpa
   have next : ∀ s' : List BoxPick × Int × Int × Bool, s' = rfS l c (cs.length : Int) (fun n => rf cs n) (pk, mv, fa, fd) (allP l)[i] → Yes (kk (s'.1, s'.2.1, s'.2.2.1, s'.2.2.2, w64 ((i : Int) + 1))) (fun r => r = rf (c :: cs) l) := fun s' hs' => by
    rw [w64_id (by omega) (by omega)]
    refine hk _ ⟨i + 1, by simp, hlt, ?_⟩ ?_
    ·rw [take_succ hlt, List.foldl_append, ← hs, List.foldl_cons, List.foldl_nil]; exact hs'
    ·show (allP l).length + 1 - ((i : Int) + 1).toNat < (allP l).length + 1 - ((i : Int)).toNat; omega
   have hb := rf_bd hl (c := c) hF ((allP l).take i) ([], 0, 0, false) (fun p hp => List.mem_of_mem_take hp) ⟨by simp, by simp; omega, by simp⟩
   have hI : RfI l c cs ((allP l).take i) (((allP l).take i).foldl (rfS l c (cs.length : Int) (fun n => rf cs n)) ([], 0, 0, false)) := rf_fold hl (by omega) hF ((allP l).take i) [] _ (fun p hp => List.mem_of_mem_take hp) ⟨fun _ => rfl, fun h => (by cases h), by simp, by show (0 : Int) ≤ _; omega, fun k => ⟨fun h => by have h : (k : Int) + 1 ≤ 0 := h; omega, fun ⟨q, hq, _⟩ => by cases hq⟩⟩
   have hfa := hI.far
   rw [← hs] at hb hfa
   simp only at hb hfa
   refine Yes.jn (qtake (by simp; omega) (Yes.jn (Yes.bind (qbind _ (qidx hlt) (qbind _ (s61 hl hpi) (Yes.jn (Yes.bind ?_)))))))
   have hu : rfS l c (cs.length : Int) (fun n => rf cs n) (pk, mv, fa, fd) (allP l)[i] = match oneL l (allP l)[i] with
    | some x => if colr l x.2.1 = c then
      (if (rf cs x.1).2.2 = (cs.length : Int) ∧ (fd = false ∨ x.2.2 + (rf cs x.1).2.1 < mv) then ((allP l)[i] :: (rf cs x.1).1, x.2.2 + (rf cs x.1).2.1, max fa (1 + (rf cs x.1).2.2), true) else (pk, mv, max fa (1 + (rf cs x.1).2.2), fd))
     else (pk, mv, fa, fd)
    | none => (pk, mv, fa, fd) := rfl
   cases ho : oneL l (allP l)[i] with
   | none =>
    rw [ho] at hu
    exact qtake rfl (Yes.some (qtake rfl (Yes.some (next (pk, mv, fa, fd) hu.symm))))
   | some x =>
    obtain ⟨nl, j, m⟩ := x
    rw [ho] at hu
    obtain ⟨h1, _, _, hj, h5, h6⟩ := oneL_ok hl hpi ho
    have hcol := colr_at hj
    refine qskip rfl (qbind _ (qidx hj) (qbind c (by show idx (c :: cs) ((0 : Nat) : Int) = _; rw [qidx (by simp)]; rfl) (Yes.some (Yes.cond (fun hc => ?_) (fun hc => ?_)))))
    ·have hc : l.Shuttles[j].Colour ≠ c := by simpa using hc
     simp only [if_neg (show ¬ colr l j = c by rw [hcol]; exact hc)] at hu
     exact Yes.some (next (pk, mv, fa, fd) hu.symm)
    ·have hc : l.Shuttles[j].Colour = c := by simpa using hc
     simp only [if_pos (show colr l j = c by rw [hcol]; exact hc)] at hu
     have hr := hF nl h1
     have hrf := hr.far
     have hrb := hr.bd
     refine qbind _ (cut_tail c cs) (qbind _ (s22 cs n (by omega) (by omega) h1) (Yes.bind ?_))
     have w1 : w64 (((c :: cs).length : Int) - 1) = (cs.length : Int) := by rw [w64_id (by simp only [List.length_cons]; omega) (by simp only [List.length_cons]; omega)]; simp only [List.length_cons]; omega
     have w2 : w64 (m + (rf cs nl).2.1) = m + (rf cs nl).2.1 := w64_id (by omega) (by omega)
     have w3 : max64 fa (w64 (1 + (rf cs nl).2.2)) = max fa (1 + (rf cs nl).2.2) := by rw [max64_eq, w64_id (by omega) (by omega)]
     refine Yes.mono (Q' := fun b => b = decide ((rf cs nl).2.2 = (cs.length : Int) ∧ (fd = false ∨ m + (rf cs nl).2.1 < mv))) ?_ fun b hb' => ?_
     ·rw [w1]
      refine Yes.cond (fun hc2 => ?_) (fun hc2 => Yes.some ?_)
      ·have hc2 := beq_iff_eq.1 hc2
       refine Yes.cond (fun hc3 => Yes.some ?_) (fun hc3 => Yes.some ?_)
       ·exact (decide_eq_true ⟨hc2, .inl (by simpa using hc3)⟩).symm
       ·have hfd : fd = true := by simpa using hc3
        show decide (w64 (m + (rf cs nl).2.1) < mv) = _
        rw [w2, decide_eq_decide]
        exact ⟨fun h => ⟨hc2, .inr h⟩, fun h => h.2.resolve_left (by rw [hfd]; simp)⟩
      ·exact (decide_eq_false fun h => beq_eq_false_iff_ne.1 hc2 h.1).symm
     ·subst hb'
      refine Yes.cond (fun hc2 => ?_) (fun hc2 => ?_)
      ·rw [if_pos (of_decide_eq_true hc2)] at hu
       refine qbind _ (qidx hlt) (Yes.bind (Yes.apnd (by simp; omega) (by simp; omega) (Yes.some ?_)))
       refine next ((allP l)[i] :: (rf cs nl).1, w64 (m + (rf cs nl).2.1), max64 fa (w64 (1 + (rf cs nl).2.2)), true) ?_
       rw [w2, w3]; exact hu.symm
      ·rw [if_neg (of_decide_eq_false hc2)] at hu
       refine Yes.some (next (pk, mv, max64 fa (w64 (1 + (rf cs nl).2.2)), fd) ?_)
       rw [w3]; exact hu.symm
  ·have hie : i = (allP l).length := by omega
   subst hie
   rw [List.take_length] at hs
   refine Yes.jn (qskip (by simp) (Yes.some ?_))
   rw [rf, ← hs]
/-! ### Groups of one colour -/
def sgl (cs : List Int) : List (List Int) := cs.map fun c => [c]
theorem sgl_len {cs : List Int} : (sgl cs).length = cs.length := by simp [sgl]
theorem sgl_at {cs : List Int} {i : Nat} (h : i < cs.length) : idx (sgl cs) (i : Int) = some [cs[i]] := by rw [qidx (by rw [sgl_len]; exact h)]; simp [sgl]
theorem s53 (cs : List Int) (h : cs.length ≤ 1000) : f53 cs = some (sgl cs) := by
 refine Yes.eq ?_
 unfold f53
 refine Yes.bind (Yes.mono (Q' := fun r => r = sgl cs) ?_ fun r hr => Yes.some hr)
 refine Yes.upto cs.length (by omega) (fun i s => s = (sgl cs).take i) (by simp) (fun i s k hi hI hk => ?_) (fun s k hI => qskip (by simp) (Yes.some ?_))
 ·have hs : s.length ≤ 1000 := by rw [hI]; simp [sgl]; omega
  refine qtake (by simp; omega) (Yes.bind (qbind _ (qidx hi) (Yes.bind (Yes.apnd (by simp; omega) (by simp; omega) (Yes.some (hk _ ?_))))))
  rw [take_succ (by rw [sgl_len]; exact hi), hI]
  simp [sgl]
 ·rw [hI, ← sgl_len, List.take_length]
def Vs (cs : List Int) (pt : BoxPoint) (k : Nat) : Prop := ∃ g : Nat, pt.group = (g : Int) ∧ pt.done = 0 ∧ g + k = cs.length
theorem s65s {cs : List Int} {g : Nat} (hg : g < cs.length) (hl : cs.length ≤ 1000) (r : BoxRace) : f65 ⟨(g : Int), 1, r⟩ (sgl cs) = some ⟨((g + 1 : Nat) : Int), 0, r⟩ := by
 refine Yes.eq ?_
 unfold f65
 refine Yes.bind (Yes.mono (Q' := fun p => p = ⟨((g + 1 : Nat) : Int), 0, r⟩) ?_ fun p hp => Yes.some hp)
 have sh : shl64 (1 : Int) (([cs[g]] : List Int).length : Int) = some 2 := rfl
 refine Yes.lp (fun s => s = ⟨(g : Int), 1, r⟩ ∨ s = ⟨((g + 1 : Nat) : Int), 0, r⟩) (fun s => s.done.toNat) (.inl rfl) (by simp) ?_
 rintro s kk (rfl | rfl) hk
 ·refine Yes.jn (Yes.bind (qtake (decide_eq_true (by show (g : Int) < ((sgl cs).length : Int); rw [sgl_len]; omega)) (qbind _ (sgl_at hg) (qbind 2 rfl (Yes.some (qtake rfl (hk _ (.inr ?_) ?_)))))))
  ·show (⟨w64 ((g : Int) + 1), 0, r⟩ : BoxPoint) = _
   rw [w64_id (by omega) (by omega)]; simp
  ·show (0 : Nat) < 1; omega
 ·refine Yes.jn (Yes.bind (Yes.cond (fun hc => ?_) (fun hc => Yes.some (qskip rfl (Yes.some rfl)))))
  have hlt : ((g + 1 : Nat) : Int) < ((sgl cs).length : Int) := of_decide_eq_true hc
  rw [sgl_len] at hlt
  exact qbind _ (sgl_at (i := g + 1) (by omega)) (qbind 2 rfl (Yes.some (qskip rfl (Yes.some rfl))))
theorem s88s {cs : List Int} {g : Nat} (hg : g < cs.length) (hl : cs.length ≤ 1000) (r : BoxRace) (s : BoxStep) : f88 ⟨(g : Int), 0, r⟩ (sgl cs) s = some (bif cs[g] == s.colour then (⟨((g + 1 : Nat) : Int), 0, s.next⟩, true) else (⟨(g : Int), 0, r⟩, false)) := by
 refine Yes.eq ?_
 unfold f88
 have hb1 : bit64 .or (0 : Int) 1 = 1 := by decide
 refine Yes.jn (qbind _ (sgl_at hg) ?_)
 refine Yes.lp (fun t => t.1 = ⟨(g : Int), 0, r⟩ ∧ (t.2.2 = 0 ∨ (t.2.2 = 1 ∧ (cs[g] == s.colour) = false))) (fun t => 1 - t.2.2.toNat) ⟨rfl, .inl rfl⟩ (by simp) ?_
 rintro ⟨p, q, u⟩ kk ⟨rfl, hu⟩ hk
 simp only at hu
 rcases hu with rfl | ⟨rfl, hc⟩
 ·refine qtake rfl (Yes.jn (qbind (cs[g]) rfl (Yes.bind (Yes.cond (fun hc => qbind (0 : Int) rfl (Yes.some ?_)) (fun hc => Yes.some (qskip rfl (hk _ ⟨rfl, .inr ⟨rfl, hc⟩⟩ ?_)))))))
  ·refine qtake rfl (qbind (1 : Int) rfl ?_)
   dsimp only
   rw [hb1]
   refine qbind _ (s65s hg hl s.next) (Yes.some ?_)
   rw [hc]; rfl
  ·show 1 - (1 : Int).toNat < 1 - (0 : Int).toNat; omega
 ·refine qskip rfl (Yes.some ?_)
  rw [hc]; rfl
theorem pts_sgl {cs : List Int} (hl : cs.length ≤ 1000) : Pts (sgl cs) (Vs cs) where
 zero := by
  rintro pt k ⟨g, h1, h2, h3⟩
  rw [h1, sgl_len]
  constructor
  ·intro h; omega
  ·intro h; omega
 one := by
  rintro pt k k' ⟨g, h1, h2, h3⟩ ⟨g', h1', h2', h3'⟩
  omega
 step := by
  rintro pt k s ⟨g, h1, h2, h3⟩
  obtain ⟨pg, pd, pr⟩ := pt
  simp only at h1 h2
  subst h1 h2
  refine ⟨_, _, s88s (by omega) hl pr s, ?_⟩
  cases hc : cs[g] == s.colour with
  | false => intro h; cases h
  | true => intro _; exact ⟨rfl, g + 1, rfl, rfl, by omega⟩
theorem foldl_mem {α β : Type} {f g : β → α → β} : ∀ (xs : List α) (b : β), (∀ x ∈ xs, ∀ b, f b x = g b x) → xs.foldl f b = xs.foldl g b
 | [], _, _ => rfl
 | x :: xs, b, h => by rw [List.foldl_cons, List.foldl_cons, h x (by simp), foldl_mem xs _ fun y hy => h y (by simp [hy])]
theorem cst_cL {l : BoxLoom} {cs : List Int} (hlen : cs.length ≤ 1000) : ∀ (k : Nat) {l' : BoxLoom} {pt : BoxPoint}, LOk l' → l'.Boxes = l.Boxes → pt.race = rc l' → Vs cs pt k → cst (nbx l 0) (nbx l 1) (fun p s => f88 p (sgl cs) s) k pt = cL (cs.drop (cs.length - k)) l'
 | 0, l', pt, _, _, _, _ => by rw [cst, Nat.sub_zero, List.drop_length, cL]
 | k + 1, l', pt, hl', hB, hr, hv => by
  obtain ⟨g, h1, h2, h3⟩ := hv
  have hg : g < cs.length := by omega
  have hd : cs.drop (cs.length - (k + 1)) = cs[g] :: cs.drop (cs.length - k) := by
   rw [show cs.length - (k + 1) = g by omega, show cs.length - k = g + 1 by omega]; exact List.drop_eq_getElem_cons hg
  rw [cst, hd, cL, hr, ← nbx_of hB, ← nbx_of hB, pkR_rc hl']
  unfold stL
  rw [List.foldl_filterMap]
  refine foldl_mem _ _ fun p hp b => ?_
  obtain ⟨pg, pd, pr⟩ := pt
  simp only at h1 h2 hr
  subst h1 h2
  unfold stp minS
  cases ho : oneL l' p with
  | none => rfl
  | some x =>
   obtain ⟨h4, h5, _⟩ := oneL_ok hl' ((mem_allP hl').1 hp) (show oneL l' p = some (x.1, x.2.1, x.2.2) from ho)
   simp only [Option.map_some]
   unfold cstS
   simp only [s88s hg hlen]
   by_cases hc : colr l' x.2.1 = cs[g]
   ·rw [if_pos hc, show (cs[g] == colr l' x.2.1) = true from beq_iff_eq.2 hc.symm]
    simp only [cond_true]
    rw [nbx_of hB, nbx_of hB, cst_cL hlen k h4 (h5.trans hB) rfl ⟨g + 1, rfl, rfl, by omega⟩]
   ·rw [if_neg hc, show (cs[g] == colr l' x.2.1) = false from beq_eq_false_iff_ne.2 fun h => hc h.symm]
    rfl
theorem runL_first {σ α : Type} {cons : Cons σ α} {Q : σ → Prop} {I : σ → Prop} : ∀ (xs : List α) (x : α) (ys : List α) (s : σ), I s → (∀ y ∈ xs, ∀ s, I s → Yes (cons s y) (fun r => r.1 = true ∧ I r.2)) → (∀ s, I s → Yes (cons s x) (fun r => r.1 = false ∧ Q r.2)) → Yes (runL cons (xs ++ x :: ys) s) Q
 | [], x, ys, s, hs, _, hx => by
  obtain ⟨r, hr, h1, h2⟩ := hx s hs
  rw [List.nil_append, runL, hr, Option.bind_some, h1]
  exact Yes.some h2
 | y :: xs, x, ys, s, hs, hy, hx => by
  obtain ⟨r, hr, h1, h2⟩ := hy y (by simp) s hs
  rw [List.cons_append, runL, hr, Option.bind_some, h1]
  exact runL_first xs x ys r.2 h2 (fun z hz => hy z (by simp [hz])) hx
theorem guardC_0 {SV α : Type} (body : SV → α → Option (Bool × (Nat × SV))) (s : SV) (x : α) : guardC body (0, s) x = body s x := rfl
theorem s58 {l : BoxLoom} (hl : LOk l) {cs : List Int} (hlen : cs.length ≤ 1000) {k : Nat} (hk : k < 1000) {l' : BoxLoom} {pt : BoxPoint} {m : List (BoxPoint × Int)} (hl' : LOk l') (hB : l'.Boxes = l.Boxes) (hr : pt.race = rc l') (hv : Vs cs pt (k + 1)) (hm : KOk (nbx l 0) (nbx l 1) (sgl cs) (Vs cs) m)
  (hlt : cL (cs.drop (cs.length - (k + 1))) l' < never) :
  Yes (f58 ⟨(nbx l 0 : Int), (nbx l 1 : Int), ⟨⟩⟩ m (sgl cs) pt) (fun r => ∃ n, LOk n ∧ n.Boxes = l.Boxes ∧ r.2.1.race = rc n ∧ Vs cs r.2.1 k ∧ KOk (nbx l 0) (nbx l 1) (sgl cs) (Vs cs) r.2.2 ∧ (rf (cs.drop (cs.length - (k + 1))) l').1 = r.1 :: (rf (cs.drop (cs.length - k)) n).1 ∧ cL (cs.drop (cs.length - k)) n < never) := by
 have hV := pts_sgl (cs := cs) hlen
 obtain ⟨g, h1, h2, h3⟩ := hv
 have hg : g < cs.length := by omega
 have hd : cs.drop (cs.length - (k + 1)) = cs[g] :: cs.drop (cs.length - k) := by
  rw [show cs.length - (k + 1) = g by omega, show cs.length - k = g + 1 by omega]; exact List.drop_eq_getElem_cons hg
 have hdl : (cs.drop (cs.length - k)).length ≤ 1000 := by simp; omega
 rw [hd] at hlt ⊢
 obtain ⟨x1, p, x2, x, z1, z2, z3, z4, z5⟩ := rf_first hdl hl' hlt
 have hpa : p ∈ allP l' := by rw [z1]; simp
 obtain ⟨w1, w2, w3, w4⟩ := wv_ok hl' hpa z2
 have hst : stL l' = x1.filterMap (stp l') ++ (p, ⟨rc x.1, colr l' x.2.1, x.2.2⟩) :: x2.filterMap (stp l') := by
  unfold stL
  rw [z1, List.filterMap_append, List.filterMap_cons]
  have : stp l' p = some (p, ⟨rc x.1, colr l' x.2.1, x.2.2⟩) := by unfold stp; rw [z2.1]; rfl
  rw [this]
 obtain ⟨pg, pd, pr⟩ := pt
 simp only at h1 h2 hr
 subst h1 h2 hr
 have hvp : Vs cs ⟨(g : Int), 0, rc l'⟩ (k + 1) := ⟨g, rfl, rfl, h3⟩
 have tot : cst (nbx l 0) (nbx l 1) (fun p s => f88 p (sgl cs) s) (k + 1) ⟨(g : Int), 0, rc l'⟩ = cL (cs[g] :: cs.drop (cs.length - k)) l' := by rw [cst_cL hlen (k + 1) hl' hB rfl hvp, hd]
 unfold f58
 refine Yes.jn (Yes.bind ?_)
 refine (Yes.mono (Q' := fun r => r.1 = 1 ∧ ∃ n, LOk n ∧ n.Boxes = l.Boxes ∧ r.2.2.1.race = rc n ∧ Vs cs r.2.2.1 k ∧ KOk (nbx l 0) (nbx l 1) (sgl cs) (Vs cs) r.2.2.2 ∧ (rf (cs[g] :: cs.drop (cs.length - k)) l').1 = r.2.1 :: (rf (cs.drop (cs.length - k)) n).1 ∧ cL (cs.drop (cs.length - k)) n < never) ?_ fun r hr => ?_)
 ·show Yes (f98 _ _ _ _ _) _
  rw [← nbx_of hB, ← nbx_of hB]
  refine s98 hl' ?_
  rw [hst]
  rw [nbx_of hB, nbx_of hB]
  -- a round for a pick that weaves the colour
  have rnd : ∀ (y : BoxPick × BoxStep) (n : BoxLoom), LOk n → n.Boxes = l'.Boxes → y.2.next = rc n → 0 ≤ y.2.moves ∧ y.2.moves ≤ 6 → y.2.colour = cs[g] → ∀ (s : BoxPick × BoxPoint × List (BoxPoint × Int)) (R : Bool × (Nat × BoxPick × BoxPoint × List (BoxPoint × Int)) → Prop), KOk (nbx l 0) (nbx l 1) (sgl cs) (Vs cs) s.2.2 →
    (∀ mm, KOk (nbx l 0) (nbx l 1) (sgl cs) (Vs cs) mm → (y.2.moves + cL (cs.drop (cs.length - k)) n = cL (cs[g] :: cs.drop (cs.length - k)) l' → R (false, 1, y.1, ⟨((g + 1 : Nat) : Int), 0, y.2.next⟩, mm)) ∧ (y.2.moves + cL (cs.drop (cs.length - k)) n ≠ cL (cs[g] :: cs.drop (cs.length - k)) l' → R (true, 0, s.1, s.2.1, mm))) →
    Yes ((f88 ⟨(g : Int), 0, rc l'⟩ (sgl cs) y.2).bind fun j7 => Option.bind (α := Bool × (List (BoxPoint × Int))) (bif j7.2 then (f57 big ⟨(nbx l 0 : Int), (nbx l 1 : Int), ⟨⟩⟩ s.2.2 (sgl cs) (j7.1)).bind fun jA => (f57 big ⟨(nbx l 0 : Int), (nbx l 1 : Int), ⟨⟩⟩ (jA.2) (sgl cs) ⟨(g : Int), 0, rc l'⟩).bind fun qA => some (((w64 ((y.2).moves + jA.1)) == qA.1), qA.2) else some (false, s.2.2)) fun (q8, v7) => bif q8 then some (false, ((1 : Nat), (y.1, j7.1, v7))) else some (true, ((0 : Nat), (s.1, s.2.1, v7)))) R := fun y n hn hnB hnx hmv hcol s R hks hR => by
   have hv1 : Vs cs ⟨((g + 1 : Nat) : Int), 0, y.2.next⟩ k := ⟨g + 1, rfl, rfl, by omega⟩
   have e1 : f88 ⟨(g : Int), 0, rc l'⟩ (sgl cs) y.2 = some (⟨((g + 1 : Nat) : Int), 0, y.2.next⟩, true) := by rw [s88s hg hlen, hcol]; simp
   rw [e1, Option.bind_some]
   have cr := cL_rng (cs.drop (cs.length - k)) hn hdl
   refine Yes.bind (qtake rfl (Yes.bind ((s57 hl hV k big (Nat.lt_trans hk (by unfold big; omega)) hn (hnB.trans hB) hnx hv1 hks).mono fun a ha => Yes.bind ((s57 hl hV (k + 1) big (Nat.lt_of_le_of_lt (by omega : k + 1 ≤ 1000) (by unfold big; omega)) hl' hB rfl hvp ha.2).mono fun b hb => Yes.some ?_))))
   obtain ⟨a1, _⟩ := ha
   obtain ⟨b1, b2⟩ := hb
   rw [cst_cL hlen k hn (hnB.trans hB) hnx hv1] at a1
   rw [tot] at b1
   rw [a1, b1, w64_id (by unfold never at *; omega) (by unfold never at *; omega)]
   by_cases hq : y.2.moves + cL (cs.drop (cs.length - k)) n = cL (cs[g] :: cs.drop (cs.length - k)) l'
   ·exact qtake (beq_iff_eq.2 hq) (Yes.some ((hR _ b2).1 hq))
   ·exact qskip (beq_eq_false_iff_ne.2 hq) (Yes.some ((hR _ b2).2 hq))
  refine runL_first (I := fun s => s.1 = 0 ∧ KOk (nbx l 0) (nbx l 1) (sgl cs) (Vs cs) s.2.2.2) _ _ _ _ ⟨rfl, hm⟩ (fun y hy s hs => ?_) (fun s hs => ?_)
  ·obtain ⟨q, hq, hqe⟩ := List.mem_filterMap.1 hy
   obtain ⟨t, s⟩ := s
   obtain ⟨ht, hs⟩ := hs
   simp only at ht hs
   subst ht
   rw [guardC_0]
   have hqa : q ∈ allP l' := by rw [z1]; simp [hq]
   unfold stp at hqe
   cases ho : oneL l' q with
   | none => rw [ho] at hqe; cases hqe
   | some v =>
    rw [ho] at hqe
    cases hqe
    obtain ⟨o1, o2, _, _, o5, o6⟩ := oneL_ok hl' ((mem_allP hl').1 hqa) (show oneL l' q = some (v.1, v.2.1, v.2.2) from ho)
    by_cases hc : colr l' v.2.1 = cs[g]
    ·refine rnd (q, ⟨rc v.1, colr l' v.2.1, v.2.2⟩) v.1 o1 o2 rfl ⟨o5, o6⟩ hc s _ hs fun mm hmm => ⟨fun he => ?_, fun _ => ⟨rfl, rfl, hmm⟩⟩
     have := z5 q hq v ⟨ho, hc⟩
     have he : v.2.2 + cL (cs.drop (cs.length - k)) v.1 = cL (cs[g] :: cs.drop (cs.length - k)) l' := he
     omega
    ·have e1 : f88 ⟨(g : Int), 0, rc l'⟩ (sgl cs) ⟨rc v.1, colr l' v.2.1, v.2.2⟩ = some (⟨(g : Int), 0, rc l'⟩, false) := by
      rw [s88s hg hlen, show (cs[g] == colr l' v.2.1) = false from beq_eq_false_iff_ne.2 fun h => hc h.symm]; rfl
     show Yes ((f88 ⟨(g : Int), 0, rc l'⟩ (sgl cs) ⟨rc v.1, colr l' v.2.1, v.2.2⟩).bind _) _
     rw [e1, Option.bind_some]
     exact Yes.bind (qskip rfl (Yes.some (qskip rfl (Yes.some ⟨rfl, rfl, hs⟩))))
  ·obtain ⟨t, s⟩ := s
   obtain ⟨ht, hs⟩ := hs
   simp only at ht hs
   subst ht
   rw [guardC_0]
   refine rnd (p, ⟨rc x.1, colr l' x.2.1, x.2.2⟩) x.1 w1 w2 rfl ⟨w3, w4⟩ z2.2 s _ hs fun mm hmm => ⟨fun _ => ⟨rfl, rfl, x.1, w1, w2.trans hB, rfl, ⟨g + 1, rfl, rfl, by omega⟩, hmm, z4, by omega⟩, fun hne => absurd z3 hne⟩
 ·obtain ⟨t, r1, r2, r3⟩ := r
  obtain ⟨ht, n, hn⟩ := hr
  simp only at ht
  subst ht
  exact qskip rfl (Yes.some ⟨n, hn⟩)
end Go.Proofs.Ytmpjooneiaiffaa
