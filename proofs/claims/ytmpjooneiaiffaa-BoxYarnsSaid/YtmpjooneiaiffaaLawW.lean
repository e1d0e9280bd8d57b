/- BoxRounds. -/
import Derived.Test.YtmpjooneiaiffaaLawL
set_option maxRecDepth 8000
namespace Go.Proofs.Ytmpjooneiaiffaa
open Go.RowKit
open Classical

theorem chkP0 {l : BoxLoom} {ps : List BoxPick} (h : chkP l ps = 0) : LOk l ∧ (∀ p ∈ ps, okP l.Boxes p = true) ∧ ps.length ≤ 24 := by
 unfold chkP at h
 split at h
 ·rename_i h0; exact absurd h h0
 rename_i h0
 split at h
 ·cases h
 rename_i h1
 split at h
 ·cases h
 rename_i h2
 exact ⟨chk0.1 (Classical.not_not.1 h0), Classical.not_not.1 h2, by omega⟩
end Go.Proofs.Ytmpjooneiaiffaa
/- Plain laws: what box.Throw answers. -/
set_option maxRecDepth 8000
namespace Go.Proofs.Ytmpjooneiaiffaa
open Go.RowKit
open Classical

def colr (l : BoxLoom) (i : Nat) : Int := (l.Shuttles[i]?.map (·.Colour)).getD 0
theorem thl_lt {ps : List BoxPick} : ∀ {l : BoxLoom}, LOk l → (∀ p ∈ ps, okP l.Boxes p = true) → ∀ i ∈ thl l ps, i < l.Shuttles.length := by
 induction ps with
 | nil => intro l _ _ i h; rw [thl] at h; cases h
 | cons p ps ih =>
  intro l hl hp i h
  rw [thl] at h
  cases ho : oneL l p with
  | none => rw [ho] at h; cases h
  | some x =>
   obtain ⟨a, j, m⟩ := x
   rw [ho] at h
   obtain ⟨k1, k2, k3, k4, _⟩ := oneL_ok hl (hp p (by simp)) ho
   rcases List.mem_cons.1 h with rfl | h
   ·exact k4
   ·have := ih k1 (fun q hq => by rw [k2]; exact hp q (by simp [hq])) i h
    omega
theorem thl_len {ps : List BoxPick} : ∀ {l : BoxLoom}, (thl l ps).length ≤ ps.length := by
 induction ps with
 | nil => intro l; rw [thl]; exact Nat.le_refl _
 | cons p ps ih =>
  intro l
  rw [thl]
  cases ho : oneL l p with
  | none => exact Nat.zero_le _
  | some x => exact Nat.succ_le_succ ih
theorem s70e {l : BoxLoom} {ps : List BoxPick} (h : Sml l) (hp : ps.length ≤ 1000) (he : chkP l ps ≠ 0) : ∃ x, f70 l ps = some (⟨l⟩, x, 0, chkP l ps) := by
 have : Yes (f70 l ps) (fun r => ∃ x, r = (⟨l⟩, x, 0, chkP l ps)) := by
  unfold f70
  exact Yes.jn (qbind _ (s74 l ps h hp) (qtake (by simpa using he) (Yes.some ⟨_, rfl⟩)))
 obtain ⟨r, hr, x, rfl⟩ := this
 exact ⟨x, hr⟩
theorem s70 {l : BoxLoom} {ps : List BoxPick} (hl : LOk l) (hp : ∀ p ∈ ps, okP l.Boxes p = true) (hlen : ps.length ≤ 24) :
  Yes (f70 l ps) (fun x => x.1 = ⟨l⟩ ∧ match thr l ps with | some n => Rel x.2.1.last n ∧ x.2.1.thrown = (thl l ps).map (fun i : Nat => (i : Int) + 1) ∧ x.2.1.moves = mvt l ps ∧ x.2.2 = (0, 0) | none => x.2.2 = (((thl l ps).length : Int), 9)) := by
 have hck : chkP l ps = 0 := by
  unfold chkP; rw [if_neg (fun h => h (chk0.2 hl)), if_neg (by omega), if_neg (fun h => h hp)]
 unfold f70
 refine Yes.jn (qbind _ (s74 l ps hl.sml (by omega)) (qskip (by rw [hck]; rfl) (Yes.bind ((s54 hl).mono fun r hr => Yes.bind ((s76x hl hr hp hlen).mono fun x hx => Yes.some ⟨rfl, hx⟩)))))
end Go.Proofs.Ytmpjooneiaiffaa
/- Plain laws: full, and standing. -/
set_option maxRecDepth 8000
namespace Go.Proofs.Ytmpjooneiaiffaa
open Go.RowKit
open Classical

structure Smb (n l : BoxLoom) : Prop where
 bx : n.Boxes = l.Boxes
 len : n.Shuttles.length = l.Shuttles.length
 sm : ∀ i (h : i < n.Shuttles.length) (h' : i < l.Shuttles.length), n.Shuttles[i].Colour = l.Shuttles[i].Colour ∧ n.Shuttles[i].Yarn = l.Shuttles[i].Yarn
end Go.Proofs.Ytmpjooneiaiffaa
/- Plain laws: the loom of bytes is all right. -/
set_option maxRecDepth 8000
namespace Go.Proofs.Ytmpjooneiaiffaa
open Go.RowKit
open Classical

end Go.Proofs.Ytmpjooneiaiffaa
/- Plain laws: the picks of bytes can be thrown. -/
set_option maxRecDepth 8000
namespace Go.Proofs.Ytmpjooneiaiffaa
open Go.RowKit
open Classical

end Go.Proofs.Ytmpjooneiaiffaa
/- Plain laws: picks thrown the other way round bring all back. -/
set_option maxRecDepth 8000
namespace Go.Proofs.Ytmpjooneiaiffaa
open Go.RowKit
open Classical

end Go.Proofs.Ytmpjooneiaiffaa
/- BoxBack. -/
set_option maxRecDepth 8000
namespace Go.Proofs.Ytmpjooneiaiffaa
open Go.RowKit
open Classical

end Go.Proofs.Ytmpjooneiaiffaa
/- Plain laws: the race of colours. -/
set_option maxRecDepth 8000
namespace Go.Proofs.Ytmpjooneiaiffaa
open Go.RowKit
open Classical

noncomputable def cx (l : BoxLoom) (s b : Int) : Int := if inX l.Shuttles s b < 0 then 0 else colr l (inX l.Shuttles s b).toNat + 1
structure RelC (r : BoxRace) (l : BoxLoom) : Prop where
 bx : ∀ (s b : Nat) (hs : s < 2) (hb : b < 4), r.boxes[s][b] = cx l s b
 at_ : r.at_ = ⟨l.At.getD 0 0, l.At.getD 1 0⟩
end Go.Proofs.Ytmpjooneiaiffaa
/- Plain laws: all picks, one after the other; the colours that the next pick can have. -/
set_option maxRecDepth 8000
namespace Go.Proofs.Ytmpjooneiaiffaa
open Go.RowKit
open Classical

/-! ### The race of a loom -/
/-! ### Going through picks -/
/-! ### The colours that the next pick can have -/
end Go.Proofs.Ytmpjooneiaiffaa
/- BoxThrows. -/
set_option maxRecDepth 8000
namespace Go.Proofs.Ytmpjooneiaiffaa
open Go.RowKit
open Classical

theorem s32x {l : BoxLoom} (hl : LOk l) {ps : List BoxPick} (hp : ∀ p ∈ ps, okP l.Boxes p = true) (hlen : ps.length ≤ 30) :
  Yes (f32 l ps) (fun r => r.1.Thrown = (thl l ps).map (fun i : Nat => (i : Int)) ∧ match thr l ps with | some n => r.1.After = n ∧ r.1.Moves = mvt l ps ∧ r.2 = true | none => r.2 = false) := by
 unfold f32
 refine qbind _ (s50 l hl.sml) (Yes.jn (Yes.upto2 (s0 := (⟨[], ⟨[], [], []⟩, 0⟩ : Grifferef04Run)) (t0 := (⟨[], l, 0⟩ : Grifferef04Run)) ps.length (by omega)
  (fun i _ t => thr l (ps.take i) = some t.After ∧ t.Thrown = (thl l (ps.take i)).map (fun i : Nat => (i : Int)) ∧ t.Moves = mvt l (ps.take i)) ⟨by simp [thr], by simp [thl], by simp [mvt]⟩ (fun i s t k hi hI hk => ?_) (fun s t k hI => ?_)))
 ·obtain ⟨h1, h2, h3⟩ := hI
  obtain ⟨k1, k2, _⟩ := thr_ok hl (fun p h => hp p (List.mem_of_mem_take h)) h1
  have hpi : okP t.After.Boxes ps[i] = true := by rw [k2]; exact hp _ (List.getElem_mem hi)
  have hln := thl_len (l := l) (ps := ps.take i)
  have hmb := mvt_bound hl (ps := ps.take i) fun p h => hp p (List.mem_of_mem_take h)
  have hti : (ps.take i).length ≤ 30 := by simp; omega
  refine Yes.jn (qtake (by simp; omega) (Yes.jn (qbind _ (qidx hi) (qbind _ (s61 k1 hpi) (Yes.jn ?_)))))
  cases ho : oneL t.After ps[i] with
  | none =>
   refine qtake rfl (Yes.some ⟨?_, ?_⟩)
   ·rw [h2, thl_fail hi h1 ho]
   ·rw [thr_fail hi h1 ho]
  | some x =>
   obtain ⟨n, c, m⟩ := x
   obtain ⟨e1, e2⟩ := thl_step hi h1 ho
   obtain ⟨_, _, _, _, hm⟩ := oneL_ok k1 hpi ho
   refine qskip rfl (Yes.bind (Yes.apnd (by rw [h2]; simp; omega) (by rw [h2]; simp; omega) (hk _ _ ⟨?_, ?_, ?_⟩)))
   ·show thr l (ps.take (i + 1)) = some n
    rw [thr_step hi h1, ho]; rfl
   ·show t.Thrown ++ [(c : Int)] = _
    rw [e1, List.map_append, h2]; rfl
   ·show w64 (t.Moves + m) = _
    rw [e2, h3, w64_id (by omega) (by omega)]
 ·obtain ⟨h1, h2, h3⟩ := hI
  rw [List.take_length] at h1 h2 h3
  refine Yes.jn (qskip (by simp) (Yes.some ⟨h2, ?_⟩))
  rw [h1]
  exact ⟨rfl, h3, rfl⟩
end Go.Proofs.Ytmpjooneiaiffaa
/- Plain laws: the yarn that is left; the picks of bytes, exactly. -/
set_option maxRecDepth 8000
namespace Go.Proofs.Ytmpjooneiaiffaa
open Go.RowKit
open Classical

def dcr (s : Span) (n : Nat) : Span := ⟨max 0 (s.Low - n), max 0 (s.High - n)⟩
def yl (l : BoxLoom) (t : List Nat) : List Span := l.Shuttles.mapIdx fun i s => dcr s.Yarn (t.count i)
theorem yl_len {l : BoxLoom} {t : List Nat} : (yl l t).length = l.Shuttles.length := by simp [yl]
theorem yl_at {l : BoxLoom} {t : List Nat} {i : Nat} (h : i < (yl l t).length) (h' : i < l.Shuttles.length) : (yl l t)[i] = dcr l.Shuttles[i].Yarn (t.count i) := by simp [yl]
theorem yarn_rng {l : BoxLoom} (hl : LOk l) {i : Nat} (hi : i < l.Shuttles.length) : 0 ≤ l.Shuttles[i].Yarn.Low ∧ l.Shuttles[i].Yarn.Low ≤ l.Shuttles[i].Yarn.High ∧ l.Shuttles[i].Yarn.High ≤ 1000 := by
 have := hl.sh _ (List.getElem_mem hi)
 unfold okS at this
 simp only [Bool.and_eq_true, decide_eq_true_eq] at this
 omega
theorem dcr0 {l : BoxLoom} (hl : LOk l) {i : Nat} (hi : i < l.Shuttles.length) : dcr l.Shuttles[i].Yarn 0 = l.Shuttles[i].Yarn := by
 have := yarn_rng hl hi
 unfold dcr
 rw [show max 0 (l.Shuttles[i].Yarn.Low - ((0 : Nat) : Int)) = l.Shuttles[i].Yarn.Low by omega, show max 0 (l.Shuttles[i].Yarn.High - ((0 : Nat) : Int)) = l.Shuttles[i].Yarn.High by omega]
theorem dcr_succ {s : Span} {n : Nat} : dcr s (n + 1) = ⟨max 0 ((dcr s n).Low - 1), max 0 ((dcr s n).High - 1)⟩ := by
 unfold dcr
 congr 1 <;> (simp only; omega)
theorem yl_snoc {l : BoxLoom} {t : List Nat} {j : Nat} (hj : j < (yl l t).length) : yl l (t ++ [j]) = (yl l t).set j ⟨max 0 ((yl l t)[j].Low - 1), max 0 ((yl l t)[j].High - 1)⟩ := by
 have hj' : j < l.Shuttles.length := by rw [yl_len] at hj; exact hj
 apply List.ext_getElem (by simp [yl])
 intro i h1 h2
 have h3 : i < l.Shuttles.length := by rw [yl_len] at h1; exact h1
 rw [yl_at h1 h3, List.getElem_set]
 split
 ·rename_i he; subst he
  rw [List.count_append, List.count_singleton_self, dcr_succ, yl_at hj hj']
 ·rename_i he
  rw [List.count_append, yl_at _ h3, List.count_singleton]
  simp [he]
theorem s29e {l : BoxLoom} {ps : List BoxPick} (h : Sml l) (hp : ps.length ≤ 1000) (he : chkP l ps ≠ 0) : f29 l ps = some ([], 0, chkP l ps) := by
 obtain ⟨x, hx⟩ := s70e h hp he
 refine Yes.eq ?_
 unfold f29
 exact qbind _ hx (Yes.jn (qtake (by simpa using he) (Yes.some rfl)))
theorem s29 {l : BoxLoom} {ps : List BoxPick} (hl : LOk l) (hp : ∀ p ∈ ps, okP l.Boxes p = true) (hlen : ps.length ≤ 24) :
  f29 l ps = some (match thr l ps with | some _ => (yl l (thl l ps), 0, 0) | none => ([], ((thl l ps).length : Int), 9)) := by
 refine Yes.eq ?_
 unfold f29
 refine Yes.bind ((s70 hl hp hlen).mono fun y hy => Yes.jn ?_)
 obtain ⟨y1, hy⟩ := hy
 cases ht : thr l ps with
 | none =>
  rw [ht] at hy
  have hy : y.2.2 = (((thl l ps).length : Int), 9) := hy
  refine qtake (by rw [hy]; rfl) (Yes.some ?_)
  rw [hy]
 | some n =>
  rw [ht] at hy
  obtain ⟨e1, e2, e3, e4⟩ := hy
  have hfew := hl.few
  have htl := thl_lt hl hp
  have hll := thl_len (l := l) (ps := ps)
  refine qskip (by rw [e4]; rfl) ?_
  show Yes (Option.bind _ _) _
  rw [y1, e2]
  refine Yes.bind (Yes.upto l.Shuttles.length (by omega) (fun i t => t = (l.Shuttles.take i).map (·.Yarn)) (by simp) (fun i t k hi hI hk => ?_) (fun t k hI => ?_))
  ·have hl2 : t.length ≤ 6 := by rw [hI]; simp; omega
   refine qtake (by simp; omega) (Yes.bind (qbind _ (qidx hi) (Yes.bind (Yes.apnd (by simp; omega) (by simp; omega) (Yes.some (hk _ ?_))))))
   rw [take_succ hi, List.map_append, hI]; rfl
  ·refine qskip (by simp) (Yes.some ?_)
   rw [List.take_length] at hI
   have h0 : t = yl l [] := by
    rw [hI]
    apply List.ext_getElem (by simp [yl])
    intro i h1 h2
    have h3 : i < l.Shuttles.length := by simpa using h1
    rw [yl_at h2 h3, List.count_nil, dcr0 hl h3]; simp
   refine Yes.bind (Yes.upto (thl l ps).length (by omega) (fun i t => t = yl l ((thl l ps).take i)) (by rw [h0]; simp) (fun i t k2 hi hI hk => ?_) (fun t k2 hI => ?_))
   ·have hti := htl _ (List.getElem_mem hi)
    have hw : w64 ((((thl l ps)[i] : Nat) : Int) + 1 - 1) = (((thl l ps)[i] : Nat) : Int) := by rw [w64_id (by omega) (by omega)]; omega
    have hjt : (thl l ps)[i] < t.length := by rw [hI, yl_len]; exact hti
    have hy := yarn_rng hl hti
    refine qtake (by simp; omega) (Yes.bind (qbind ((((thl l ps)[i] : Nat) : Int) + 1) (by rw [qidx (by simpa using hi)]; simp) ?_))
    rw [hw]
    refine qbind _ (qidx hjt) (qbind _ (qidx hjt) (Yes.some (hk _ ?_)))
    subst hI
    rw [take_succ hi, yl_snoc hjt, Int.toNat_natCast]
    have hb : (yl l ((thl l ps).take i))[(thl l ps)[i]] = dcr l.Shuttles[(thl l ps)[i]].Yarn (((thl l ps).take i).count (thl l ps)[i]) := yl_at hjt hti
    have hc : ((thl l ps).take i).count (thl l ps)[i] ≤ i := Nat.le_trans List.count_le_length (by simp; omega)
    rw [max64_eq, max64_eq]
    rw [hb]
    unfold dcr
    simp only
    rw [w64_id (by omega) (by omega), w64_id (by omega) (by omega)]
   ·refine qskip (by simp) (Yes.some (Yes.some ?_))
    rw [List.take_length] at hI
    rw [hI]
/-! ### The picks of bytes -/
end Go.Proofs.Ytmpjooneiaiffaa
/- BoxConserved. -/
set_option maxRecDepth 8000
namespace Go.Proofs.Ytmpjooneiaiffaa
open Go.RowKit
open Classical

def cnts (k : Nat) (t : List Nat) : List Int := (List.range k).map fun j => ((t.count j : Nat) : Int)
theorem cnts_len {k : Nat} {t : List Nat} : (cnts k t).length = k := by simp [cnts]
theorem cnts_at {k : Nat} {t : List Nat} {j : Nat} (h : j < (cnts k t).length) : (cnts k t)[j] = ((t.count j : Nat) : Int) := by simp [cnts]
theorem cnts_snoc {k : Nat} {t : List Nat} {j : Nat} (h : j < (cnts k t).length) : cnts k (t ++ [j]) = (cnts k t).set j ((cnts k t)[j] + 1) := by
 apply List.ext_getElem (by simp [cnts])
 intro i h1 h2
 rw [cnts_at, List.getElem_set]
 split
 ·rename_i he; subst he; rw [List.count_append, List.count_singleton_self, cnts_at]; omega
 ·rename_i he; rw [List.count_append, cnts_at, List.count_singleton]; simp [he]
end Go.Proofs.Ytmpjooneiaiffaa
