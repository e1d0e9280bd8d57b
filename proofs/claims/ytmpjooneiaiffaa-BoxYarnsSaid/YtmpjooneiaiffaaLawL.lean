/- Plain laws: picks thrown one by one, by the reference and by the race. -/
import Derived.Test.YtmpjooneiaiffaaLawF
set_option maxRecDepth 8000
namespace Go.Proofs.Ytmpjooneiaiffaa
open Go.RowKit
open Classical

noncomputable def thr : BoxLoom → List BoxPick → Option BoxLoom
 | l, [] => some l
 | l, p :: ps => match oneL l p with
  | some (n, _, _) => thr n ps
  | none => none
theorem thr_cons (l : BoxLoom) (p : BoxPick) (ps : List BoxPick) : thr l (p :: ps) = (oneL l p).bind fun x => thr x.1 ps := by
 rw [thr]
 cases oneL l p with
 | none => rfl
 | some x => rfl
theorem thr_append : ∀ (a b : List BoxPick) (l : BoxLoom), thr l (a ++ b) = (thr l a).bind fun n => thr n b
 | [], _, _ => rfl
 | p :: a, b, l => by
  rw [List.cons_append, thr_cons, thr_cons]
  cases oneL l p with
  | none => rfl
  | some x => exact thr_append a b x.1
theorem take_succ {α : Type} {xs : List α} {i : Nat} (h : i < xs.length) : xs.take (i + 1) = xs.take i ++ [xs[i]] := by
 rw [List.take_add_one, List.getElem?_eq_getElem h]; rfl
theorem thr_one (l : BoxLoom) (p : BoxPick) : thr l [p] = (oneL l p).map (·.1) := by
 unfold thr
 cases oneL l p with
 | none => rfl
 | some x => rfl
theorem thr_step {l : BoxLoom} {ps : List BoxPick} {i : Nat} (h : i < ps.length) {n : BoxLoom} (hn : thr l (ps.take i) = some n) : thr l (ps.take (i + 1)) = (oneL n ps[i]).map (·.1) := by
 rw [take_succ h, thr_append, hn, Option.bind_some, thr_one]
theorem thr_fail {l : BoxLoom} {ps : List BoxPick} {i : Nat} (h : i < ps.length) {n : BoxLoom} (hn : thr l (ps.take i) = some n) (hf : oneL n ps[i] = none) : thr l ps = none := by
 have h1 := thr_step h hn
 rw [hf] at h1
 rw [← List.take_append_drop (i + 1) ps, thr_append, h1]; rfl
theorem thr_ok {ps : List BoxPick} : ∀ {l n : BoxLoom}, LOk l → (∀ p ∈ ps, okP l.Boxes p = true) → thr l ps = some n → LOk n ∧ n.Boxes = l.Boxes ∧ n.Shuttles.length = l.Shuttles.length := by
 induction ps with
 | nil => intro l n hl _ h; cases h; exact ⟨hl, rfl, rfl⟩
 | cons p ps ih =>
  intro l n hl hp h
  unfold thr at h
  cases ho : oneL l p with
  | none => rw [ho] at h; cases h
  | some x =>
   obtain ⟨a, i, m⟩ := x
   rw [ho] at h
   obtain ⟨h1, h2, h3, _⟩ := oneL_ok hl (hp p (by simp)) ho
   obtain ⟨k1, k2, k3⟩ := ih h1 (fun q hq => by rw [h2]; exact hp q (by simp [hq])) h
   exact ⟨k1, k2.trans h2, k3.trans h3⟩
theorem s54 {l : BoxLoom} (hl : LOk l) : Yes (f54 ⟨l⟩ (fun a0 a1 => f75 a0 a1)) (fun r => Rel r l) := by
 have hf := hl.few
 unfold f54
 refine Yes.bind (Yes.upto l.Shuttles.length (by omega) (fun n t => ∀ (s b : Nat) (hs : s < 2) (hb : b < 4), (∀ j, j < n → isAt l.Shuttles s b j → t.boxes[s][b] = (j : Int) + 1) ∧ ((∀ j, j < n → ¬ isAt l.Shuttles s b j) → t.boxes[s][b] = 0)) ?_ (fun i t k hi hI hk => ?_) (fun t k hI => ?_))
 ·intro s b hs hb
  refine ⟨fun j h => absurd h (Nat.not_lt_zero _), fun _ => ?_⟩
  rcases (by omega : s = 0 ∨ s = 1) with rfl | rfl <;> rcases (by omega : b = 0 ∨ b = 1 ∨ b = 2 ∨ b = 3) with rfl | rfl | rfl | rfl <;> rfl
 ·have hok := hl.sh _ (List.getElem_mem hi)
  unfold okS at hok
  simp only [Bool.and_eq_true, btw_iff] at hok
  obtain ⟨⟨⟨_, hs⟩, hb⟩, _⟩ := hok
  obtain ⟨S, hS⟩ : ∃ S : Nat, l.Shuttles[i].Side = S := ⟨l.Shuttles[i].Side.toNat, by omega⟩
  obtain ⟨B, hB⟩ : ∃ B : Nat, l.Shuttles[i].Box = B := ⟨l.Shuttles[i].Box.toNat, by omega⟩
  have hS2 : S < 2 := by omega
  have hbx := hl.box hS2
  rw [hS, Int.toNat_natCast] at hb
  have hB4 : B < 4 := by omega
  refine qtake (by simp; omega) (Yes.bind (qbind _ (qidx hi) (qbind ((i : Int) + 1) (by show some (w64 ((i : Int) + 1)) = _; rw [w64_id (by omega) (by omega)]) ?_)))
  rw [hS, hB]
  refine qbind _ (vidx t.boxes hS2) (qbind _ (vidx _ hB4) (Yes.some (hk _ fun s b hs hb => ?_)))
  show (∀ j, j < i + 1 → isAt l.Shuttles s b j → (vmod t.boxes (S : Int) (fun b => vset b (B : Int) ((i : Int) + 1)))[s][b] = (j : Int) + 1) ∧ ((∀ j, j < i + 1 → ¬ isAt l.Shuttles s b j) → (vmod t.boxes (S : Int) (fun b => vset b (B : Int) ((i : Int) + 1)))[s][b] = 0)
  have hat : isAt l.Shuttles S B i := ⟨hi, hS, hB⟩
  obtain ⟨o1, o2⟩ := hI s b hs hb
  by_cases hsb : S = s ∧ B = b
  ·obtain ⟨rfl, rfl⟩ := hsb
   have hv : (vmod t.boxes (S : Int) (fun b => vset b (B : Int) ((i : Int) + 1)))[S][B] = (i : Int) + 1 := by
    rw [vmod_at hs, if_pos rfl, vset_at hb, if_pos rfl]
   rw [hv]
   exact ⟨fun j _ hj => by rw [hl.dst.one hj hat], fun h => absurd hat (h i (by omega))⟩
  ·have hv : (vmod t.boxes (S : Int) (fun b => vset b (B : Int) ((i : Int) + 1)))[s][b] = t.boxes[s][b] := by
    by_cases hss : S = s
    ·subst hss
     rw [vmod_at hs, if_pos rfl, vset_at hb, if_neg (fun h => hsb ⟨rfl, h⟩)]
    ·rw [vmod_at hs, if_neg hss]
   rw [hv]
   refine ⟨fun j hj hja => ?_, fun h => o2 fun j hj => h j (by omega)⟩
   rcases Nat.lt_succ_iff_lt_or_eq.1 hj with h | rfl
   ·exact o1 j h hja
   ·have := isAt_same hat hja
    exact absurd ⟨by omega, by omega⟩ hsb
 ·refine qskip (by simp) (Yes.some (qbind _ (at_at hl.len (i := 0) (by omega)) (qbind _ (at_at hl.len (i := 1) (by omega)) (Yes.some ⟨fun s b hs hb => ?_, rfl⟩))))
  obtain ⟨o1, o2⟩ := hI s b hs hb
  show t.boxes[s][b] = _
  rcases inX_cases hl.dst s b with ⟨i, hi, e⟩ | ⟨hi, e⟩
  ·rw [e, o1 i hi.1 hi]
  ·rw [e, o2 fun j _ h => hi ⟨j, h⟩]; rfl
end Go.Proofs.Ytmpjooneiaiffaa
/- Plain laws: rounds, and BoxRounds. -/
set_option maxRecDepth 8000
namespace Go.Proofs.Ytmpjooneiaiffaa
open Go.RowKit
open Classical

section
variable {l : BoxLoom} {ps : List BoxPick} (hl : LOk l) (hp : ∀ p ∈ ps, okP l.Boxes p = true)
include hl hp
end
end Go.Proofs.Ytmpjooneiaiffaa
/- Plain laws: a permutation of eight places comes back after at most 15 rounds. -/
set_option maxRecDepth 8000
namespace Go.Proofs.Ytmpjooneiaiffaa
open Go.RowKit
open Classical

section
variable {π : Nat → Nat}
variable (hlt : ∀ x, x < 8 → π x < 8) (hinj : ∀ x y, x < 8 → y < 8 → π x = π y → x = y)
include hlt
end
end Go.Proofs.Ytmpjooneiaiffaa
/- Plain laws: each round moves the shuttles by one and the same permutation of the boxes; so it ends after at most 15. -/
set_option maxRecDepth 8000
namespace Go.Proofs.Ytmpjooneiaiffaa
open Go.RowKit
open Classical

def swp (p : BoxPick) (x : Nat) : Nat := if x = p.Left.toNat then 4 + p.Right.toNat else if x = 4 + p.Right.toNat then p.Left.toNat else x
def okQ (p : BoxPick) : Prop := (0 ≤ p.Left ∧ p.Left ≤ 3) ∧ (0 ≤ p.Right ∧ p.Right ≤ 3)
theorem okP.q {l : BoxLoom} (hl : LOk l) {p : BoxPick} (h : okP l.Boxes p = true) : okQ p := by
 have h1 := okP_iff.1 h
 have b0 := hl.box (i := 0) (by omega)
 have b1 := hl.box (i := 1) (by omega)
 unfold okQ; omega
def rnd (ps : List BoxPick) (x : Nat) : Nat := ps.foldl (fun x p => swp p x) x
section
variable {l : BoxLoom} {ps : List BoxPick} (hl : LOk l) (hp : ∀ p ∈ ps, okP l.Boxes p = true)
include hl hp
end
end Go.Proofs.Ytmpjooneiaiffaa
/- Plain laws: the shuttles that picks throw, and the box moves, exactly. -/
set_option maxRecDepth 8000
namespace Go.Proofs.Ytmpjooneiaiffaa
open Go.RowKit
open Classical

noncomputable def thl : BoxLoom → List BoxPick → List Nat
 | _, [] => []
 | l, p :: ps => match oneL l p with
  | some (n, i, _) => i :: thl n ps
  | none => []
noncomputable def mvt : BoxLoom → List BoxPick → Int
 | _, [] => 0
 | l, p :: ps => match oneL l p with
  | some (n, _, m) => m + mvt n ps
  | none => 0
theorem thl_append : ∀ (a b : List BoxPick) {l n : BoxLoom}, thr l a = some n → thl l (a ++ b) = thl l a ++ thl n b
 | [], b, l, n, h => by cases h; rfl
 | p :: a, b, l, n, h => by
  rw [thr_cons] at h
  rw [List.cons_append, thl, thl]
  cases ho : oneL l p with
  | none => rw [ho] at h; cases h
  | some x => rw [ho] at h; exact congrArg (List.cons x.2.1) (thl_append a b h)
theorem mvt_append : ∀ (a b : List BoxPick) {l n : BoxLoom}, thr l a = some n → mvt l (a ++ b) = mvt l a + mvt n b
 | [], b, l, n, h => by cases h; exact (Int.zero_add _).symm
 | p :: a, b, l, n, h => by
  rw [thr_cons] at h
  rw [List.cons_append, mvt, mvt]
  cases ho : oneL l p with
  | none => rw [ho] at h; cases h
  | some x =>
   rw [ho] at h
   have := mvt_append a b h
   show x.2.2 + mvt x.1 (a ++ b) = x.2.2 + mvt x.1 a + mvt n b
   omega
theorem thl_step {l : BoxLoom} {ps : List BoxPick} {i : Nat} (h : i < ps.length) {n a : BoxLoom} {j : Nat} {m : Int} (hn : thr l (ps.take i) = some n) (ho : oneL n ps[i] = some (a, j, m)) :
  thl l (ps.take (i + 1)) = thl l (ps.take i) ++ [j] ∧ mvt l (ps.take (i + 1)) = mvt l (ps.take i) + m := by
 rw [take_succ h, thl_append _ _ hn, mvt_append _ _ hn]
 constructor
 ·rw [thl, ho]; rfl
 ·rw [mvt, ho]; show _ + (m + 0) = _; omega
theorem thl_fail {l : BoxLoom} {ps : List BoxPick} {i : Nat} (h : i < ps.length) {n : BoxLoom} (hn : thr l (ps.take i) = some n) (hf : oneL n ps[i] = none) : thl l ps = thl l (ps.take i) := by
 conv => lhs; rw [← List.take_append_drop i ps, List.drop_eq_getElem_cons h]
 rw [thl_append _ _ hn, thl, hf, List.append_nil]
theorem mvt_bound {l : BoxLoom} (hl : LOk l) {ps : List BoxPick} : (∀ p ∈ ps, okP l.Boxes p = true) → 0 ≤ mvt l ps ∧ mvt l ps ≤ 6 * ps.length := by
 induction ps generalizing l with
 | nil => intro _; exact ⟨by rw [mvt]; omega, by rw [mvt]; simp⟩
 | cons p ps ih =>
  intro hp
  rw [mvt]
  cases ho : oneL l p with
  | none => exact ⟨Int.le_refl _, by simp; omega⟩
  | some x =>
   obtain ⟨n, i, m⟩ := x
   obtain ⟨h1, h2, _, _, h5⟩ := oneL_ok hl (hp p (by simp)) ho
   have := ih h1 fun q hq => by rw [h2]; exact hp q (by simp [hq])
   show 0 ≤ m + mvt n ps ∧ m + mvt n ps ≤ 6 * ((ps.length + 1 : Nat) : Int)
   omega
theorem s76x {l : BoxLoom} (hl : LOk l) {r : BoxRace} (hr : Rel r l) {ps : List BoxPick} (hp : ∀ p ∈ ps, okP l.Boxes p = true) (hlen : ps.length ≤ 24) :
  Yes (f76 r ps) (fun x => match thr l ps with | some n => Rel x.1.last n ∧ x.1.thrown = (thl l ps).map (fun i : Nat => (i : Int) + 1) ∧ x.1.moves = mvt l ps ∧ x.2 = (0, 0) | none => x.2 = (((thl l ps).length : Int), 9)) := by
 unfold f76
 refine Yes.jn (Yes.upto ps.length (by omega) (fun i t => (∃ n, thr l (ps.take i) = some n ∧ Rel t.last n) ∧ t.thrown = (thl l (ps.take i)).map (fun i : Nat => (i : Int) + 1) ∧ t.thrown.length = i ∧ t.moves = mvt l (ps.take i)) ⟨⟨l, by simp [thr], hr⟩, by simp [thl], rfl, by simp [mvt]⟩ (fun i t k hi hI hk => ?_) (fun t k hI => ?_))
 ·obtain ⟨⟨n, h1, hrn⟩, h3, h2, h4⟩ := hI
  obtain ⟨k1, k2, _⟩ := thr_ok hl (fun p h => hp p (List.mem_of_mem_take h)) h1
  have hpi : okP n.Boxes ps[i] = true := by rw [k2]; exact hp _ (List.getElem_mem hi)
  refine qtake (by simp; omega) (Yes.jn (qbind _ (qidx hi) (Yes.bind ((s97 hrn k1 hpi).mono fun x hx => Yes.jn ?_))))
  cases ho : oneL n ps[i] with
  | none =>
   rw [ho] at hx
   have hx : x = (t.last, 0, 0) := hx
   subst hx
   refine qtake rfl (Yes.some ?_)
   rw [thr_fail hi h1 ho]
   show ((i : Int), (9 : Int)) = _
   rw [thl_fail hi h1 ho]
   have : (thl l (ps.take i)).length = i := by have := congrArg List.length h3; simpa [h2] using this.symm
   rw [this]
  | some y =>
   obtain ⟨n', j, m⟩ := y
   rw [ho] at hx
   obtain ⟨e1, e2, e3⟩ := hx
   obtain ⟨u1, u2⟩ := thl_step hi h1 ho
   have hb1 := mvt_bound hl (ps := ps.take (i + 1)) fun p h => hp p (List.mem_of_mem_take h)
   have hb2 : (ps.take (i + 1)).length ≤ 24 := by rw [List.length_take]; omega
   refine qskip (by rw [e2]; simp; omega) (Yes.jn (Yes.bind (Yes.apnd (by simp [h2]; omega) (by simp [h2]; omega) (hk _ ⟨⟨n', ?_, e1⟩, ?_, by simp [h2], ?_⟩))))
   ·rw [thr_step hi h1, ho]; rfl
   ·show t.thrown ++ [x.2.1] = _
    rw [u1, List.map_append, ← h3, e2]; rfl
   ·show w64 (t.moves + x.2.2) = _
    rw [h4, e3, ← u2, w64_id (by omega) (by omega)]
 ·obtain ⟨⟨n, h1, hrn⟩, h3, h2, h4⟩ := hI
  refine qskip (by simp) (Yes.some ?_)
  rw [List.take_length] at h1 h3 h4
  rw [h1]; exact ⟨hrn, h3, h4, rfl⟩
end Go.Proofs.Ytmpjooneiaiffaa
