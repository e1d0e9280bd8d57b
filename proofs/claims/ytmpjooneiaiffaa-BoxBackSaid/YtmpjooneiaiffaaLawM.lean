/- Plain laws: each round moves the shuttles by one and the same permutation of the boxes; so it ends after at most 15. -/
import Derived.Test.YtmpjooneiaiffaaLawJ
set_option maxRecDepth 8000
namespace Go.Proofs.Ytmpjooneiaiffaa
open Go.RowKit
open Classical

def plc (x : BoxShuttle) : Nat := x.Side.toNat * 4 + x.Box.toNat
theorem okS_plc {l : BoxLoom} (hl : LOk l) {x : BoxShuttle} (h : x ∈ l.Shuttles) : (0 ≤ x.Side ∧ x.Side ≤ 1) ∧ (0 ≤ x.Box ∧ x.Box ≤ 3) := by
 have hok := hl.sh _ h
 unfold okS at hok
 simp only [Bool.and_eq_true, btw_iff] at hok
 obtain ⟨⟨⟨_, hs⟩, hb⟩, _⟩ := hok
 have := hl.box (i := x.Side.toNat) (by omega)
 exact ⟨hs, by omega⟩
theorem plc_lt {l : BoxLoom} (hl : LOk l) {x : BoxShuttle} (h : x ∈ l.Shuttles) : plc x < 8 := by
 have := okS_plc hl h
 unfold plc; omega
def swp (p : BoxPick) (x : Nat) : Nat := if x = p.Left.toNat then 4 + p.Right.toNat else if x = 4 + p.Right.toNat then p.Left.toNat else x
def okQ (p : BoxPick) : Prop := (0 ≤ p.Left ∧ p.Left ≤ 3) ∧ (0 ≤ p.Right ∧ p.Right ≤ 3)
theorem okP.q {l : BoxLoom} (hl : LOk l) {p : BoxPick} (h : okP l.Boxes p = true) : okQ p := by
 have h1 := okP_iff.1 h
 have b0 := hl.box (i := 0) (by omega)
 have b1 := hl.box (i := 1) (by omega)
 unfold okQ; omega
theorem swp_lt {p : BoxPick} (h : okQ p) {x : Nat} (hx : x < 8) : swp p x < 8 := by
 unfold okQ at h; unfold swp; split <;> (try split) <;> omega
theorem swp_swp {p : BoxPick} (h : okQ p) (x : Nat) : swp p (swp p x) = x := by
 unfold okQ at h
 unfold swp
 split
 ·rename_i h1; split <;> (try split) <;> omega
 ·split
  ·split <;> (try split) <;> omega
  ·rfl
def rnd (ps : List BoxPick) (x : Nat) : Nat := ps.foldl (fun x p => swp p x) x
theorem rnd_lt : ∀ {ps : List BoxPick} {x : Nat}, (∀ p ∈ ps, okQ p) → x < 8 → rnd ps x < 8
 | [], _, _, hx => hx
 | p :: ps, x, h, hx => rnd_lt (ps := ps) (x := swp p x) (fun q hq => h q (List.mem_cons_of_mem _ hq)) (swp_lt (h p (by simp)) hx)
theorem rnd_inj : ∀ {ps : List BoxPick} {x y : Nat}, (∀ p ∈ ps, okQ p) → rnd ps x = rnd ps y → x = y
 | [], _, _, _, h => h
 | p :: ps, x, y, h, he => by
  have h1 : swp p x = swp p y := rnd_inj (ps := ps) (fun q hq => h q (List.mem_cons_of_mem _ hq)) he
  rw [← swp_swp (h p (by simp)) x, h1, swp_swp (h p (by simp))]
theorem isAt_plc {l : BoxLoom} (hl : LOk l) {s c : Int} {i : Nat} (h : isAt l.Shuttles s c i) : ∃ hi : i < l.Shuttles.length, plc l.Shuttles[i] = s.toNat * 4 + c.toNat := by
 obtain ⟨hi, h1, h2⟩ := h
 exact ⟨hi, by unfold plc; rw [h1, h2]⟩
theorem plc_isAt {l : BoxLoom} (hl : LOk l) {s c : Nat} (hs : s < 2) (hc : c < 4) {i : Nat} (hi : i < l.Shuttles.length) (h : plc l.Shuttles[i] = s * 4 + c) : isAt l.Shuttles s c i := by
 have := okS_plc hl (List.getElem_mem hi)
 unfold plc at h
 exact ⟨hi, by omega, by omega⟩
theorem goes_plc {l n : BoxLoom} (hl : LOk l) (hn : LOk n) {i : Nat} {s c s' c' : Nat} (hs : s < 2) (hc : c < 4) (hs' : s' < 2) (hc' : c' < 4) (g : Goes l.Shuttles n.Shuttles i s c s' c') (hne : s * 4 + c ≠ s' * 4 + c') {j : Nat} (hj : j < l.Shuttles.length) (hj' : j < n.Shuttles.length) :
  plc n.Shuttles[j] = if plc l.Shuttles[j] = s * 4 + c then s' * 4 + c' else if plc l.Shuttles[j] = s' * 4 + c' then s * 4 + c else plc l.Shuttles[j] := by
 by_cases hij : i = j
 ·subst hij
  obtain ⟨_, h1⟩ := isAt_plc hl g.at0
  obtain ⟨_, h2⟩ := isAt_plc hn g.there
  simp only [Int.toNat_natCast] at h1 h2
  rw [if_pos h1, h2]
 ·have h1 : plc l.Shuttles[j] ≠ s * 4 + c := fun h => hij (hl.dst.one g.at0 (plc_isAt hl hs hc hj h))
  have h2 : plc l.Shuttles[j] ≠ s' * 4 + c' := fun h => g.free ⟨j, plc_isAt hl hs' hc' hj h⟩
  rw [if_neg h1, if_neg h2]
  obtain ⟨_, h3⟩ := isAt_plc hn ((g.to _ _ _).2 (.inr ⟨hij, ⟨hj, rfl, rfl⟩⟩))
  rw [h3]; rfl
theorem one_plc {l n : BoxLoom} (hl : LOk l) {p : BoxPick} (hp : okP l.Boxes p = true) {i : Nat} {m : Int} (h : oneL l p = some (n, i, m)) {j : Nat} (hj : j < l.Shuttles.length) (hj' : j < n.Shuttles.length) :
  plc n.Shuttles[j] = swp p (plc l.Shuttles[j]) := by
 have hn := (oneL_ok hl hp h).1
 have hq := okP.q hl hp
 unfold okQ at hq
 obtain ⟨L, hL⟩ : ∃ L : Nat, p.Left = L := ⟨p.Left.toNat, by omega⟩
 obtain ⟨R, hR⟩ : ∃ R : Nat, p.Right = R := ⟨p.Right.toNat, by omega⟩
 have hL4 : L < 4 := by omega
 have hR4 : R < 4 := by omega
 obtain ⟨_, _, _, h4⟩ := oneL_some hl.dst h
 unfold swp
 rw [hL, hR] at *
 simp only [Int.toNat_natCast]
 rcases h4 with ⟨_, g⟩ | ⟨_, g⟩
 ·have := goes_plc (s := 0) (c := L) (s' := 1) (c' := R) hl hn (by omega) hL4 (by omega) hR4 g (by omega) hj hj'
  rw [this]
  simp only [Nat.zero_mul, Nat.zero_add, Nat.one_mul]
 ·have := goes_plc (s := 1) (c := R) (s' := 0) (c' := L) hl hn (by omega) hR4 (by omega) hL4 g (by omega) hj hj'
  rw [this]
  simp only [Nat.zero_mul, Nat.zero_add, Nat.one_mul]
  by_cases h1 : plc l.Shuttles[j] = L
  ·rw [if_neg (by omega), if_pos h1, if_pos h1]
  ·by_cases h2 : plc l.Shuttles[j] = 4 + R
   ·rw [if_pos h2, if_neg h1, if_pos h2]
   ·rw [if_neg h2, if_neg h1, if_neg h1, if_neg h2]
theorem thr_plc {ps : List BoxPick} : ∀ {l n : BoxLoom}, LOk l → (∀ p ∈ ps, okP l.Boxes p = true) → thr l ps = some n → ∀ {j : Nat} (hj : j < l.Shuttles.length) (hj' : j < n.Shuttles.length), plc n.Shuttles[j] = rnd ps (plc l.Shuttles[j]) := by
 induction ps with
 | nil => intro l n _ _ h j hj hj'; cases h; rfl
 | cons p ps ih =>
  intro l n hl hp h j hj hj'
  rw [thr_cons] at h
  cases ho : oneL l p with
  | none => rw [ho] at h; cases h
  | some x =>
   obtain ⟨a, i, m⟩ := x
   rw [ho] at h
   obtain ⟨h1, h2, h3, _⟩ := oneL_ok hl (hp p (by simp)) ho
   have hja : j < a.Shuttles.length := by omega
   rw [ih h1 (fun q hq => by rw [h2]; exact hp q (by simp [hq])) h hja hj', one_plc hl (hp p (by simp)) ho hj hja]
   rfl
section
variable {l : BoxLoom} {ps : List BoxPick} (hl : LOk l) (hp : ∀ p ∈ ps, okP l.Boxes p = true)
include hl hp
theorem itr_plc : ∀ {n : Nat} {m : BoxLoom}, itr l ps n = some m → ∀ {j : Nat} (hj : j < l.Shuttles.length) (hj' : j < m.Shuttles.length), plc m.Shuttles[j] = itp (rnd ps) n (plc l.Shuttles[j])
 | 0, m, h, j, hj, hj' => by cases h; rfl
 | n + 1, m, h, j, hj, hj' => by
  rw [itr] at h
  cases ho : itr l ps n with
  | none => rw [ho] at h; cases h
  | some a =>
   rw [ho] at h
   obtain ⟨h1, h2, h3⟩ := itr_ok hl hp ho
   have hja : j < a.Shuttles.length := by omega
   rw [thr_plc h1 (fun p h => by rw [h2]; exact hp p h) h hja hj', itr_plc ho hj hja]
   rfl
theorem plc_wh {m : BoxLoom} (hm : LOk m) (hlen : m.Shuttles.length = l.Shuttles.length) (h : ∀ j (hj : j < l.Shuttles.length) (hj' : j < m.Shuttles.length), plc m.Shuttles[j] = plc l.Shuttles[j]) : Wh m.Shuttles l.Shuttles := by
 have _h := hp
 have one : ∀ j (hj : j < l.Shuttles.length) (hj' : j < m.Shuttles.length), m.Shuttles[j].Side = l.Shuttles[j].Side ∧ m.Shuttles[j].Box = l.Shuttles[j].Box := fun j hj hj' => by
  have h1 := h j hj hj'
  have h2 := okS_plc hl (List.getElem_mem hj)
  have h3 := okS_plc hm (List.getElem_mem hj')
  unfold plc at h1
  omega
 intro s c i
 constructor
 ·rintro ⟨h1, h2, h3⟩
  have := one i (by omega) h1
  exact ⟨by omega, this.1.symm.trans h2, this.2.symm.trans h3⟩
 ·rintro ⟨h1, h2, h3⟩
  have := one i h1 (by omega)
  exact ⟨by omega, this.1.trans h2, this.2.trans h3⟩
theorem itr_15 {N : Nat} (h4 : ∀ k, 1 ≤ k → k < N → ∃ c, itr l ps k = some c ∧ ¬ Wh c.Shuttles l.Shuttles) : N ≤ 15 := by
 refine Classical.byContradiction fun hgt => ?_
 have hq : ∀ p ∈ ps, okQ p := fun p h => okP.q hl (hp p h)
 obtain ⟨n, n1, n2, hn⟩ := ord15 (π := rnd ps) (fun x hx => rnd_lt hq hx) (fun x y _ _ h => rnd_inj hq h)
 obtain ⟨c, hc, hw⟩ := h4 n n1 (by omega)
 obtain ⟨k1, _, k3⟩ := itr_ok hl hp hc
 exact hw (plc_wh hl hp k1 k3 fun j hj hj' => by rw [itr_plc hl hp hc hj hj', hn _ (plc_lt hl (List.getElem_mem hj))])
end
end Go.Proofs.Ytmpjooneiaiffaa
/- Plain laws: the shuttles that picks throw, and the box moves, exactly. -/
set_option maxRecDepth 8000
namespace Go.Proofs.Ytmpjooneiaiffaa
open Go.RowKit
open Classical

noncomputable def thl : BoxLoom → List BoxPick → List Nat
 | _, [] => []
 | l, p :: ps => match oneL l p with
  | some (n, i, _) => i :: thl n ps
  | none => []
noncomputable def mvt : BoxLoom → List BoxPick → Int
 | _, [] => 0
 | l, p :: ps => match oneL l p with
  | some (n, _, m) => m + mvt n ps
  | none => 0
theorem thl_append : ∀ (a b : List BoxPick) {l n : BoxLoom}, thr l a = some n → thl l (a ++ b) = thl l a ++ thl n b
 | [], b, l, n, h => by cases h; rfl
 | p :: a, b, l, n, h => by
  rw [thr_cons] at h
  rw [List.cons_append, thl, thl]
  cases ho : oneL l p with
  | none => rw [ho] at h; cases h
  | some x => rw [ho] at h; exact congrArg (List.cons x.2.1) (thl_append a b h)
theorem mvt_append : ∀ (a b : List BoxPick) {l n : BoxLoom}, thr l a = some n → mvt l (a ++ b) = mvt l a + mvt n b
 | [], b, l, n, h => by cases h; exact (Int.zero_add _).symm
 | p :: a, b, l, n, h => by
  rw [thr_cons] at h
  rw [List.cons_append, mvt, mvt]
  cases ho : oneL l p with
  | none => rw [ho] at h; cases h
  | some x =>
   rw [ho] at h
   have := mvt_append a b h
   show x.2.2 + mvt x.1 (a ++ b) = x.2.2 + mvt x.1 a + mvt n b
   omega
theorem thl_step {l : BoxLoom} {ps : List BoxPick} {i : Nat} (h : i < ps.length) {n a : BoxLoom} {j : Nat} {m : Int} (hn : thr l (ps.take i) = some n) (ho : oneL n ps[i] = some (a, j, m)) :
  thl l (ps.take (i + 1)) = thl l (ps.take i) ++ [j] ∧ mvt l (ps.take (i + 1)) = mvt l (ps.take i) + m := by
 rw [take_succ h, thl_append _ _ hn, mvt_append _ _ hn]
 constructor
 ·rw [thl, ho]; rfl
 ·rw [mvt, ho]; show _ + (m + 0) = _; omega
theorem thl_fail {l : BoxLoom} {ps : List BoxPick} {i : Nat} (h : i < ps.length) {n : BoxLoom} (hn : thr l (ps.take i) = some n) (hf : oneL n ps[i] = none) : thl l ps = thl l (ps.take i) := by
 conv => lhs; rw [← List.take_append_drop i ps, List.drop_eq_getElem_cons h]
 rw [thl_append _ _ hn, thl, hf, List.append_nil]
theorem mvt_bound {l : BoxLoom} (hl : LOk l) {ps : List BoxPick} : (∀ p ∈ ps, okP l.Boxes p = true) → 0 ≤ mvt l ps ∧ mvt l ps ≤ 6 * ps.length := by
 induction ps generalizing l with
 | nil => intro _; exact ⟨by rw [mvt]; omega, by rw [mvt]; simp⟩
 | cons p ps ih =>
  intro hp
  rw [mvt]
  cases ho : oneL l p with
  | none => exact ⟨Int.le_refl _, by simp; omega⟩
  | some x =>
   obtain ⟨n, i, m⟩ := x
   obtain ⟨h1, h2, _, _, h5⟩ := oneL_ok hl (hp p (by simp)) ho
   have := ih h1 fun q hq => by rw [h2]; exact hp q (by simp [hq])
   show 0 ≤ m + mvt n ps ∧ m + mvt n ps ≤ 6 * ((ps.length + 1 : Nat) : Int)
   omega
theorem s76x {l : BoxLoom} (hl : LOk l) {r : BoxRace} (hr : Rel r l) {ps : List BoxPick} (hp : ∀ p ∈ ps, okP l.Boxes p = true) (hlen : ps.length ≤ 24) :
  Yes (f76 r ps) (fun x => match thr l ps with | some n => Rel x.1.last n ∧ x.1.thrown = (thl l ps).map (fun i : Nat => (i : Int) + 1) ∧ x.1.moves = mvt l ps ∧ x.2 = (0, 0) | none => x.2 = (((thl l ps).length : Int), 9)) := by
 unfold f76
 refine Yes.jn (Yes.upto ps.length (by omega) (fun i t => (∃ n, thr l (ps.take i) = some n ∧ Rel t.last n) ∧ t.thrown = (thl l (ps.take i)).map (fun i : Nat => (i : Int) + 1) ∧ t.thrown.length = i ∧ t.moves = mvt l (ps.take i)) ⟨⟨l, by simp [thr], hr⟩, by simp [thl], rfl, by simp [mvt]⟩ (fun i t k hi hI hk => ?_) (fun t k hI => ?_))
 ·obtain ⟨⟨n, h1, hrn⟩, h3, h2, h4⟩ := hI
  obtain ⟨k1, k2, _⟩ := thr_ok hl (fun p h => hp p (List.mem_of_mem_take h)) h1
  have hpi : okP n.Boxes ps[i] = true := by rw [k2]; exact hp _ (List.getElem_mem hi)
  refine qtake (by simp; omega) (Yes.jn (qbind _ (qidx hi) (Yes.bind ((s97 hrn k1 hpi).mono fun x hx => Yes.jn ?_))))
  cases ho : oneL n ps[i] with
  | none =>
   rw [ho] at hx
   have hx : x = (t.last, 0, 0) := hx
   subst hx
   refine qtake rfl (Yes.some ?_)
   rw [thr_fail hi h1 ho]
   show ((i : Int), (9 : Int)) = _
   rw [thl_fail hi h1 ho]
   have : (thl l (ps.take i)).length = i := by have := congrArg List.length h3; simpa [h2] using this.symm
   rw [this]
  | some y =>
   obtain ⟨n', j, m⟩ := y
   rw [ho] at hx
   obtain ⟨e1, e2, e3⟩ := hx
   obtain ⟨u1, u2⟩ := thl_step hi h1 ho
   have hb1 := mvt_bound hl (ps := ps.take (i + 1)) fun p h => hp p (List.mem_of_mem_take h)
   have hb2 : (ps.take (i + 1)).length ≤ 24 := by rw [List.length_take]; omega
   refine qskip (by rw [e2]; simp; omega) (Yes.jn (Yes.bind (Yes.apnd (by simp [h2]; omega) (by simp [h2]; omega) (hk _ ⟨⟨n', ?_, e1⟩, ?_, by simp [h2], ?_⟩))))
   ·rw [thr_step hi h1, ho]; rfl
   ·show t.thrown ++ [x.2.1] = _
    rw [u1, List.map_append, ← h3, e2]; rfl
   ·show w64 (t.moves + x.2.2) = _
    rw [h4, e3, ← u2, w64_id (by omega) (by omega)]
 ·obtain ⟨⟨n, h1, hrn⟩, h3, h2, h4⟩ := hI
  refine qskip (by simp) (Yes.some ?_)
  rw [List.take_length] at h1 h3 h4
  rw [h1]; exact ⟨hrn, h3, h4, rfl⟩
end Go.Proofs.Ytmpjooneiaiffaa
/- BoxRounds. -/
set_option maxRecDepth 8000
namespace Go.Proofs.Ytmpjooneiaiffaa
open Go.RowKit
open Classical

theorem s36n {l : BoxLoom} {ps : List BoxPick} (h : Sml l) (hp : ps.length = 0) (he : chkP l ps = 0) : f36 l ps = some (0, 7) := by
 refine Yes.eq ?_
 unfold f36
 exact qbind _ (s74 l ps h (by omega)) (Yes.jn (qskip (by rw [he]; rfl) (qtake (beq_iff_eq.2 (by omega)) (Yes.some rfl))))
end Go.Proofs.Ytmpjooneiaiffaa
/- Plain laws: what box.Throw answers. -/
set_option maxRecDepth 8000
namespace Go.Proofs.Ytmpjooneiaiffaa
open Go.RowKit
open Classical

def colr (l : BoxLoom) (i : Nat) : Int := (l.Shuttles[i]?.map (·.Colour)).getD 0
theorem colr_at {l : BoxLoom} {i : Nat} (h : i < l.Shuttles.length) : colr l i = l.Shuttles[i].Colour := by unfold colr; rw [List.getElem?_eq_getElem h]; rfl
theorem thr_same {ps : List BoxPick} : ∀ {l n : BoxLoom}, LOk l → (∀ p ∈ ps, okP l.Boxes p = true) → thr l ps = some n → ∀ {i : Nat} (h : i < l.Shuttles.length) (h' : i < n.Shuttles.length), n.Shuttles[i] = { l.Shuttles[i] with Side := n.Shuttles[i].Side, Box := n.Shuttles[i].Box } := by
 induction ps with
 | nil => intro l n _ _ h i h1 h2; cases h; rfl
 | cons p ps ih =>
  intro l n hl hp h i h1 h2
  rw [thr_cons] at h
  cases ho : oneL l p with
  | none => rw [ho] at h; cases h
  | some x =>
   obtain ⟨a, j, m⟩ := x
   rw [ho] at h
   obtain ⟨k1, k2, k3, _⟩ := oneL_ok hl (hp p (by simp)) ho
   have hia : i < a.Shuttles.length := by omega
   have := ih k1 (fun q hq => by rw [k2]; exact hp q (by simp [hq])) h hia h2
   rw [this]
   obtain ⟨_, _, _, h4⟩ := oneL_some hl.dst ho
   have key : ∀ s c, a.Shuttles = mv l.Shuttles j s c → ∀ s' c', ({ a.Shuttles[i] with Side := s', Box := c' } : BoxShuttle) = { l.Shuttles[i] with Side := s', Box := c' } := fun s c e s' c' => by
    have : a.Shuttles[i] = (mv l.Shuttles j s c)[i]'(by rw [mv_len]; exact h1) := by simp only [e]
    rw [this, mv_at _ h1]
    split <;> rfl
   rcases h4 with ⟨e, _⟩ | ⟨e, _⟩
   ·exact key _ _ e _ _
   ·exact key _ _ e _ _
theorem thl_lt {ps : List BoxPick} : ∀ {l : BoxLoom}, LOk l → (∀ p ∈ ps, okP l.Boxes p = true) → ∀ i ∈ thl l ps, i < l.Shuttles.length := by
 induction ps with
 | nil => intro l _ _ i h; rw [thl] at h; cases h
 | cons p ps ih =>
  intro l hl hp i h
  rw [thl] at h
  cases ho : oneL l p with
  | none => rw [ho] at h; cases h
  | some x =>
   obtain ⟨a, j, m⟩ := x
   rw [ho] at h
   obtain ⟨k1, k2, k3, k4, _⟩ := oneL_ok hl (hp p (by simp)) ho
   rcases List.mem_cons.1 h with rfl | h
   ·exact k4
   ·have := ih k1 (fun q hq => by rw [k2]; exact hp q (by simp [hq])) i h
    omega
theorem thl_len {ps : List BoxPick} : ∀ {l : BoxLoom}, (thl l ps).length ≤ ps.length := by
 induction ps with
 | nil => intro l; rw [thl]; exact Nat.le_refl _
 | cons p ps ih =>
  intro l
  rw [thl]
  cases ho : oneL l p with
  | none => exact Nat.zero_le _
  | some x => exact Nat.succ_le_succ ih
theorem loom_eta {l n : BoxLoom} (hn : LOk n) (hb : n.Boxes = l.Boxes) : (⟨l.Boxes, [n.At.getD 0 0, n.At.getD 1 0], n.Shuttles⟩ : BoxLoom) = n := by
 obtain ⟨B, A, S⟩ := n
 have h := hn.len.2
 simp only at hb h
 subst hb
 match A, h with
 | [a, b], _ => rfl
theorem s70 {l : BoxLoom} {ps : List BoxPick} (hl : LOk l) (hp : ∀ p ∈ ps, okP l.Boxes p = true) (hlen : ps.length ≤ 24) :
  Yes (f70 l ps) (fun x => x.1 = ⟨l⟩ ∧ match thr l ps with | some n => Rel x.2.1.last n ∧ x.2.1.thrown = (thl l ps).map (fun i : Nat => (i : Int) + 1) ∧ x.2.1.moves = mvt l ps ∧ x.2.2 = (0, 0) | none => x.2.2 = (((thl l ps).length : Int), 9)) := by
 have hck : chkP l ps = 0 := by
  unfold chkP; rw [if_neg (fun h => h (chk0.2 hl)), if_neg (by omega), if_neg (fun h => h hp)]
 unfold f70
 refine Yes.jn (qbind _ (s74 l ps hl.sml (by omega)) (qskip (by rw [hck]; rfl) (Yes.bind ((s54 hl).mono fun r hr => Yes.bind ((s76x hl hr hp hlen).mono fun x hx => Yes.some ⟨rfl, hx⟩)))))
theorem s40 {l : BoxLoom} {ps : List BoxPick} (hl : LOk l) (hp : ∀ p ∈ ps, okP l.Boxes p = true) (hlen : ps.length ≤ 24) :
  f40 l ps = some (match thr l ps with | some n => ((thl l ps).map (colr l), n, mvt l ps, 0, 0) | none => ([], ⟨[], [], []⟩, 0, ((thl l ps).length : Int), 9)) := by
 refine Yes.eq ?_
 unfold f40
 refine Yes.bind ((s70 hl hp hlen).mono fun y hy => Yes.jn ?_)
 obtain ⟨y1, hy⟩ := hy
 cases ht : thr l ps with
 | none =>
  rw [ht] at hy
  have hy : y.2.2 = (((thl l ps).length : Int), 9) := hy
  refine qtake (by rw [hy]; rfl) (Yes.some ?_)
  rw [hy]
 | some n =>
  rw [ht] at hy
  obtain ⟨e1, e2, e3, e4⟩ := hy
  obtain ⟨k1, k2, k3⟩ := thr_ok hl hp ht
  have hfew := hl.few
  have htl := thl_lt hl hp
  have hll := thl_len (l := l) (ps := ps)
  have hnd : ∀ {i : Nat} (h : i < l.Shuttles.length) (h' : i < n.Shuttles.length), n.Shuttles[i] = { l.Shuttles[i] with Side := n.Shuttles[i].Side, Box := n.Shuttles[i].Box } := fun h h' => thr_same hl hp ht h h'
  refine qskip (by rw [e4]; rfl) ?_
  show Yes (Option.bind _ _) _
  rw [y1, e2]
  refine Yes.bind (Yes.upto (thl l ps).length (by omega) (fun i t => t = ((thl l ps).take i).map (colr l)) (by simp) (fun i t k hi hI hk => ?_) (fun t k hI => ?_))
  ·have hti := htl _ (List.getElem_mem hi)
   refine qtake (by simp; omega) (Yes.bind (qbind ((((thl l ps)[i] : Nat) : Int) + 1) (by rw [qidx (by simpa using hi)]; simp) (qbind (l.Shuttles[(thl l ps)[i]]) (by rw [w64_id (by omega) (by omega), show (((thl l ps)[i] : Nat) : Int) + 1 - 1 = (((thl l ps)[i] : Nat) : Int) by omega]; exact qidx hti) (Yes.bind (Yes.apnd ?_ ?_ (Yes.some (hk _ ?_)))))))
   ·rw [hI]; simp; omega
   ·rw [hI]; simp; omega
   ·rw [take_succ hi, List.map_append, ← hI, List.map_cons, List.map_nil, colr_at hti]
  ·refine qskip (by simp) (Yes.some ?_)
   rw [List.take_length] at hI
   subst hI
   refine qbind l.Boxes (show apnd 8 [] l.Boxes = _ by have := hl.len.1; unfold apnd; rw [if_pos (by simp; omega)]; rfl) (qbind l.Shuttles (show apnd 40 [] l.Shuttles = _ by unfold apnd; rw [if_pos (by simp; omega)]; rfl) (Yes.bind ?_))
   -- the places
   let I : Nat → BoxLoom → Prop := fun m q => q.Boxes = l.Boxes ∧ q.At = [n.At.getD 0 0, n.At.getD 1 0] ∧ q.Shuttles.length = l.Shuttles.length ∧ ∀ i (h1 : i < q.Shuttles.length) (h2 : i < n.Shuttles.length) (h3 : i < l.Shuttles.length), (plc n.Shuttles[i] < m → q.Shuttles[i] = n.Shuttles[i]) ∧ (¬ plc n.Shuttles[i] < m → q.Shuttles[i] = l.Shuttles[i])
   refine Yes.upto 2 (by omega) (fun s q => I (4 * s) q) ⟨rfl, by rw [e1.at_], rfl, fun i h1 h2 h3 => ⟨fun h => absurd h (by omega), fun _ => rfl⟩⟩ (fun s q k hs hI hk => ?_) (fun q k hI => ?_)
   ·refine qtake (by simp; omega) (Yes.bind (qbind _ (vidx _ hs) (Yes.upto 4 (by omega) (fun b q => I (4 * s + b) q) hI (fun b q k hb hI hk2 => ?_) (fun q k2 hI => ?_))))
    ·obtain ⟨j1, j2, j3, j4⟩ := hI
     have hbx := e1.bx s b hs hb
     refine qtake (by simp; omega) (Yes.bind (qbind _ (vidx _ hb) ?_))
     rcases inX_cases k1.dst s b with ⟨i, hi, e⟩ | ⟨hi, e⟩
     ·rw [e] at hbx
      obtain ⟨hin, hp1⟩ := isAt_plc k1 hi
      have hil : i < l.Shuttles.length := by omega
      have hiq : i < q.Shuttles.length := by omega
      simp only [Int.toNat_natCast] at hp1
      have hw : w64 ((y.2.1).last.boxes[s][b] - 1) = (i : Int) := by rw [hbx, w64_id (by omega) (by omega)]; omega
      refine qtake (decide_eq_true (by rw [hbx]; omega)) ?_
      rw [hw]
      refine qbind _ (qidx hiq) (qbind { q.Shuttles[i] with Side := (s : Int) } ?_ (Yes.some (hk2 _ ⟨j1, j2, ?_, fun a h1 h2 h3 => ?_⟩)))
      ·rw [Int.toNat_natCast]
       show idx (q.Shuttles.set i _) (i : Int) = _
       rw [qidx (by rw [List.length_set]; exact hiq), List.getElem_set_self]
      ·simp only [List.length_set]; exact j3
      ·have hset : (q.Shuttles.set i { q.Shuttles[i] with Side := (s : Int) }).set i { { q.Shuttles[i] with Side := (s : Int) } with Box := (b : Int) } = mv q.Shuttles i s b := set_set hiq s b
       have haq : a < q.Shuttles.length := by omega
       have hval : ∀ (h1' : a < (mv q.Shuttles i s b).length), (plc n.Shuttles[a] < 4 * s + (b + 1) → (mv q.Shuttles i s b)[a] = n.Shuttles[a]) ∧ (¬ plc n.Shuttles[a] < 4 * s + (b + 1) → (mv q.Shuttles i s b)[a] = l.Shuttles[a]) := fun h1' => by
        rw [mv_at h1' haq]
        by_cases hia : i = a
        ·subst hia
         rw [if_pos rfl, (j4 i hiq h2 h3).2 (by omega), hnd h3 h2, hi.2.1, hi.2.2]
         exact ⟨fun _ => rfl, fun h => absurd hp1 (by rw [hnd h3 h2, hi.2.1, hi.2.2] at hp1 ⊢; omega)⟩
        ·rw [if_neg hia]
         have hne : plc n.Shuttles[a] ≠ 4 * s + b := fun h => hia (k1.dst.one hi (plc_isAt k1 hs hb h2 (by omega)))
         exact ⟨fun h => (j4 a haq h2 h3).1 (by omega), fun h => (j4 a haq h2 h3).2 (by omega)⟩
       have := hval (by rw [mv_len]; exact haq)
       simpa only [Int.toNat_natCast, hset] using this
     ·rw [e] at hbx
      refine qskip (decide_eq_false (by rw [hbx]; omega)) (Yes.some (hk2 _ ⟨j1, j2, j3, fun a h1 h2 h3 => ?_⟩))
      have hne : plc n.Shuttles[a] ≠ 4 * s + b := fun h => hi ⟨a, plc_isAt k1 hs hb h2 (by omega)⟩
      exact ⟨fun h => (j4 a h1 h2 h3).1 (by omega), fun h => (j4 a h1 h2 h3).2 (by omega)⟩
    ·exact qskip (by simp) (Yes.some (hk _ (by rw [show 4 * (s + 1) = 4 * s + 4 by omega]; exact hI)))
   ·obtain ⟨j1, j2, j3, j4⟩ := hI
    refine qskip (by simp) (Yes.some (Yes.some ?_))
    have hq : q = n := by
     rw [← loom_eta k1 k2]
     obtain ⟨B, A, S⟩ := q
     simp only at j1 j2 j3 j4
     subst j1; subst j2
     have : S = n.Shuttles := List.ext_getElem (by omega) fun i h1 h2 => (j4 i h1 h2 (by omega)).1 (by have := plc_lt k1 (List.getElem_mem h2); omega)
     rw [this]
    rw [hq, e3]
end Go.Proofs.Ytmpjooneiaiffaa
