/- Plain laws: the error of a piece, what it earns, its fines and its wage. -/
import Derived.Test.YtkmbkaoolacofaaGreatLawA
set_option maxRecDepth 8000
namespace Go.Proofs.YtkmbkaoolacofaaGreat
open Go.RowKit
open Classical

theorem s124 (x y : Int) : f124 x y = some (decide (x < y)) := by
 have h : ∀ z, f101 z = some false := fun z => by simp [f101]
 unfold f124
 rw [h]; rfl
theorem s77 (x y : Int) : f77 x y = some (if x < y then -1 else if y < x then 1 else 0) := by
 have h : ∀ z, f101 z = some false := fun z => by simp [f101]
 unfold f77
 rw [h, h]
 simp only [Option.bind_some, jn, cond_false]
 by_cases h1 : x < y
 ·simp [h1]
 ·by_cases h2 : y < x
  ·simp [h1, h2]
  ·simp [h1, h2]
theorem s104 (r : PayRate) (y : Int) : f104 r y = some (if r.From < y then -1 else if y < r.From then 1 else 0) := by unfold f104; rw [s77]; rfl
def asc (xs : List Int) : Prop := ∀ i (h : i + 1 < xs.length), xs[i] < xs[i + 1]
open Go.Lib in
theorem compact_asc {xs : List Int} (h : asc xs) : Lib.compact xs = xs := by
 refine compact_all xs fun j hj => ?_
 unfold keeps
 rw [decide_eq_true_eq]
 by_cases h0 : j = 0
 ·exact .inl h0
 ·right
  have h1 := h (j - 1) (by omega)
  have e : j - 1 + 1 = j := by omega
  simp only [e] at h1
  rw [getElem!_pos _ j (by simpa using hj), getElem!_pos _ (j - 1) (by simp; omega)]
  simp only [List.getElem_toArray]
  omega
open Go.Lib in
theorem compact_dup {xs : List Int} {j : Nat} (hj : j < xs.length) (h0 : 0 < j) (he : xs[j] = xs[j - 1]'(by omega)) : (Lib.compact xs).length < xs.length := by
 unfold compact compactUpTo
 rw [List.length_map, ← List.countP_eq_length_filter]
 have h1 : List.countP (keeps xs.toArray) (List.range xs.length) ≤ (List.range xs.length).length := List.countP_le_length
 rw [List.length_range] at h1
 rcases Nat.lt_or_eq_of_le h1 with h2 | h2
 ·exact h2
 ·have h3 := List.countP_eq_length.1 (h2.trans (List.length_range).symm) j (List.mem_range.2 hj)
  unfold keeps at h3
  rw [decide_eq_true_eq] at h3
  rcases h3 with h3 | h3
  ·omega
  ·exact absurd (by rw [getElem!_pos _ j (by simpa using hj), getElem!_pos _ (j - 1) (by simp; omega)]; simpa using he) h3
def srt (xs : List Int) : Prop := ∀ i (h : i + 1 < xs.length), xs[i] ≤ xs[i + 1]
theorem s116g {xs : List Int} (hl : xs.length ≤ 1000000) : f116 xs = some (decide (srt xs)) := by
 refine Yes.eq ?_
 unfold f116
 refine Yes.jn ?_
 rw [qw64 (n := (xs.length : Int) - 1) (by omega) (by omega)]
 refine Yes.lp (fun s => -1 ≤ s ∧ s ≤ (xs.length : Int) - 1 ∧ ∀ i (h : i + 1 < xs.length), s < (i : Int) + 1 → xs[i] ≤ xs[i + 1]) (fun s => (s + 1).toNat) ⟨by omega, by omega, fun i h h2 => absurd h2 (by omega)⟩ (by simp; omega) ?_
 rintro s k ⟨h1, h2, h5⟩ hk
 refine Yes.jn (Yes.cond (fun h3 => ?_) (fun h3 => Yes.some ?_))
 ·have h0 : 0 < s := by simpa using h3
  refine Yes.jn (Yes.bind (Yes.idx (n := s.toNat) (by omega) (by omega) ?_))
  rw [qw64 (n := s - 1) (by omega) (by omega)]
  refine Yes.bind (Yes.idx (n := s.toNat - 1) (by omega) (by omega) ?_)
  have e : s.toNat - 1 + 1 = s.toNat := by omega
  refine qbind _ (s124 _ _) (Yes.cond (fun h6 => Yes.some ?_) (fun h6 => hk _ ⟨by omega, by omega, fun i hi hs => ?_⟩ (by omega)))
  ·rw [eq_comm, decide_eq_false_iff_not]
   intro hc
   have := hc (s.toNat - 1) (by omega)
   simp only [e] at this
   simp at h6; omega
  ·by_cases hq : i + 1 = s.toNat
   ·have hi' : i = s.toNat - 1 := by omega
    subst hi'
    simp only [e]
    simp at h6; omega
   ·exact h5 i hi (by omega)
 ·have h0 : s ≤ 0 := by simpa using h3
  rw [eq_comm, decide_eq_true_eq]
  exact fun i hi => h5 i hi (by omega)
theorem not_asc {xs : List Int} (h : ¬ asc xs) : ∃ i, ∃ h : i + 1 < xs.length, ¬ (xs[i]'(Nat.lt_of_succ_lt h) < xs[i + 1]) := by
 obtain ⟨i, hi⟩ := Classical.not_forall.1 h
 obtain ⟨hi, hn⟩ := Classical.not_forall.1 hi
 exact ⟨i, hi, hn⟩
theorem s102g {xs : List Int} (hl : xs.length ≤ 1000000) : f102 xs = some (decide (asc xs)) := by
 refine Yes.eq ?_
 unfold f102
 refine Yes.bind (qbind _ (s116g hl) (Yes.cond (fun h => ?_) (fun h => Yes.some (Yes.some ?_))))
 ·have hs : srt xs := by simpa using h
  refine qbind xs (Yes.eq (by unfold f111; exact Yes.apnd (by simp; omega) (by simp; omega) (by simp))) ?_
  refine qbind ((Lib.compact xs).length : Int) (by unfold f117 compactN; rw [if_pos (by omega)]) (Yes.some (Yes.some ?_))
  rw [Int.toNat_natCast]
  by_cases ha : asc xs
  ·rw [compact_asc ha]; simp [ha]
  ·obtain ⟨i, hi, hn⟩ := not_asc ha
   have h2 := hs i hi
   have := compact_dup (j := i + 1) hi (Nat.succ_pos i) (Int.le_antisymm (Int.not_lt.1 hn) h2)
   rw [show decide (asc xs) = false from by simp [ha]]
   clear hs ha hn h2 hl
   simp; omega
 ·have hs : ¬ srt xs := by simpa using h
  rw [eq_comm, decide_eq_false_iff_not]
  exact fun ha => hs fun i hi => Int.le_of_lt (ha i hi)
theorem s102 {xs : List Int} (h : asc xs) (hl : xs.length ≤ 1000000) : f102 xs = some true := by rw [s102g hl, decide_eq_true h]

/-! ### Pieces -/
def okPiece (l : PayList) (p : PayPiece) : Prop := btw 0 50 p.Weaver = true ∧ btw 0 1000 p.Dense = true ∧ btw 0 1000000 p.Picks = true ∧ btw 0 100 p.Faults = true ∧ (∀ x ∈ p.Extras, 0 ≤ x ∧ x < (l.Extras.length : Int)) ∧ asc p.Extras
theorem s79 {l : PayList} {p : PayPiece} (h : okPiece l p) (h1 : p.Extras.length ≤ 1000) (h2 : l.Extras.length ≤ 1000) : f79 ⟨l⟩ p = some 0 := by
 obtain ⟨ha, hb, hc, hd, he, hf⟩ := h
 refine Yes.eq ?_
 unfold f79
 refine Yes.jn (Yes.bind (Yes.mono (Q' := fun r => r = false) ?_ fun r hr => ?_))
 ·simp only [s54_one, ha, hb, hc, hd]; exact Yes.some rfl
 ·subst hr
  refine qskip rfl ?_
  rw [qw64 (n := (l.Extras.length : Int) - 1) (by omega) (by omega), s54 _ _ _ (by omega)]
  have hall : p.Extras.all (btw 0 ((l.Extras.length : Int) - 1)) = true := List.all_eq_true.2 fun x hx => btw_iff.2 (by have := he x hx; omega)
  rw [hall]
  exact Yes.bind (Yes.some (qskip rfl (qbind _ (s102 hf (by omega)) (qskip rfl (Yes.some rfl)))))
structure LOk (l : PayList) : Prop where
 ok : okList l
 r6 : l.Rates.length ≤ 6
 e8 : l.Extras.length ≤ 8
theorem LOk.chk {l : PayList} (h : LOk l) : chkL l = 0 := by
 have : ¬ long6 l := fun hl => by have := h.r6; have := h.e8; unfold long6 at hl; omega
 unfold chkL; rw [if_neg this, if_pos h.ok]
theorem s55 {l : PayList} {p : PayPiece} (h : LOk l) (hp : okPiece l p) (h1 : p.Extras.length ≤ 1000) : f55 l p = some (⟨l⟩, 0) := by
 have := h.r6; have := h.e8
 refine Yes.eq ?_
 unfold f55
 refine Yes.jn (qbind _ (s15 l (by omega) (by omega)) (qskip (by rw [h.chk]; rfl) (qbind _ (s79 hp h1 (by omega)) (Yes.some rfl))))

/-! ### What a piece earns -/
def rateF (d : Int) (a : Int) (r : PayRate) : Int := if r.From ≤ d then r.Rate else a
def rateL (rs : List PayRate) (d : Int) : Int := rs.foldl (rateF d) 0
def partF (ex : List Int) (a x : Int) : Int := a + ex.getD x.toNat 0
def partL (ex xs : List Int) : Int := xs.foldl (partF ex) 1000
def earnL (l : PayList) (p : PayPiece) : Int := p.Picks * rateL l.Rates p.Dense * partL l.Extras p.Extras / 1000000
def fineL (l : PayList) (e n : Int) : Int := min (n * l.Fine) (e * l.Cap / 1000)
def wageL (l : PayList) (p : PayPiece) (n : Int) : Int := earnL l p - fineL l (earnL l p) n
theorem rate_bound' (d : Int) : ∀ (rs : List PayRate) (a : Int), (∀ r ∈ rs, btw 0 10000 r.Rate = true) → 0 ≤ a ∧ a ≤ 10000 → 0 ≤ rs.foldl (rateF d) a ∧ rs.foldl (rateF d) a ≤ 10000
 | [], a, _, h => h
 | r :: rs, a, hr, h => by
  rw [List.foldl_cons]
  refine rate_bound' d rs _ (fun x hx => hr x (by simp [hx])) ?_
  have := btw_iff.1 (hr r (by simp))
  unfold rateF; split <;> omega
theorem rate_bound {l : PayList} (h : LOk l) (d : Int) : 0 ≤ rateL l.Rates d ∧ rateL l.Rates d ≤ 10000 :=
 rate_bound' d _ 0 (fun r hr => by obtain ⟨i, hi, rfl⟩ := List.getElem_of_mem hr; exact (h.ok.1 i hi).2.1) ⟨by omega, by omega⟩
theorem ex_at {l : PayList} (h : LOk l) {x : Int} (hx : 0 ≤ x ∧ x < (l.Extras.length : Int)) : idx l.Extras x = some (l.Extras.getD x.toNat 0) ∧ 0 ≤ l.Extras.getD x.toNat 0 ∧ l.Extras.getD x.toNat 0 ≤ 1000 := by
 have hl : x.toNat < l.Extras.length := by omega
 rw [List.getD_eq_getElem?_getD, List.getElem?_eq_getElem hl, Option.getD_some]
 refine ⟨?_, btw_iff.1 (h.ok.2.1 _ (List.getElem_mem hl))⟩
 unfold idx; rw [if_pos hx.1]; exact List.getElem?_eq_getElem hl
theorem part_bound' {l : PayList} (h : LOk l) : ∀ (xs : List Int) (a : Int), (∀ x ∈ xs, 0 ≤ x ∧ x < (l.Extras.length : Int)) → 0 ≤ a → a ≤ xs.foldl (partF l.Extras) a ∧ xs.foldl (partF l.Extras) a ≤ a + 1000 * xs.length
 | [], a, _, h => by simp
 | x :: xs, a, hx, h0 => by
  obtain ⟨_, h1, h2⟩ := ex_at h (hx x (by simp))
  rw [List.foldl_cons]
  have := part_bound' h xs (partF l.Extras a x) (fun y hy => hx y (by simp [hy])) (by unfold partF; omega)
  unfold partF at this ⊢
  simp only [List.length_cons]
  omega
theorem part_bound {l : PayList} (h : LOk l) {xs : List Int} (hx : ∀ x ∈ xs, 0 ≤ x ∧ x < (l.Extras.length : Int)) (hl : xs.length ≤ 1000) : 1000 ≤ partL l.Extras xs ∧ partL l.Extras xs ≤ 1001000 := by
 have := part_bound' h xs 1000 hx (by omega)
 unfold partL; omega
theorem take_fold {α β : Type} (F : β → α → β) (xs : List α) (a : β) {i : Nat} (hi : i < xs.length) : (xs.take (i + 1)).foldl F a = F ((xs.take i).foldl F a) xs[i] := by
 rw [List.take_succ_eq_append_getElem hi, List.foldl_append]; rfl
theorem mul_le {a b A B : Int} (ha : 0 ≤ a) (hA : a ≤ A) (hb : 0 ≤ b) (hB : b ≤ B) : 0 ≤ a * b ∧ a * b ≤ A * B :=
 ⟨Int.mul_nonneg ha hb, Int.mul_le_mul hA hB hb (Int.le_trans ha hA)⟩
theorem earn_all {l : PayList} {p : PayPiece} (h : LOk l) (hp : okPiece l p) (h1 : p.Extras.length ≤ 1000) :
  (0 ≤ p.Picks * rateL l.Rates p.Dense ∧ p.Picks * rateL l.Rates p.Dense ≤ 10000000000) ∧ (0 ≤ p.Picks * rateL l.Rates p.Dense * partL l.Extras p.Extras ∧ p.Picks * rateL l.Rates p.Dense * partL l.Extras p.Extras ≤ 10010000000000000) ∧ 0 ≤ earnL l p ∧ earnL l p ≤ 10010000000 := by
 have hr := rate_bound h p.Dense
 have hq := part_bound h hp.2.2.2.2.1 h1
 have hk := btw_iff.1 hp.2.2.1
 have e1 := mul_le hk.1 hk.2 hr.1 hr.2
 have e2 := mul_le e1.1 e1.2 (by omega) hq.2
 refine ⟨⟨e1.1, by omega⟩, ⟨e2.1, by omega⟩, ?_⟩
 unfold earnL; omega
/-! ### The rate by halves -/
theorem half_is {a b : Nat} (h : a + b < 4611686018427387904) {β : Type} {K : Int → Option β} {Q : β → Prop} (hk : Yes (K (((a + b) / 2 : Nat) : Int)) Q) : Yes ((shr64 (wu64 (w64 ((a : Int) + (b : Int)))) (1 : Int)).bind K) Q := by
 refine Yes.bind (Yes.of (a := (((a + b) / 2 : Nat) : Int)) ?_ hk)
 rw [w64_id (by omega) (by omega), show ((a : Int) + (b : Int)) = ((a + b : Nat) : Int) by omega, wu64_id (by omega) (by omega)]
 unfold shr64
 rw [if_neg (by omega)]
 congr 1
 show Int.fdiv _ (2 ^ (min (Int.toNat 1) 64)) = _
 rw [show min (Int.toNat 1) 64 = 1 by decide, Int.pow_one]
 rw [Int.fdiv_eq_ediv_of_nonneg _ (by omega)]; omega
theorem s103 {rs : List PayRate} (d : Int) (hl : rs.length ≤ 1000) (hs : ∀ i j (hi : i < rs.length) (hj : j < rs.length), i < j → rs[i].From < rs[j].From) :
  Yes (f103 rs d (fun a0 a1 => f104 a0 a1)) fun r => ∃ m : Nat, m ≤ rs.length ∧ (∀ j (h : j < rs.length), j < m → rs[j].From < d) ∧ (∀ j (h : j < rs.length), m ≤ j → d ≤ rs[j].From) ∧ r = ((m : Int), decide (∃ h : m < rs.length, rs[m].From = d)) := by
 unfold f103
 refine Yes.bind (Yes.mono (Q' := fun r => ∃ m : Nat, m ≤ rs.length ∧ (∀ j (h : j < rs.length), j < m → rs[j].From < d) ∧ (∀ j (h : j < rs.length), m ≤ j → d ≤ rs[j].From) ∧ r = (m : Int)) ?_ fun r hr => ?_)
 ·refine Yes.lp (fun s => ∃ a b : Nat, s = ((a : Int), (b : Int)) ∧ a ≤ b ∧ b ≤ rs.length ∧ (∀ j (h : j < rs.length), j < a → rs[j].From < d) ∧ (∀ j (h : j < rs.length), b ≤ j → d ≤ rs[j].From)) (fun s => (s.2 - s.1).toNat)
   ⟨0, rs.length, rfl, Nat.zero_le _, Nat.le_refl _, fun _ _ h => absurd h (Nat.not_lt_zero _), fun j h h2 => absurd h (by omega)⟩ (by simp; omega) ?_
  rintro ⟨s, t⟩ k ⟨a, b, he, hab, hb, h1, h2⟩ hk
  injection he with e1 e2; subst e1; subst e2
  refine Yes.jn (Yes.cond (fun h3 => ?_) (fun h3 => Yes.some ?_))
  ·have hlt : a < b := by simp at h3; omega
   have hm : (a + b) / 2 < rs.length := by omega
   refine half_is (by omega) ?_
   rw [w64_id (n := (((a + b) / 2 : Nat) : Int)) (by omega) (by omega)]
   refine Yes.bind (Yes.idx rfl hm ?_)
   refine qbind _ (s104 _ _) (Yes.cond (fun h4 => ?_) (fun h4 => ?_))
   ·have hd : rs[(a + b) / 2].From < d := by
     by_cases hc : rs[(a + b) / 2].From < d
     ·exact hc
     ·rw [if_neg hc] at h4; split at h4 <;> simp at h4
    rw [w64_id (n := (((a + b) / 2 : Nat) : Int) + 1) (by omega) (by omega)]
    refine hk _ ⟨(a + b) / 2 + 1, b, by simp, by omega, hb, fun j hj hjm => ?_, h2⟩ (by simp; omega)
    rcases Nat.lt_succ_iff_lt_or_eq.1 hjm with h | rfl
    ·have := hs j _ hj hm h; omega
    ·exact hd
   ·have hd : d ≤ rs[(a + b) / 2].From := by
     by_cases hc : rs[(a + b) / 2].From < d
     ·rw [if_pos hc] at h4; simp at h4
     ·omega
    refine hk _ ⟨a, (a + b) / 2, rfl, by omega, by omega, h1, fun j hj hjm => ?_⟩ (by simp; omega)
    rcases Nat.eq_or_lt_of_le hjm with h | h
    ·subst h; exact hd
    ·have := hs _ j hm hj h; omega
  ·have : a = b := by simp at h3; omega
   subst this
   exact ⟨a, hb, h1, h2, rfl⟩
 ·obtain ⟨m, hm, h1, h2, rfl⟩ := hr
  refine Yes.bind (Yes.cond (fun h3 => ?_) (fun h3 => Yes.some (Yes.some ⟨m, hm, h1, h2, ?_⟩)))
  ·have hlt : m < rs.length := by simp at h3; omega
   refine Yes.bind (Yes.idx rfl hlt ?_)
   refine qbind _ (s104 _ _) (Yes.some (Yes.some ⟨m, hm, h1, h2, ?_⟩))
   have hd := h2 m hlt (Nat.le_refl _)
   congr 1
   rw [if_neg (by omega)]
   by_cases hc : d < rs[m].From
   ·rw [if_pos hc, eq_comm]
    have : ¬ ∃ h : m < rs.length, rs[m].From = d := fun ⟨_, he⟩ => by omega
    simp [this]
   ·rw [if_neg hc, eq_comm]
    have : ∃ h : m < rs.length, rs[m].From = d := ⟨hlt, by omega⟩
    simp [this]
  ·have hn : ¬ m < rs.length := by simp at h3; omega
   congr 1
   have : ¬ ∃ h : m < rs.length, rs[m].From = d := fun ⟨h, _⟩ => hn h
   simp [this]
theorem rates_asc {rs : List PayRate} (h : okRates rs) : ∀ i j (hi : i < rs.length) (hj : j < rs.length), i < j → rs[i].From < rs[j].From := by
 intro i j hi hj hij
 induction j with
 | zero => omega
 | succ j ih =>
  have h1 := (h (j + 1) hj).2.2.2 (by omega)
  simp only [Nat.add_sub_cancel] at h1
  rcases Nat.lt_succ_iff_lt_or_eq.1 hij with h2 | rfl
  ·have := ih (by omega) h2; omega
  ·exact h1
theorem fold_none (d : Int) : ∀ (rs : List PayRate) (a : Int), (∀ r ∈ rs, ¬ r.From ≤ d) → rs.foldl (rateF d) a = a
 | [], _, _ => rfl
 | r :: rs, a, h => by
  rw [List.foldl_cons]
  rw [show rateF d a r = a by unfold rateF; rw [if_neg (h r (by simp))]]
  exact fold_none d rs a fun x hx => h x (by simp [hx])
theorem rate_at {rs : List PayRate} {d : Int} {e : Nat} (he : e < rs.length) (h1 : rs[e].From ≤ d) (h2 : ∀ j (h : j < rs.length), e < j → d < rs[j].From) : rateL rs d = rs[e].Rate := by
 unfold rateL
 have key : rs.foldl (rateF d) 0 = (rs.take (e + 1) ++ rs.drop (e + 1)).foldl (rateF d) 0 := by rw [List.take_append_drop]
 rw [key, List.foldl_append, take_fold _ _ _ he, fold_none]
 ·unfold rateF; rw [if_pos h1]
 ·intro r hr
  obtain ⟨j, hj, rfl⟩ := List.getElem_of_mem hr
  rw [List.getElem_drop]
  rw [List.length_drop] at hj
  have := h2 (e + 1 + j) (by omega) (by omega)
  omega
theorem s80 {l : PayList} (h : LOk l) {d : Int} (hd : 0 ≤ d) : f80 ⟨l⟩ d = some (rateL l.Rates d) := by
 have h6 := h.r6
 have h0 := h.ok.2.2.1
 have hz := (h.ok.1 0 h0).2.2.1 rfl
 refine Yes.eq ?_
 unfold f80
 dsimp only
 refine Yes.bind (Yes.mono (s103 d (by omega) (rates_asc h.ok.1)) fun r hr => ?_)
 obtain ⟨m, hm, h1, h2, rfl⟩ := hr
 simp only
 by_cases hf : ∃ h : m < l.Rates.length, l.Rates[m].From = d
 ·rw [decide_eq_true hf]
  obtain ⟨hm2, he⟩ := hf
  refine Yes.bind (qskip rfl (Yes.some (Yes.bind (Yes.idx rfl hm2 (Yes.some ?_)))))
  rw [rate_at hm2 (by omega) fun j hj hjm => by have := rates_asc h.ok.1 m j hm2 hj hjm; omega]
 ·rw [decide_eq_false hf]
  have hmp : 0 < m := by
   rcases Nat.eq_zero_or_pos m with rfl | h3
   ·have := h2 0 h0 (Nat.le_refl _)
    exact absurd ⟨h0, by omega⟩ hf
   ·exact h3
  rw [w64_id (n := (m : Int) - 1) (by omega) (by omega)]
  refine Yes.bind (qtake rfl (Yes.some (Yes.bind (Yes.idx (n := m - 1) (by omega) (by omega) (Yes.some ?_)))))
  rw [rate_at (e := m - 1) (by omega) (by have := h1 (m - 1) (by omega) (by omega); omega) fun j hj hjm => ?_]
  have h3 := h2 j hj (by omega)
  rcases Nat.eq_or_lt_of_le (show m ≤ j by omega) with h4 | h4
  ·subst h4
   rcases Int.lt_or_eq_of_le h3 with h5 | h5
   ·exact h5
   ·exact absurd ⟨hj, h5.symm⟩ hf
  ·have := rates_asc h.ok.1 m j (by omega) hj h4
   have := h2 m (by omega) (Nat.le_refl _)
   omega
theorem s56 {l : PayList} {p : PayPiece} (h : LOk l) (hp : okPiece l p) (h1 : p.Extras.length ≤ 1000) : f56 ⟨l⟩ p = some (earnL l p) := by
 obtain ⟨e1, e2, _⟩ := earn_all h hp h1
 refine Yes.eq ?_
 unfold f56
 refine Yes.bind (Yes.mono (Q' := fun r => r = partL l.Extras p.Extras) ?_ fun r hr => ?_)
 ·refine Yes.upto p.Extras.length (by omega) (fun i s => s = (p.Extras.take i).foldl (partF l.Extras) 1000) rfl (fun i s k hi hI hk => ?_) (fun s k hI => ?_)
  ·have hx := ex_at h (hp.2.2.2.2.1 _ (List.getElem_mem hi))
   have hb := part_bound' h (p.Extras.take i) 1000 (fun x hx => hp.2.2.2.2.1 x (List.mem_of_mem_take hx)) (by omega)
   rw [← hI, List.length_take] at hb
   refine qtake (by simp; omega) (Yes.bind (Yes.bind (Yes.idx rfl hi (qbind _ hx.1 (Yes.some ?_)))))
   rw [qw64 (by omega) (by omega)]
   refine hk _ ?_
   rw [take_fold _ _ _ hi, ← hI]; rfl
  ·refine qskip (by simp) (Yes.some ?_)
   rw [hI, List.take_length]; rfl
 ·subst hr
  refine qbind _ (s80 h (btw_iff.1 hp.2.1).1) ?_
  rw [w64_id (n := p.Picks * rateL l.Rates p.Dense) (by omega) (by omega), w64_id (n := p.Picks * rateL l.Rates p.Dense * partL l.Extras p.Extras) (by omega) (by omega), quo_nn e2.1 (by omega) (by omega)]
  exact Yes.bind (Yes.some (Yes.some rfl))
theorem fine_all {l : PayList} (h : LOk l) {e n : Int} (he : 0 ≤ e ∧ e ≤ 10010000000) (hn : 0 ≤ n ∧ n ≤ 100) : (0 ≤ n * l.Fine ∧ n * l.Fine ≤ 100000) ∧ (0 ≤ e * l.Cap ∧ e * l.Cap ≤ 10010000000000) ∧ e * l.Cap / 1000 ≤ e := by
 have h1 := btw_iff.1 h.ok.2.2.2.1
 have h2 := btw_iff.1 h.ok.2.2.2.2
 have e1 := mul_le hn.1 hn.2 h1.1 h1.2
 have e2 := mul_le he.1 he.2 h2.1 h2.2
 have e3 : e * l.Cap ≤ e * 1000 := Int.mul_le_mul_of_nonneg_left h2.2 he.1
 exact ⟨⟨e1.1, by omega⟩, ⟨e2.1, by omega⟩, by omega⟩
theorem s57 {l : PayList} (h : LOk l) {e n : Int} (he : 0 ≤ e ∧ e ≤ 10010000000) (hn : 0 ≤ n ∧ n ≤ 100) : f57 ⟨l⟩ e n = some (fineL l e n) := by
 obtain ⟨e1, e2, _⟩ := fine_all h he hn
 refine Yes.eq ?_
 unfold f57
 simp only
 rw [w64_id (n := e * l.Cap) (by omega) (by omega), quo_nn e2.1 (by omega) (by omega), w64_id (n := n * l.Fine) (by omega) (by omega)]
 exact Yes.bind (Yes.some (Yes.some (min64_eq _ _)))
theorem fine_bound {l : PayList} (h : LOk l) {e n : Int} (he : 0 ≤ e ∧ e ≤ 10010000000) (hn : 0 ≤ n ∧ n ≤ 100) : 0 ≤ fineL l e n ∧ fineL l e n ≤ e := by
 obtain ⟨e1, e2, e3⟩ := fine_all h he hn
 unfold fineL; omega
theorem wage_bound {l : PayList} {p : PayPiece} (h : LOk l) (hp : okPiece l p) (h1 : p.Extras.length ≤ 1000) {n : Int} (hn : 0 ≤ n ∧ n ≤ 100) : 0 ≤ wageL l p n ∧ wageL l p n ≤ 10010000000 := by
 obtain ⟨_, _, he⟩ := earn_all h hp h1
 have := fine_bound h he hn
 unfold wageL; omega
theorem s58 {l : PayList} {p : PayPiece} (h : LOk l) (hp : okPiece l p) (h1 : p.Extras.length ≤ 1000) {n : Int} (hn : 0 ≤ n ∧ n ≤ 100) : f58 ⟨l⟩ p n = some (wageL l p n) := by
 obtain ⟨_, _, he⟩ := earn_all h hp h1
 have hb := fine_bound h he hn
 refine Yes.eq ?_
 unfold f58
 refine qbind _ (s56 h hp h1) (qbind _ (s57 h he hn) (Yes.some ?_))
 rw [w64_id (by omega) (by omega)]; rfl
theorem s16 {l : PayList} {p : PayPiece} (h : LOk l) (hp : okPiece l p) (h1 : p.Extras.length ≤ 1000) : f16 l p = some (earnL l p, fineL l (earnL l p) p.Faults, wageL l p p.Faults, 0) := by
 obtain ⟨_, _, he⟩ := earn_all h hp h1
 have hn := btw_iff.1 hp.2.2.2.1
 refine Yes.eq ?_
 unfold f16
 exact qbind _ (s55 h hp h1) (Yes.jn (qskip rfl (qbind _ (s56 h hp h1) (qbind _ (s57 h he hn) (qbind _ (s58 h hp h1 hn) (Yes.some rfl))))))
end Go.Proofs.YtkmbkaoolacofaaGreat
