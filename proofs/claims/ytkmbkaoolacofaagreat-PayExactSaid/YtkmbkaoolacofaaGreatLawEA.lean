/- PayExact: sums over pieces, greater rates, one extra less. -/
import Derived.Test.YtkmbkaoolacofaaGreatLawX
set_option maxRecDepth 8000
namespace Go.Proofs.YtkmbkaoolacofaaGreat
open Go.RowKit
open Classical

theorem ew64 {n : Int} (h1 : -1000000000000000 ≤ n) (h2 : n ≤ 1000000000000000) : w64 n = n := w64_id (by omega) (by omega)
theorem eapnd56 {xs : List PayPiece} {y : PayPiece} (h : xs.length ≤ 1000) : apnd 56 xs [y] = some (xs ++ [y]) := Yes.eq (Yes.apnd (by simp; omega) (by simp; omega) rfl)
theorem equo2 {n : Nat} (h : n ≤ 1000) : quo64 (n : Int) 2 = some ((n / 2 : Nat) : Int) := by
 unfold quo64
 rw [if_neg (by decide), Int.tdiv_eq_ediv_of_nonneg (by omega), w64_id (by omega) (by omega)]
 congr 1
theorem evset_list {n : Nat} {v : Vector Int n} {k y : Int} : (vset v k y).toList = v.toList.set k.toNat y := by unfold vset; simp
theorem erng_idx {n : Nat} {f : Int → Int} {k : Int} (h : 0 ≤ k ∧ k < (n : Int)) : idx ((rngI n).map f) k = some (f k) := by
 obtain ⟨j, rfl⟩ := Int.eq_ofNat_of_zero_le h.1
 have hl : j < ((rngI n).map f).length := by simp [rngI]; omega
 rw [qidx hl]; simp [rngI]
theorem erng_set {n : Nat} {f : Int → Int} {k y : Int} (h : 0 ≤ k ∧ k < (n : Int)) : ((rngI n).map f).set k.toNat (f k + y) = (rngI n).map fun j => f j + if k = j then y else 0 := by
 obtain ⟨j, rfl⟩ := Int.eq_ofNat_of_zero_le h.1
 refine List.ext_getElem (by simp) fun i h1 h2 => ?_
 simp only [List.getElem_set, Int.toNat_natCast, List.getElem_map, rngI, List.getElem_range]
 by_cases e : j = i
 ·subst e; simp
 ·rw [if_neg e, if_neg (by omega)]; omega
/-! ### Sums -/
def allW (l : PayList) (ps : List PayPiece) : Int := (ps.map fun p => wageL l p p.Faults).sum
theorem sum_one (w c : Int) (hw : 0 ≤ w) : ∀ n : Nat, ((rngI n).map fun k => if w = k then c else 0).sum = if w < (n : Int) then c else 0
 | 0 => by rw [if_neg (by omega)]; rfl
 | n + 1 => by
  rw [rngI_succ, List.map_append, List.sum_append, sum_one w c hw n]
  simp only [List.map_cons, List.map_nil, List.sum_cons, List.sum_nil]
  by_cases h1 : w < (n : Int)
  ·rw [if_pos h1, if_neg (by omega), if_pos (by omega)]; omega
  ·by_cases h2 : w = (n : Int)
   ·rw [if_neg h1, if_pos h2, if_pos (by omega)]; omega
   ·rw [if_neg h1, if_neg h2, if_neg (by omega)]; rfl
theorem tot_cons (l : PayList) (p : PayPiece) (ps : List PayPiece) (w : Int) : totW l (p :: ps) w = (if p.Weaver = w then wageL l p p.Faults else 0) + totW l ps w := by
 unfold totW; by_cases h : p.Weaver = w <;> simp [h]
theorem tot_snoc (l : PayList) (p : PayPiece) (ps : List PayPiece) (w : Int) : totW l (ps ++ [p]) w = totW l ps w + if p.Weaver = w then wageL l p p.Faults else 0 := by
 unfold totW; by_cases h : p.Weaver = w <;> simp [h]
theorem all_snoc (l : PayList) (p : PayPiece) (ps : List PayPiece) : allW l (ps ++ [p]) = allW l ps + wageL l p p.Faults := by
 unfold allW; simp
theorem sum_add (f g : Int → Int) : ∀ xs : List Int, (xs.map fun x => f x + g x).sum = (xs.map f).sum + (xs.map g).sum
 | [] => rfl
 | x :: xs => by simp only [List.map_cons, List.sum_cons, sum_add f g xs]; omega
theorem sum_tot (l : PayList) : ∀ ps : List PayPiece, (∀ p ∈ ps, 0 ≤ p.Weaver ∧ p.Weaver ≤ 50) → ((rngI 51).map (totW l ps)).sum = allW l ps
 | [], _ => by
  have : totW l [] = fun _ => 0 := funext fun w => rfl
  rw [this]; rfl
 | p :: ps, h => by
  have ih := sum_tot l ps fun q hq => h q (by simp [hq])
  have hp := h p (by simp)
  have : totW l (p :: ps) = fun w => (if p.Weaver = w then wageL l p p.Faults else 0) + totW l ps w := funext fun w => tot_cons l p ps w
  rw [this, sum_add, sum_one _ _ hp.1, if_pos (by omega), ih]; simp [allW]
theorem sum_filter (P : Int → Bool) (f : Int → Int) : ∀ xs : List Int, (∀ x ∈ xs, P x = false → f x = 0) → ((xs.filter P).map f).sum = (xs.map f).sum
 | [], _ => rfl
 | x :: xs, h => by
  have ih := sum_filter P f xs fun y hy => h y (by simp [hy])
  rw [List.filter_cons]
  cases hx : P x with
  | true => simp [ih]
  | false => have := h x (by simp) hx; simp [ih, this]
theorem weav_sum (l : PayList) (ps : List PayPiece) (h : ∀ p ∈ ps, 0 ≤ p.Weaver ∧ p.Weaver ≤ 50) : ((weavL ps).map (totW l ps)).sum = allW l ps := by
 unfold weavL; rw [sum_filter _ _ _ (fun x _ hx => tot_none hx)]; exact sum_tot l ps h
theorem perm_sum {xs ys : List Int} (h : xs.Perm ys) : xs.sum = ys.sum := by
 induction h with
 | nil => rfl
 | cons x _ ih => simp [ih]
 | swap x y l => simp; omega
 | trans _ _ h1 h2 => exact h1.trans h2
theorem tot_perm {l : PayList} {ps qs : List PayPiece} (h : ps.Perm qs) (w : Int) : totW l ps w = totW l qs w := by
 unfold totW; exact perm_sum ((h.filter _).map _)
theorem all_perm {l : PayList} {ps qs : List PayPiece} (h : ps.Perm qs) : allW l ps = allW l qs := by
 unfold allW; exact perm_sum (h.map _)
theorem sum_bound {B : Int} : ∀ {xs : List Int}, (∀ x ∈ xs, 0 ≤ x ∧ x ≤ B) → 0 ≤ xs.sum ∧ xs.sum ≤ B * xs.length
 | [], _ => by simp
 | x :: xs, h => by
  have ih := sum_bound fun y hy => h y (List.mem_cons_of_mem x hy)
  have hx := h x (by simp)
  rw [List.sum_cons, List.length_cons]
  have : B * ((xs.length + 1 : Nat) : Int) = B * (xs.length : Int) + B := by
   rw [Int.natCast_add, Int.mul_add]; simp
  rw [this]; omega
theorem sum_take {xs : List Int} {i : Nat} (h : i < xs.length) : (xs.take (i + 1)).sum = (xs.take i).sum + xs[i] := by
 rw [List.take_succ_eq_append_getElem h, List.sum_append]; simp
/-! ### Twenty pieces -/
structure Ps1 (l : PayList) (ps : List PayPiece) : Prop where
 p : ∀ p ∈ ps, okPiece l p ∧ p.Extras.length ≤ 8
 n : ps.length ≤ 20
section
variable {l : PayList} {ps : List PayPiece}
theorem Ps1.ok (h : Ps1 l ps) (hl : LOk l) : OkPs l ps := ⟨hl, fun p hp => ⟨(h.p p hp).1, by have := (h.p p hp).2; omega⟩, by have := h.n; omega⟩
theorem Ps1.perm {qs : List PayPiece} (h : Ps1 l ps) (hq : qs.Perm ps) : Ps1 l qs := ⟨fun p hp => h.p p (hq.mem_iff.1 hp), by rw [hq.length_eq]; exact h.n⟩
theorem Ps1.w (h : Ps1 l ps) : ∀ p ∈ ps, 0 ≤ p.Weaver ∧ p.Weaver ≤ 50 := fun p hp => btw_iff.1 (h.p p hp).1.1
theorem chkP_of {p : PayPiece} (h : okPiece l p) : chkP l p = 0 := by
 obtain ⟨h1, h2, h3, h4, h5, h6⟩ := h
 unfold chkP
 rw [if_neg (fun h => h ⟨h1, h2, h3, h4⟩), if_neg (fun h => h h5), if_neg (fun h => h h6)]
theorem bill_eq (hl : LOk l) (h : Ps1 l ps) : f27 l ps = some (weavL ps, (weavL ps).map (totW l ps), 0, 0) := by
 have hn := h.n
 have h6 := hl.r6
 have h8 := hl.e8
 refine Yes.eq (Yes.mono (s27 (by omega) (by omega) hl.chk (by omega) fun p hp => by have := (h.p p hp).2; omega) fun r hr => ?_)
 rcases hr with ⟨i, ⟨h1, h2, _⟩, _⟩ | ⟨_, h⟩
 ·exact absurd (chkP_of (h.p _ (List.getElem_mem h1)).1) h2
 ·exact h
theorem tot_rng (h : Ps1 l ps) (hl : LOk l) (w : Int) : 0 ≤ totW l ps w ∧ totW l ps w ≤ 200200000000 := by
 have := tot_bound (h.ok hl) w ps.length (Nat.le_refl _)
 have hn := h.n
 rw [List.take_length] at this; omega
theorem all_rng (h : Ps1 l ps) (hl : LOk l) : 0 ≤ allW l ps ∧ allW l ps ≤ 200200000000 := by
 have := sum_bound (B := 10010000000) (xs := ps.map fun p => wageL l p p.Faults) fun x hx => by
  obtain ⟨p, hp, rfl⟩ := List.mem_map.1 hx
  exact wage_bound hl (h.p p hp).1 (by have := (h.p p hp).2; omega) (btw_iff.1 (h.p p hp).1.2.2.2.1)
 have hn := h.n
 rw [List.length_map] at this
 unfold allW; omega
theorem Ps1.snoc {p : PayPiece} (h : Ps1 l ps) (hp : okPiece l p) (h8 : p.Extras.length ≤ 8) (hn : ps.length < 20) : Ps1 l (ps ++ [p]) := ⟨fun q hq => by
 rcases List.mem_append.1 hq with h1 | h1
 ·exact h.p q h1
 ·rw [List.mem_singleton.1 h1]; exact ⟨hp, h8⟩, by simp; omega⟩
end
/-! ### Greater rates -/
def upR (d : Int) (r : PayRate) : PayRate := { r with Rate := min64 10000 (w64 (r.Rate + d)) }
theorem rate_mono (D : Int) (d : Int) : ∀ (rs : List PayRate) (a b : Int), (∀ r ∈ rs, r.Rate ≤ (upR d r).Rate) → a ≤ b → rs.foldl (rateF D) a ≤ (rs.map (upR d)).foldl (rateF D) b
 | [], _, _, _, h => h
 | r :: rs, a, b, hr, h => by
  rw [List.map_cons, List.foldl_cons, List.foldl_cons]
  refine rate_mono D d rs _ _ (fun x hx => hr x (by simp [hx])) ?_
  have := hr r (by simp)
  unfold rateF
  rw [show (upR d r).From = r.From from rfl]
  split
  ·exact this
  ·exact h
section
variable {l : PayList} {p : PayPiece}
theorem up_rate {d : Int} (hd : 0 ≤ d ∧ d < 50) {r : PayRate} (h : btw 0 10000 r.Rate = true) : r.Rate ≤ (upR d r).Rate ∧ btw 0 10000 (upR d r).Rate = true := by
 have h1 := btw_iff.1 h
 have e : (upR d r).Rate = min 10000 (r.Rate + d) := by
  show min64 10000 (w64 (r.Rate + d)) = _
  rw [ew64 (by omega) (by omega), min64_eq]
 rw [btw_iff, e]; omega
theorem rates_at (h : LOk l) {r : PayRate} (hr : r ∈ l.Rates) : btw 0 10000 r.Rate = true := by
 obtain ⟨i, hi, he⟩ := List.getElem_of_mem hr
 have := (h.ok.1 i hi).2.1
 rw [he] at this; exact this
theorem up_ok (h : LOk l) {d : Int} (hd : 0 ≤ d ∧ d < 50) : LOk { l with Rates := l.Rates.map (upR d) } := by
 refine ⟨⟨fun i hi => ?_, h.ok.2.1, by simpa using h.ok.2.2.1, h.ok.2.2.2.1, h.ok.2.2.2.2⟩, by simpa using h.r6, h.e8⟩
 simp only [List.length_map] at hi
 obtain ⟨a1, a2, a3, a4⟩ := h.ok.1 i hi
 unfold okAt
 simp only [List.getElem_map]
 exact ⟨a1, (up_rate hd a2).2, a3, a4⟩
theorem div_mono {a b : Int} (h : a ≤ b) : a / 1000000 ≤ b / 1000000 := by omega
theorem earn_up (h : LOk l) (hp : okPiece l p) (h1 : p.Extras.length ≤ 1000) {d : Int} (hd : 0 ≤ d ∧ d < 50) : earnL l p ≤ earnL { l with Rates := l.Rates.map (upR d) } p := by
 have hq := part_bound h hp.2.2.2.2.1 h1
 have hk := btw_iff.1 hp.2.2.1
 have hm := rate_mono p.Dense d l.Rates 0 0 (fun r hr => (up_rate hd (rates_at h hr)).1) (Int.le_refl _)
 exact div_mono (Int.mul_le_mul_of_nonneg_right (Int.mul_le_mul_of_nonneg_left hm hk.1) (by omega))
/-! ### One extra less -/
theorem part_shift (ex : List Int) : ∀ (xs : List Int) (a d : Int), xs.foldl (partF ex) (a + d) = xs.foldl (partF ex) a + d
 | [], _, _ => rfl
 | x :: xs, a, d => by
  rw [List.foldl_cons, List.foldl_cons]
  have : partF ex (a + d) x = partF ex a x + d := by unfold partF; omega
  rw [this, part_shift ex xs]
theorem asc_tail {xs : List Int} (h : asc xs) : asc (xs.drop 1) := by
 intro i hi
 simp only [List.length_drop] at hi
 simp only [List.getElem_drop]
 exact h (1 + i) (by omega)
theorem less_ok (hp : okPiece l p) : okPiece l { p with Extras := p.Extras.drop 1 } :=
 ⟨hp.1, hp.2.1, hp.2.2.1, hp.2.2.2.1, fun x hx => hp.2.2.2.2.1 x (List.mem_of_mem_drop hx), asc_tail hp.2.2.2.2.2⟩
theorem earn_less (h : LOk l) (hp : okPiece l p) (h0 : 0 < p.Extras.length) : earnL l { p with Extras := p.Extras.drop 1 } ≤ earnL l p := by
 have hk := btw_iff.1 hp.2.2.1
 have hr := rate_bound h p.Dense
 have e1 := mul_le hk.1 hk.2 hr.1 hr.2
 have hx := hp.2.2.2.2.1
 refine div_mono (Int.mul_le_mul_of_nonneg_left ?_ e1.1)
 show partL l.Extras (p.Extras.drop 1) ≤ partL l.Extras p.Extras
 cases hE : p.Extras with
 | nil => rw [hE] at h0; simp at h0
 | cons x xs =>
  rw [hE] at hx
  have := (ex_at h (hx x (by simp))).2.1
  show xs.foldl (partF l.Extras) 1000 ≤ xs.foldl (partF l.Extras) (1000 + l.Extras.getD x.toNat 0)
  rw [part_shift]; omega
/-! ### The number of picks -/
theorem earn_two (h : LOk l) (hp : okPiece l p) (h1 : p.Extras.length ≤ 1000) (b : Int) : earnL l p + earnL l { p with Picks := b } = earnL l { p with Picks := p.Picks + b } ∨ earnL l p + earnL l { p with Picks := b } = earnL l { p with Picks := p.Picks + b } - 1 := by
 unfold earnL
 show p.Picks * rateL l.Rates p.Dense * partL l.Extras p.Extras / 1000000 + b * rateL l.Rates p.Dense * partL l.Extras p.Extras / 1000000 = (p.Picks + b) * rateL l.Rates p.Dense * partL l.Extras p.Extras / 1000000 ∨ p.Picks * rateL l.Rates p.Dense * partL l.Extras p.Extras / 1000000 + b * rateL l.Rates p.Dense * partL l.Extras p.Extras / 1000000 = (p.Picks + b) * rateL l.Rates p.Dense * partL l.Extras p.Extras / 1000000 - 1
 rw [Int.add_mul, Int.add_mul]
 generalize p.Picks * rateL l.Rates p.Dense * partL l.Extras p.Extras = u
 generalize b * rateL l.Rates p.Dense * partL l.Extras p.Extras = v
 omega
theorem picks_ok (hp : okPiece l p) {b : Int} (hb : 0 ≤ b ∧ b ≤ 1000000) : okPiece l { p with Picks := b } := ⟨hp.1, hp.2.1, btw_iff.2 hb, hp.2.2.2.1, hp.2.2.2.2.1, hp.2.2.2.2.2⟩
end
theorem piece_is (c : Cut) {l : PayList} (hl : LOk l) : Yes (f39 c l) fun p => okPiece l p ∧ p.Extras.length ≤ 8 ∧ p.Picks = ((c.Picks.toNat : Nat) : Int) % 1000001 := by
 unfold f39
 obtain ⟨r1, h1, a1, b1⟩ := qrem (a := ((c.Weaver.toNat : Nat) : Int)) (b := 51) (qu8 _).1 (by omega)
 obtain ⟨r2, h2, a2, b2⟩ := qrem (a := ((c.Dense.toNat : Nat) : Int)) (b := 1001) (qu16 _).1 (by omega)
 have h3 : rem64 ((c.Picks.toNat : Nat) : Int) 1000001 = some (((c.Picks.toNat : Nat) : Int) % 1000001) := by
  unfold rem64; rw [if_neg (by omega), Int.tmod_eq_emod_of_nonneg (by omega)]
 have a3 : 0 ≤ ((c.Picks.toNat : Nat) : Int) % 1000001 ∧ ((c.Picks.toNat : Nat) : Int) % 1000001 < 1000001 := by omega
 obtain ⟨r4, h4, a4, b4⟩ := qrem (a := ((c.Faults.toNat : Nat) : Int)) (b := 101) (qu8 _).1 (by omega)
 refine qbind _ h1 (qbind _ h2 (qbind _ h3 (qbind _ h4 (Yes.bind ?_))))
 generalize ((c.Picks.toNat : Nat) : Int) % 1000001 = r3 at a3
 have h8 := hl.e8
 refine Yes.mono (Q' := fun p : PayPiece => okPiece l p ∧ p.Extras.length ≤ 8 ∧ p.Picks = r3) ?_ fun p hp => Yes.some hp
 refine Yes.upto l.Extras.length (by omega) (fun i (p : PayPiece) => p.Weaver = r1 ∧ p.Dense = r2 ∧ p.Picks = r3 ∧ p.Faults = r4 ∧ asc p.Extras ∧ (∀ x ∈ p.Extras, 0 ≤ x ∧ x < (i : Int)) ∧ p.Extras.length ≤ i) ⟨rfl, rfl, rfl, rfl, (fun i hi => absurd hi (by simp)), (fun x hx => by cases hx), by simp⟩ (fun i p k hi hI hk => ?_) (fun p k hI => ?_)
 ·obtain ⟨e1, e2, e3, e4, has, hin, hlen⟩ := hI
  refine Yes.jn (qtake (by simp; omega) (Yes.bind ?_))
  rw [wu64_id (n := (i : Int)) (by omega) (by omega)]
  refine qbind _ (show u8shr c.Extras (i : Int) = some _ by unfold u8shr; rw [if_neg (by omega)]) ?_
  refine Yes.cond (fun _ => ?_) (fun _ => Yes.some (hk _ ⟨e1, e2, e3, e4, has, fun x hx => by have := hin x hx; omega, by omega⟩))
  refine Yes.bind (Yes.apnd (by simp; omega) (by simp; omega) (Yes.some (hk _ ⟨e1, e2, e3, e4, asc_snoc has fun x hx => (hin x hx).2, fun x hx => ?_, by simp; omega⟩)))
  rcases List.mem_append.1 hx with h | h
  ·have := hin x h; omega
  ·rw [List.mem_singleton.1 h]; omega
 ·obtain ⟨e1, e2, e3, e4, has, hin, hlen⟩ := hI
  exact Yes.jn (qskip (by simp) (Yes.some ⟨⟨btw_iff.2 (by omega), btw_iff.2 (by omega), btw_iff.2 (by omega), btw_iff.2 (by omega), hin, has⟩, by omega, e3⟩))
end Go.Proofs.YtkmbkaoolacofaaGreat
