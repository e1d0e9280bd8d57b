/- Plain laws: what a piece earns by a list of two rates. -/
import Derived.Test.YtcjpochjapnoaaaGreatLawP1
set_option maxRecDepth 8000
namespace Go.Proofs.YtcjpochjapnoaaaGreat
open Go.RowKit
open Classical

theorem s45 (a b : Int) (xs : List Int) (hl : xs.length < 9223372036854775807) : f45 a b xs = some (xs.all fun x => decide (a ≤ x ∧ x ≤ b)) := s94F a b xs hl
theorem s45_one (a b x : Int) : f45 a b [x] = some (decide (a ≤ x ∧ x ≤ b)) := by rw [s45 _ _ _ (by simp)]; simp
theorem s45_in {a b x : Int} (h1 : a ≤ x) (h2 : x ≤ b) : f45 a b [x] = some true := by rw [s45_one]; simp [h1, h2]
theorem s45_nil (a b : Int) : f45 a b [] = some true := by rw [s45 _ _ _ (by simp)]; rfl
theorem qu8 (c : UInt8) : 0 ≤ ((c.toNat : Nat) : Int) ∧ ((c.toNat : Nat) : Int) ≤ 255 := by have := c.toNat_lt; omega
def prc (a b c f k : Int) : PayList := ⟨[⟨0, a⟩, ⟨b, c⟩], [], f, k⟩
def Prc (l : PayList) : Prop := ∃ a b c f k : Int, l = prc a b c f k ∧ (0 ≤ a ∧ a ≤ 255) ∧ (1 ≤ b ∧ b ≤ 60) ∧ (0 ≤ c ∧ c ≤ 510) ∧ (0 ≤ f ∧ f ≤ 255) ∧ (0 ≤ k ∧ k ≤ 1000)
theorem prices_is (v : Vector UInt8 4) : Yes (f6 v) Prc := by
 unfold f6
 have hv : v.toList.length = 4 := by simp
 refine Yes.idx (n := 0) rfl (by omega) ?_ |> Yes.bind
 refine Yes.bind (Yes.idx (n := 1) rfl (by omega) ?_)
 have h0 := qu8 v.toList[0]
 have h1 := qu8 v.toList[1]
 obtain ⟨r, hr, hr0, hr1⟩ := qrem (a := ((v.toList[1].toNat : Nat) : Int)) (b := 60) h1.1 (by omega)
 refine qbind _ hr ?_
 refine Yes.bind (Yes.idx (n := 0) rfl (by omega) ?_)
 refine Yes.bind (Yes.idx (n := 2) rfl (by omega) ?_)
 refine Yes.bind (Yes.idx (n := 3) rfl (by omega) ?_)
 refine Yes.bind (Yes.idx (n := 1) rfl (by omega) ?_)
 have h2 := qu8 v.toList[2]
 have h3 := qu8 v.toList[3]
 rw [qw64 (n := (4 : Int) * ((v.toList[1].toNat : Nat) : Int)) (by omega) (by omega)]
 obtain ⟨s, hs, hs0, hs1⟩ := qrem (a := (4 : Int) * ((v.toList[1].toNat : Nat) : Int)) (b := 1001) (by omega) (by omega)
 refine qbind _ hs (Yes.some ?_)
 rw [qw64 (n := (1 : Int) + r) (by omega) (by omega), qw64 (n := ((v.toList[0].toNat : Nat) : Int) + ((v.toList[2].toNat : Nat) : Int)) (by omega) (by omega)]
 exact ⟨_, _, _, _, _, rfl, h0, by omega, by omega, h3, by omega⟩
theorem s48 (x y : Int) : f48 x y = some (if x < y then -1 else if y < x then 1 else 0) := by
 have h : ∀ z, f79 z = some false := fun z => by simp [f79]
 unfold f48
 rw [h, h]
 simp only [Option.bind_some, jn, cond_false]
 by_cases h1 : x < y
 ·simp [h1]
 ·by_cases h2 : y < x
  ·simp [h1, h2]
  ·simp [h1, h2]
theorem s94 (r : PayRate) (y : Int) : f94 r y = some (if r.From < y then -1 else if y < r.From then 1 else 0) := by unfold f94; rw [s48]; rfl
theorem s58 (a b c f k d : Int) (hb : 1 ≤ b) (hd : 0 ≤ d) : f58 ⟨prc a b c f k⟩ d = some (if b ≤ d then c else a) := by
 refine Yes.eq ?_
 unfold f58
 refine Yes.bind ?_
 have hs : Yes (f93 (prc a b c f k).Rates d (fun a0 a1 => f94 a0 a1)) fun r => r = (if b < d then (2, false) else if b = d then (1, true) else if 0 < d then (1, false) else (0, true)) := by
  unfold f93 prc
  obtain ⟨R, hR1, hR2, hR3⟩ : ∃ R : Int, (b < d → R = 2) ∧ (¬ b < d → 0 < d → R = 1) ∧ (¬ 0 < d → R = 0) := by
   by_cases h1 : b < d
   ·exact ⟨2, fun _ => rfl, fun h => absurd h1 h, fun h => by omega⟩
   ·by_cases h2 : 0 < d
    ·exact ⟨1, fun h => absurd h h1, fun _ _ => rfl, fun h => absurd h2 h⟩
    ·exact ⟨0, fun h => absurd h h1, fun _ h => absurd h h2, fun _ => rfl⟩
  refine Yes.bind (Yes.mono (Q' := fun r => r = R) ?_ fun o ho => ?_)
  ·refine Yes.lp (fun s => s = (0, 2) ∨ s = (2, 2) ∧ b < d ∨ s = (0, 1) ∧ d ≤ b ∨ s = (1, 1) ∧ d ≤ b ∧ 0 < d ∨ s = (0, 0) ∧ d ≤ 0) (fun s => (s.2 - s.1).toNat) (.inl rfl) (by simp) ?_
   rintro ⟨z, u⟩ K hI hk
   refine Yes.jn ?_
   rcases hI with h | ⟨h, h1⟩ | ⟨h, h1⟩ | ⟨h, h1, h2⟩ | ⟨h, h1⟩
   ·injection h with e1 e2; subst e1; subst e2
    refine qtake rfl (qbind 1 rfl (qbind ⟨b, c⟩ rfl (qbind _ (s94 _ _) ?_)))
    simp only
    by_cases h1 : b < d
    ·refine qtake (by rw [if_pos h1]; rfl) ?_
     show Yes (K ((2 : Int), (2 : Int))) _
     exact hk _ (.inr (.inl ⟨rfl, h1⟩)) (by simp)
    ·refine qskip (by rw [if_neg h1]; split <;> rfl) ?_
     show Yes (K ((0 : Int), (1 : Int))) _
     exact hk _ (.inr (.inr (.inl ⟨rfl, by omega⟩))) (by simp)
   ·injection h with e1 e2; subst e1; subst e2
    exact qskip rfl (Yes.some (hR1 h1).symm)
   ·injection h with e1 e2; subst e1; subst e2
    refine qtake rfl (qbind 0 rfl (qbind ⟨0, a⟩ rfl (qbind _ (s94 _ _) ?_)))
    simp only
    by_cases h2 : 0 < d
    ·refine qtake (by rw [if_pos h2]; rfl) ?_
     show Yes (K ((1 : Int), (1 : Int))) _
     exact hk _ (.inr (.inr (.inr (.inl ⟨rfl, h1, h2⟩)))) (by simp)
    ·refine qskip (by rw [if_neg h2]; split <;> rfl) ?_
     show Yes (K ((0 : Int), (0 : Int))) _
     exact hk _ (.inr (.inr (.inr (.inr ⟨rfl, by omega⟩)))) (by simp)
   ·injection h with e1 e2; subst e1; subst e2
    exact qskip rfl (Yes.some (hR2 (by omega) h2).symm)
   ·injection h with e1 e2; subst e1; subst e2
    exact qskip rfl (Yes.some (hR3 (by omega)).symm)
  ·subst ho
   refine Yes.bind ?_
   by_cases h1 : b < d
   ·rw [hR1 h1, if_pos h1]
    exact qskip rfl (Yes.some (Yes.some rfl))
   ·by_cases h2 : 0 < d
    ·rw [hR2 h1 h2, if_neg h1]
     refine qtake rfl (qbind ⟨b, c⟩ rfl (qbind _ (s94 _ _) (Yes.some (Yes.some ?_))))
     by_cases h3 : b = d
     ·subst h3; simp
     ·rw [if_neg h3, if_pos h2]; simp only; rw [if_neg h1, if_pos (show d < b by omega)]; rfl
    ·obtain rfl : d = 0 := by omega
     rw [hR3 h2, if_neg h1, if_neg (show ¬ b = 0 by omega), if_neg h2]
     exact qtake rfl (qbind ⟨0, a⟩ rfl (qbind _ (s94 _ _) (Yes.some (Yes.some rfl))))
 refine hs.mono fun r hr => ?_
 subst hr
 refine Yes.bind ?_
 unfold prc
 by_cases h1 : b < d
 ·simp only [h1, if_true]
  refine qtake rfl (Yes.some (qbind ⟨b, c⟩ rfl (Yes.some ?_)))
  rw [if_pos (by omega)]
 ·simp only [h1, if_false]
  by_cases h3 : b = d
  ·simp only [h3, if_true]
   exact qskip rfl (Yes.some (qbind ⟨d, c⟩ rfl (Yes.some (by simp))))
  ·simp only [h3, if_false]
   by_cases h2 : 0 < d
   ·simp only [h2, if_true]
    refine qtake rfl (Yes.some (qbind ⟨0, a⟩ rfl (Yes.some ?_)))
    rw [if_neg (by omega)]
   ·simp only [h2, if_false]
    refine qskip rfl (Yes.some (qbind ⟨0, a⟩ rfl (Yes.some ?_)))
    rw [if_neg (by omega)]
theorem s71 {a b c f k : Int} (ha : 0 ≤ a ∧ a ≤ 255) (hb : 1 ≤ b ∧ b ≤ 60) (hc : 0 ≤ c ∧ c ≤ 510) : f71 ⟨prc a b c f k⟩ = some true := by
 refine Yes.eq ?_
 unfold f71 prc
 refine Yes.jn ?_
 refine Yes.upto2 2 (by decide) (fun i from_ last => (i = 0 ∧ from_ = 0 ∧ last = 0) ∨ (i = 1 ∧ from_ = 1 ∧ last = 1000) ∨ i = 2) (.inl ⟨rfl, rfl, rfl⟩) (fun i fr la K hi hI hk => ?_) (fun fr la K hI => ?_)
 ·refine qtake (by simp; omega) (Yes.jn ?_)
  rcases hI with ⟨rfl, rfl, rfl⟩ | ⟨rfl, rfl, rfl⟩ | rfl
  ·refine qbind ⟨0, a⟩ rfl (Yes.jn (Yes.bind ?_))
   refine qbind true (s45_in (by simp) (by simp)) (qskip rfl ?_)
   refine qbind true (s45_in ha.1 (by simp only; omega)) (Yes.some (qskip rfl ?_))
   exact hk _ _ (.inr (.inl ⟨rfl, rfl, rfl⟩))
  ·refine qbind ⟨b, c⟩ rfl (Yes.jn (Yes.bind ?_))
   refine qbind true (s45_in (by simp only; omega) (by simp only; omega)) (qskip rfl ?_)
   refine qbind true (s45_in hc.1 (by simp only; omega)) (Yes.some (qskip rfl ?_))
   exact hk _ _ (.inr (.inr rfl))
  ·omega
 ·exact qskip rfl (Yes.some rfl)
theorem s42 {l : PayList} (h : Prc l) : f42 l = some 0 := by
 obtain ⟨a, b, c, f, k, rfl, ha, hb, hc, hf, hk⟩ := h
 refine Yes.eq ?_
 unfold f42
 refine Yes.jn (Yes.bind (qskip rfl (Yes.some (qskip rfl (Yes.bind ?_)))))
 refine qbind _ (s71 ha hb hc) (qskip rfl ?_)
 refine qbind true (by unfold f72; rw [show (prc a b c f k).Extras = [] from rfl, s45_nil]; rfl) (qskip rfl ?_)
 refine qbind true (s45_in (by exact hf.1) (by unfold prc; simp only; omega)) (qskip rfl ?_)
 refine qbind true (by unfold f72; rw [show (prc a b c f k).Cap = k from rfl, s45_in hk.1 hk.2]; rfl) (Yes.some (qskip rfl (Yes.some rfl)))
theorem s92_nil : f92 [] = some true := by kernel_rfl
def pcs (w d p n : Int) : PayPiece := ⟨w, d, p, [], n⟩
theorem s57 {l : PayList} (h : Prc l) {w d p n : Int} (hw : 0 ≤ w ∧ w ≤ 50) (hd : 0 ≤ d ∧ d ≤ 1000) (hp : 0 ≤ p ∧ p ≤ 1000000) (hn : 0 ≤ n ∧ n ≤ 100) : f57 ⟨l⟩ (pcs w d p n) = some 0 := by
 refine Yes.eq ?_
 unfold f57 pcs
 refine Yes.jn (Yes.bind (qbind true (s45_in hw.1 hw.2) (qskip rfl (qbind true (s45_in hd.1 hd.2) (qskip rfl (qbind true (s45_in hp.1 hp.2) (qskip rfl (qbind true (s45_in hn.1 hn.2) (Yes.some ?_)))))))))
 refine qskip rfl (qbind true (s45_nil _ _) (qskip rfl (qbind true s92_nil (qskip rfl (Yes.some rfl)))))
theorem s30 {l : PayList} (h : Prc l) {w d p n : Int} (hw : 0 ≤ w ∧ w ≤ 50) (hd : 0 ≤ d ∧ d ≤ 1000) (hp : 0 ≤ p ∧ p ≤ 1000000) (hn : 0 ≤ n ∧ n ≤ 100) : f30 l (pcs w d p n) = some (⟨l⟩, 0) := by
 unfold f30; rw [s42 h]
 simp only [Option.bind_some, jn]
 rw [s57 h hw hd hp hn]; rfl
def rateP (l : PayList) (d : Int) : Int := match l.Rates with | [x, y] => if y.From ≤ d then y.Rate else x.Rate | _ => 0
def earnP (l : PayList) (d p : Int) : Int := p * rateP l d / 1000
def fineP (l : PayList) (e n : Int) : Int := min (n * l.Fine) (e * l.Cap / 1000)
theorem rate_bound {l : PayList} (h : Prc l) (d : Int) : 0 ≤ rateP l d ∧ rateP l d ≤ 510 := by
 obtain ⟨a, b, c, f, k, rfl, ha, hb, hc, hf, hk⟩ := h
 unfold rateP prc; simp only; split <;> omega
theorem quo_nn {a b : Int} (ha : 0 ≤ a) (ha2 : a ≤ 9223372036854775807) (hb : 0 < b) : quo64 a b = some (a / b) := by
 unfold quo64
 rw [if_neg (by omega), Int.tdiv_eq_ediv_of_nonneg ha]
 have h1 : 0 ≤ a / b := Int.ediv_nonneg ha (by omega)
 have h2 : a / b ≤ a := Int.ediv_le_self _ ha
 rw [w64_id (by omega) (by omega)]
theorem s31 {l : PayList} (h : Prc l) {w d p n : Int} (hd : 0 ≤ d ∧ d ≤ 1000) (hp : 0 ≤ p ∧ p ≤ 1000000) : f31 ⟨l⟩ (pcs w d p n) = some (earnP l d p) := by
 have hb := rate_bound h d
 have hr : f58 ⟨l⟩ d = some (rateP l d) := by
  obtain ⟨a, b, c, f, k, rfl, ha, hb, hc, hf, hk⟩ := h
  rw [s58 a b c f k d hb.1 hd.1]; unfold rateP prc; rfl
 refine Yes.eq ?_
 unfold f31 pcs
 refine Yes.bind (Yes.upto (σ := Int) 0 (by decide) (fun _ s => s = 1000) rfl (fun i s K hi _ _ => absurd hi (Nat.not_lt_zero _)) (fun s K hs => qskip rfl (Yes.some (qbind _ hr ?_))))
 subst hs
 have m0 : 0 ≤ p * rateP l d := Int.mul_nonneg hp.1 hb.1
 have m1 : p * rateP l d ≤ 1000000 * 510 := Int.mul_le_mul hp.2 hb.2 hb.1 (by decide)
 simp only
 rw [qw64 (n := p * rateP l d) (by omega) (by omega), w64_id (n := p * rateP l d * 1000) (by omega) (by omega)]
 refine qbind _ (quo_nn (by omega) (by omega) (by decide)) (Yes.some ?_)
 unfold earnP
 omega
theorem earn_bound {l : PayList} (h : Prc l) {d p : Int} (hp : 0 ≤ p ∧ p ≤ 1000000) : 0 ≤ earnP l d p ∧ earnP l d p ≤ 510000 := by
 have hb := rate_bound h d
 have m0 : 0 ≤ p * rateP l d := Int.mul_nonneg hp.1 hb.1
 have m1 : p * rateP l d ≤ 1000000 * 510 := Int.mul_le_mul hp.2 hb.2 hb.1 (by decide)
 unfold earnP; omega
theorem min64_eq (a b : Int) : min64 a b = min a b := by unfold min64; omega
theorem s32 {l : PayList} (h : Prc l) {e n : Int} (he : 0 ≤ e ∧ e ≤ 510000) (hn : 0 ≤ n ∧ n ≤ 100) : f32 ⟨l⟩ e n = some (fineP l e n) := by
 obtain ⟨a, b, c, f, k, rfl, ha, hb, hc, hf, hk⟩ := h
 unfold f32 fineP prc
 simp only
 have m0 : 0 ≤ e * k := Int.mul_nonneg he.1 hk.1
 have m1 : e * k ≤ 510000 * 1000 := Int.mul_le_mul he.2 hk.2 hk.1 (by decide)
 have n0 : 0 ≤ n * f := Int.mul_nonneg hn.1 hf.1
 have n1 : n * f ≤ 100 * 255 := Int.mul_le_mul hn.2 hf.2 hf.1 (by decide)
 rw [qw64 (n := e * k) (by omega) (by omega), qw64 (n := n * f) (by omega) (by omega), quo_nn m0 (by omega) (by decide), Option.bind_some, min64_eq]
theorem fine_bound {l : PayList} (h : Prc l) {e n : Int} (he : 0 ≤ e ∧ e ≤ 510000) (hn : 0 ≤ n ∧ n ≤ 100) : 0 ≤ fineP l e n ∧ fineP l e n ≤ e ∧ fineP l e n * 1000 ≤ e * l.Cap := by
 obtain ⟨a, b, c, f, k, rfl, ha, hb, hc, hf, hk⟩ := h
 unfold fineP prc
 simp only
 have m0 : 0 ≤ e * k := Int.mul_nonneg he.1 hk.1
 have m1 : e * k ≤ e * 1000 := Int.mul_le_mul_of_nonneg_left hk.2 he.1
 have n0 : 0 ≤ n * f := Int.mul_nonneg hn.1 hf.1
 omega
theorem fine_mono {l : PayList} (h : Prc l) {e n m : Int} (hnm : n ≤ m) : fineP l e n ≤ fineP l e m := by
 obtain ⟨a, b, c, f, k, rfl, ha, hb, hc, hf, hk⟩ := h
 unfold fineP prc
 simp only
 have := Int.mul_le_mul_of_nonneg_right hnm hf.1
 omega
theorem s33 {l : PayList} (h : Prc l) {w d p n m : Int} (hd : 0 ≤ d ∧ d ≤ 1000) (hp : 0 ≤ p ∧ p ≤ 1000000) (hm : 0 ≤ m ∧ m ≤ 100) : f33 ⟨l⟩ (pcs w d p n) m = some (earnP l d p - fineP l (earnP l d p) m) := by
 have he := earn_bound (d := d) h hp
 have hf := fine_bound h he hm
 unfold f33
 rw [s31 h hd hp, Option.bind_some, s32 h he hm, Option.bind_some, qw64 (by omega) (by omega)]
theorem s11 {l : PayList} (h : Prc l) {w d p n : Int} (hw : 0 ≤ w ∧ w ≤ 50) (hd : 0 ≤ d ∧ d ≤ 1000) (hp : 0 ≤ p ∧ p ≤ 1000000) (hn : 0 ≤ n ∧ n ≤ 100) :
  f11 l (pcs w d p n) = some (earnP l d p, fineP l (earnP l d p) n, earnP l d p - fineP l (earnP l d p) n, 0) := by
 refine Yes.eq ?_
 unfold f11
 refine qbind _ (s30 h hw hd hp hn) (Yes.jn (qskip rfl ?_))
 refine qbind _ (s31 h hd hp) (qbind _ (s32 h (earn_bound h hp) hn) (qbind _ (s33 h hd hp hn) (Yes.some rfl)))
theorem s12 {l : PayList} (h : Prc l) : f12 l = some l := by
 obtain ⟨a, b, c, f, k, rfl, -⟩ := h
 unfold f12
 exact Yes.eq (Yes.bind (Yes.apnd (by simp [prc]) (by simp [prc]) (Yes.bind (Yes.apnd (by simp [prc]) (by simp [prc]) (Yes.some rfl)))))
end Go.Proofs.YtcjpochjapnoaaaGreat
