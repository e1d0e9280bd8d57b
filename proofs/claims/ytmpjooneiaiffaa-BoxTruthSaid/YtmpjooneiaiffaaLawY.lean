/- BoxTruth. -/
import Derived.Test.YtmpjooneiaiffaaLawX
set_option maxRecDepth 8000
namespace Go.Proofs.Ytmpjooneiaiffaa
open Go.RowKit
open Classical

theorem IsOut.le {b c : Nat → Int} {t : List Nat} {r s : Int} (h : IsOut b t r) (k : IsOut c t s) (hbc : ∀ i ∈ t, b i ≤ c i) (hs : 0 ≤ s) : 0 ≤ r ∧ r ≤ s := by
 rcases k with ⟨k, _⟩ | ⟨m, k, ⟨k1, k2⟩, _⟩
 ·omega
 ·have hm : OutP b t m := ⟨k1, by have := hbc _ (List.getElem_mem k1); omega⟩
  rcases h with ⟨_, h⟩ | ⟨n, h, _, h2⟩
  ·exact absurd hm (h m)
  ·have : ¬ m < n := fun hlt => h2 m hlt hm
   omega
theorem IsOut.rng {b : Nat → Int} {t : List Nat} {r : Int} (h : IsOut b t r) : -1 ≤ r ∧ (r < 0 ∨ r < t.length) := by
 rcases h with ⟨h, _⟩ | ⟨n, h, ⟨h1, _⟩, _⟩ <;> omega
def cl (n : Nat) (T : Nat → Int) (t : List Nat) : List Int := (List.range n).map fun j => max 0 (T j - (t.count j : Nat))
theorem cl_len {n : Nat} {T : Nat → Int} {t : List Nat} : (cl n T t).length = n := by simp [cl]
theorem cl_at {n : Nat} {T : Nat → Int} {t : List Nat} {j : Nat} (h : j < (cl n T t).length) : (cl n T t)[j] = max 0 (T j - (t.count j : Nat)) := by simp [cl]
theorem cl_snoc {n : Nat} {T : Nat → Int} {t : List Nat} {j : Nat} (h : j < (cl n T t).length) : cl n T (t ++ [j]) = (cl n T t).set j (max 0 ((cl n T t)[j] - 1)) := by
 apply List.ext_getElem (by simp [cl])
 intro i h1 h2
 rw [cl_at, List.getElem_set]
 split
 ·rename_i he; subst he; rw [List.count_append, List.count_singleton_self, cl_at]; omega
 ·rename_i he; rw [List.count_append, cl_at, List.count_singleton]; simp [he]
def OutTo (b : Nat → Int) (t : List Nat) (i : Nat) (r : Int) : Prop := (r = -1 ∧ ∀ j, j < i → ¬ OutP b t j) ∨ ∃ n : Nat, r = n ∧ OutP b t n ∧ ∀ j, j < n → ¬ OutP b t j
theorem OutTo.done {b : Nat → Int} {t : List Nat} {r : Int} (h : OutTo b t t.length r) : IsOut b t r := h.imp (fun h => ⟨h.1, fun i hi => h.2 i hi.1 hi⟩) id
theorem run_wh {ps : List BoxPick} : ∀ {a b : BoxLoom}, LOk a → LOk b → b.Boxes = a.Boxes → Wh a.Shuttles b.Shuttles → a.Shuttles.length = b.Shuttles.length → (∀ p ∈ ps, okP a.Boxes p = true) → thl a ps = thl b ps ∧ (thr a ps = none ↔ thr b ps = none) := by
 induction ps with
 | nil => intro a b _ _ _ _ _ _; exact ⟨by rw [thl, thl], by rw [thr, thr]; simp⟩
 | cons p ps ih =>
  intro a b ha hb hB hw hlen hp
  have hpa : okP a.Boxes p = true := hp p (by simp)
  have hpb : okP b.Boxes p = true := by rw [hB]; exact hpa
  have e0 : inX a.Shuttles 0 p.Left = inX b.Shuttles 0 p.Left := inX_eq ha.dst hb.dst fun i => hw _ _ i
  have e1 : inX a.Shuttles 1 p.Right = inX b.Shuttles 1 p.Right := inX_eq ha.dst hb.dst fun i => hw _ _ i
  by_cases hc : (inX a.Shuttles 0 p.Left < 0) ↔ (inX a.Shuttles 1 p.Right < 0)
  ·have oa : oneL a p = none := by unfold oneL; rw [dif_pos hc]
   have ob : oneL b p = none := by unfold oneL; rw [dif_pos (by rw [← e0, ← e1]; exact hc)]
   rw [thl, thl, thr, thr, oa, ob]; exact ⟨rfl, Iff.rfl⟩
  ·have hcb : ¬ ((inX b.Shuttles 0 p.Left < 0) ↔ (inX b.Shuttles 1 p.Right < 0)) := by rw [← e0, ← e1]; exact hc
   have go : ∀ (i : Nat) (s c : Int) (na nb : BoxLoom) (ma mb : Int), oneL a p = some (na, i, ma) → oneL b p = some (nb, i, mb) → i < a.Shuttles.length → na.Shuttles = mv a.Shuttles i s c → nb.Shuttles = mv b.Shuttles i s c → na.Boxes = a.Boxes → nb.Boxes = b.Boxes → thl a (p :: ps) = thl b (p :: ps) ∧ (thr a (p :: ps) = none ↔ thr b (p :: ps) = none) := fun i s c na nb ma mb oa ob hi h1 h2 h3 h4 => by
    have la := oneL_ok ha hpa oa
    have lb := oneL_ok hb hpb ob
    obtain ⟨i1, i2⟩ := ih la.1 lb.1 (by rw [h3, h4, hB]) (fun s' c' k => by rw [h1, h2, mv_isAt hi, mv_isAt (by omega), hw s' c' k]) (by rw [h1, h2, mv_len, mv_len, hlen]) (fun q hq => by rw [h3]; exact hp q (by simp [hq]))
    rw [thl, thl, thr, thr, oa, ob]
    exact ⟨by simp only [i1], i2⟩
   by_cases h0 : 0 ≤ inX a.Shuttles 0 p.Left
   ·have oa : oneL a p = some (⟨a.Boxes, [p.Left, p.Right], mv a.Shuttles (inX a.Shuttles 0 p.Left).toNat 1 p.Right⟩, (inX a.Shuttles 0 p.Left).toNat, mvs a p) := by unfold oneL; rw [dif_neg hc, if_pos h0]
    have ob : oneL b p = some (⟨b.Boxes, [p.Left, p.Right], mv b.Shuttles (inX a.Shuttles 0 p.Left).toNat 1 p.Right⟩, (inX a.Shuttles 0 p.Left).toNat, mvs b p) := by unfold oneL; rw [dif_neg hcb, if_pos (by rw [← e0]; exact h0), e0]
    exact go _ _ _ _ _ _ _ oa ob (oneL_ok ha hpa oa).2.2.2.1 rfl rfl rfl rfl
   ·have oa : oneL a p = some (⟨a.Boxes, [p.Left, p.Right], mv a.Shuttles (inX a.Shuttles 1 p.Right).toNat 0 p.Left⟩, (inX a.Shuttles 1 p.Right).toNat, mvs a p) := by unfold oneL; rw [dif_neg hc, if_neg h0]
    have ob : oneL b p = some (⟨b.Boxes, [p.Left, p.Right], mv b.Shuttles (inX a.Shuttles 1 p.Right).toNat 0 p.Left⟩, (inX a.Shuttles 1 p.Right).toNat, mvs b p) := by unfold oneL; rw [dif_neg hcb, if_neg (by rw [← e0]; exact h0), e1]
    exact go _ _ _ _ _ _ _ oa ob (oneL_ok ha hpa oa).2.2.2.1 rfl rfl rfl rfl
def rich1 (m : Int) (s : BoxShuttle) : BoxShuttle := { s with Yarn := if m % 3 > m % 5 then ⟨s.Yarn.Low, s.Yarn.High + 1⟩ else ⟨s.Yarn.Low + m % 3, s.Yarn.High + m % 5⟩ }
theorem rich_ok {l : BoxLoom} (hl : LOk l) (hy : ∀ y ∈ l.Shuttles, y.Yarn.High ≤ 20) {m : Int} : LOk ⟨l.Boxes, l.At, l.Shuttles.map (rich1 m)⟩ where
 len := hl.len
 sd := hl.sd
 few := by show (l.Shuttles.map (rich1 m)).length ≤ 6; rw [List.length_map]; exact hl.few
 some := by show 0 < (l.Shuttles.map (rich1 m)).length; rw [List.length_map]; exact hl.some
 sh := fun s hs => by
  obtain ⟨s0, h0, rfl⟩ := List.mem_map.1 hs
  have h1 := hl.sh s0 h0
  have h2 := hy s0 h0
  unfold okS at h1 ⊢
  simp only [Bool.and_eq_true, decide_eq_true_eq] at h1 ⊢
  refine ⟨h1.1, ?_⟩
  have h3 := h1.2
  unfold rich1
  simp only
  split <;> simp only <;> omega
 dst := fun i j hi hj hji => by
  have hi' : i < l.Shuttles.length := by simpa using hi
  have hj' : j < l.Shuttles.length := by simpa using hj
  have := hl.dst i j hi' hj' hji
  simpa [rich1] using this
theorem rich_wh {l : BoxLoom} {m : Int} : Wh l.Shuttles (l.Shuttles.map (rich1 m)) := fun s c i => by
 unfold isAt
 constructor
 ·rintro ⟨h, h1⟩
  exact ⟨by simpa using h, by simpa [rich1] using h1⟩
 ·rintro ⟨h, h1⟩
  exact ⟨by simpa using h, by simpa [rich1] using h1⟩
theorem bnd_rich {l : BoxLoom} {m : Int} {b : Bool} {i : Nat} (hi : i < l.Shuttles.length) : bnd l b i ≤ bnd ⟨l.Boxes, l.At, l.Shuttles.map (rich1 m)⟩ b i := by
 rw [bnd_at hi, bnd_at (l := ⟨l.Boxes, l.At, l.Shuttles.map (rich1 m)⟩) (by simpa using hi)]
 simp only [List.getElem_map, rich1]
 cases b <;> simp only [cond_true, cond_false] <;> split <;> simp only <;> omega
theorem s11 {A B C D : Prop} (x : Race) (truth : List UInt8) (more : UInt8) (hx : A ∧ B ∧ x.Picks.length ≤ 9223372036854775807 ∧ C) (ht : truth.length ≤ 9223372036854775807 ∧ D) (_ : True) : f11 x truth more = some true := by
 have byte : ∀ u : UInt8, (0 : Int) ≤ (u.toNat : Int) ∧ (u.toNat : Int) ≤ 255 := fun u => by have := u.toNat_lt; omega
 refine Yes.eq ?_
 unfold f11
 have known : Yes (f14.bind fun y => some y) (fun r => r = true) := ⟨true, rfl, rfl⟩
 refine Yes.bind ((s38y x).mono fun l hl' => Yes.bind ((s39x hl'.1 x hx.2.2.1 (mst := 24) (by omega)).mono fun z hz => ?_))
 obtain ⟨hl, hy20⟩ := hl'
 obtain ⟨n, hn, hp, hbx, h24, hth, _⟩ := hz
 obtain ⟨ps, z2, z3, z4⟩ := z
 simp only at hn hp hbx h24 hth
 subst hth
 have hfew := hl.few
 have htl := thl_lt hl hp
 have hll := thl_length hn
 refine qbind _ (s15 l hl.sml) (qbind _ (s28 ps (by omega)) (Yes.bind ((s30 hl hp h24).mono fun o ho => qbind _ (s15 l hl.sml) (qbind _ (s28 ps (by omega)) (qbind _ (s29 hl hp h24) (Yes.jn ?_))))))
 rw [hn] at ho ⊢
 obtain ⟨o1, o2, o3⟩ := ho
 obtain ⟨p, q, e⟩ := o
 simp only at o1 o2 o3
 subst o3
 have r1 := o1.rng
 have r2 := o2.rng
 have hlh : ∀ i ∈ thl l ps, bnd l false i ≤ bnd l true i := fun i hi => by
  have := yarn_rng hl (htl i hi)
  rw [bnd_at (htl i hi), bnd_at (htl i hi)]; exact this.2.1
 refine Yes.bind (qskip rfl (qskip rfl (qskip ?_ (qskip (decide_eq_false (by show ¬ p < -1; omega)) (qskip (decide_eq_false (by show ¬ p ≥ (ps.length : Int); omega)) (qskip (decide_eq_false (by show ¬ q < -1; omega)) (qskip (decide_eq_false (by show ¬ q ≥ (ps.length : Int); omega)) ?_)))))))
 ·show (((yl l (thl l ps)).length : Int) != (l.Shuttles.length : Int)) = false
  rw [yl_len]; simp
 refine Yes.mono (Q' := fun b => b = false) ?_ fun b hb => qskip hb ?_
 ·refine Yes.cond (fun hc => ?_) (fun hc => Yes.some rfl)
  have hq : q ≥ 0 := of_decide_eq_true hc
  have := o1.le o2 hlh hq
  exact qskip (decide_eq_false (by show ¬ p < 0; omega)) (Yes.some (decide_eq_false (by show ¬ p > q; omega)))
 refine Yes.jn (Yes.bind (Yes.mono (Q' := fun v => v.length = l.Shuttles.length ∧ ∀ j (h : j < v.length) (h' : j < l.Shuttles.length), l.Shuttles[j].Yarn.Low ≤ v[j] ∧ v[j] ≤ l.Shuttles[j].Yarn.High) ?_ fun v hv => ?_))
 ·refine Yes.upto l.Shuttles.length (by omega) (fun i v => v.length = i ∧ ∀ j (h : j < v.length) (h' : j < l.Shuttles.length), l.Shuttles[j].Yarn.Low ≤ v[j] ∧ v[j] ≤ l.Shuttles[j].Yarn.High) ⟨rfl, fun j h => absurd h (Nat.not_lt_zero _)⟩ (fun i v k hi hI hk => ?_) (fun v k hI => qskip (by simp) (Yes.some hI))
  obtain ⟨h1, h2⟩ := hI
  have hyr := yarn_rng hl hi
  have hr1 : w64 (w64 (l.Shuttles[i].Yarn.High - l.Shuttles[i].Yarn.Low) + 1) = l.Shuttles[i].Yarn.High - l.Shuttles[i].Yarn.Low + 1 := by
   rw [w64_id (n := _ - _) (by omega) (by omega), w64_id (by omega) (by omega)]
  refine Yes.jn (qtake (by simp; omega) (Yes.jn (Yes.bind (Yes.bind (Yes.mono (Q' := fun u => 0 ≤ u) ?_ fun u hu => qbind _ (qidx hi) (qbind (u % (l.Shuttles[i].Yarn.High - l.Shuttles[i].Yarn.Low + 1)) (by rw [hr1]; exact rem_nn hu (by omega)) (Yes.bind ?_)))))))
  ·refine Yes.cond (fun hc => ?_) (fun hc => Yes.some (Int.le_refl _))
   have hlt : (truth.length : Int) > 0 := of_decide_eq_true hc
   have hm : (i : Int) % (truth.length : Int) = ((i % truth.length : Nat) : Int) := by simp
   refine qbind _ (rem_nn (by omega) (by omega)) ?_
   rw [hm]
   exact qbind _ (qidx (Nat.mod_lt _ (by omega))) (Yes.some (byte _).1)
  ·have g1 := Int.emod_nonneg u (show l.Shuttles[i].Yarn.High - l.Shuttles[i].Yarn.Low + 1 ≠ 0 by omega)
   have g2 := Int.emod_lt_of_pos u (show 0 < l.Shuttles[i].Yarn.High - l.Shuttles[i].Yarn.Low + 1 by omega)
   have hw : w64 (l.Shuttles[i].Yarn.Low + u % (l.Shuttles[i].Yarn.High - l.Shuttles[i].Yarn.Low + 1)) = l.Shuttles[i].Yarn.Low + u % (l.Shuttles[i].Yarn.High - l.Shuttles[i].Yarn.Low + 1) := w64_id (by omega) (by omega)
   rw [hw]
   refine Yes.apnd (by simp; omega) (by simp; omega) (Yes.some (hk _ ⟨by simp; omega, fun j h h' => ?_⟩))
   rw [List.getElem_append]
   split
   ·exact h2 j _ h'
   ·have hj : j = i := by simp at h; omega
    subst hj
    rw [List.getElem_singleton]; omega
 obtain ⟨v1, v2⟩ := hv
 have vT : ∀ j (h : j < l.Shuttles.length), l.Shuttles[j].Yarn.Low ≤ v.getD j 0 ∧ v.getD j 0 ≤ l.Shuttles[j].Yarn.High := fun j h => by
  have := v2 j (by omega) h
  rw [List.getD, List.getElem?_eq_getElem (by omega)]; exact this
 have hv0 : v = cl l.Shuttles.length (fun j => v.getD j 0) [] := by
  apply List.ext_getElem (by rw [cl_len, v1])
  intro j h1 h2
  have := v2 j h1 (by omega)
  have hyr := yarn_rng hl (i := j) (by omega)
  rw [cl_at, List.getD, List.getElem?_eq_getElem h1]; simp; omega
 obtain ⟨T, hT0⟩ : ∃ T : Nat → Int, T = fun j => v.getD j 0 := ⟨_, rfl⟩
 have T1 : ∀ j (h : j < l.Shuttles.length), l.Shuttles[j].Yarn.Low ≤ T j ∧ T j ≤ l.Shuttles[j].Yarn.High := fun j h => by rw [hT0]; exact vT j h
 rw [← hT0] at hv0
 clear hT0 vT
 refine Yes.bind (Yes.mono (Q' := fun r => r.1 = cl l.Shuttles.length T (thl l ps) ∧ IsOut T (thl l ps) r.2) ?_ fun r hr => ?_)
 ·refine Yes.upto2 (s0 := v) (t0 := (-1 : Int)) (thl l ps).length (by omega) (fun i v r => v = cl l.Shuttles.length T ((thl l ps).take i) ∧ OutTo T (thl l ps) i r) ⟨hv0, .inl ⟨rfl, fun j hj => absurd hj (Nat.not_lt_zero _)⟩⟩ (fun i u r k hi hI hk => ?_) (fun u r k hI => ?_)
  ·obtain ⟨h1, h2⟩ := hI
   have hti := htl _ (List.getElem_mem hi)
   have hm : (thl l ps)[i] < u.length := by rw [h1, cl_len]; exact hti
   have hxi : idx ((thl l ps).map fun i : Nat => (i : Int)) (i : Int) = some (((thl l ps)[i] : Nat) : Int) := by rw [qidx (by simpa using hi)]; simp
   have hyr := yarn_rng hl hti
   have hT := T1 _ hti
   have hcnt : ((thl l ps).take i).count (thl l ps)[i] ≤ i := Nat.le_trans List.count_le_length (by simp; omega)
   have hui : u[(thl l ps)[i]] = max 0 (T (thl l ps)[i] - (((thl l ps).take i).count (thl l ps)[i] : Nat)) := by subst h1; exact cl_at hm
   have hnext : ∀ r', OutTo T (thl l ps) (i + 1) r' → Yes ((idx ((thl l ps).map fun i : Nat => (i : Int)) (i : Int)).bind fun bH => (idx ((thl l ps).map fun i : Nat => (i : Int)) (i : Int)).bind fun eK => (idx u eK).bind fun dG => (idx u bH).bind fun _ => some ((List.set u (Int.toNat bH) (max64 (0 : Int) (w64 (dG - (1 : Int))))), r')) (fun w => Yes (k (w.1, w.2, w64 ((i : Int) + 1))) fun r => r.1 = cl l.Shuttles.length T (thl l ps) ∧ IsOut T (thl l ps) r.2) := fun r' hr' => by
    refine qbind _ hxi (qbind _ hxi (qbind _ (qidx hm) (qbind _ (qidx hm) (Yes.some (hk _ _ ⟨?_, hr'⟩)))))
    rw [Int.toNat_natCast, max64_eq, w64_id (by rw [hui]; omega) (by rw [hui]; omega)]
    subst h1
    rw [take_succ hi, cl_snoc hm]
   have gA : (u[(thl l ps)[i]] == 0) = true → decide (r < 0) = true → OutTo T (thl l ps) (i + 1) i := fun hc hc2 => by
    have hr : r < 0 := of_decide_eq_true hc2
    have hz : u[(thl l ps)[i]] = 0 := beq_iff_eq.1 hc
    have hc' : OutP T (thl l ps) i := ⟨hi, by rw [take_succ hi, List.count_append, List.count_singleton_self]; rw [hui] at hz; omega⟩
    rcases h2 with ⟨_, h2⟩ | ⟨n', h2, _⟩
    ·exact .inr ⟨i, rfl, hc', h2⟩
    ·omega
   have gB : decide (r < 0) = false → OutTo T (thl l ps) (i + 1) r := fun hc2 => by
    have hr : ¬ r < 0 := of_decide_eq_false hc2
    rcases h2 with ⟨h2, _⟩ | h2
    ·omega
    ·exact .inr h2
   have gC : (u[(thl l ps)[i]] == 0) = false → OutTo T (thl l ps) (i + 1) r := fun hc => by
    have hz : u[(thl l ps)[i]] ≠ 0 := beq_eq_false_iff_ne.1 hc
    have hc' : ¬ OutP T (thl l ps) i := fun ⟨_, h⟩ => by
     rw [take_succ hi, List.count_append, List.count_singleton_self] at h; rw [hui] at hz; omega
    rcases h2 with ⟨h2, h3⟩ | h2
    ·exact .inl ⟨h2, outI_succ h3 hc'⟩
    ·exact .inr h2
   refine Yes.jn (qtake (by simp; omega) (Yes.jn (Yes.bind (Yes.bind (Yes.bind (qbind _ hxi (qbind _ (qidx hm) (Yes.cond (fun hc => Yes.some ?_) (fun hc => Yes.some ?_)))))))))
   ·refine Yes.cond (fun hc2 => Yes.some (hnext _ ?_)) (fun hc2 => Yes.some (hnext _ ?_))
    ·exact gA hc hc2
    ·exact gB hc2
   ·exact qskip rfl (Yes.some (hnext _ (gC hc)))
  ·obtain ⟨h1, h2⟩ := hI
   rw [List.take_length] at h1
   exact Yes.jn (qskip (by simp) (Yes.some ⟨h1, h2.done⟩))
 obtain ⟨vv, i5⟩ := r
 obtain ⟨hr1, hr2⟩ := hr
 simp only at hr1 hr2
 subst hr1
 refine Yes.jn (Yes.upto0 l.Shuttles.length (by omega) (fun _ => True) trivial (fun i k hi _ hk => ?_) (fun k _ => ?_))
 ·have hyr := yarn_rng hl hi
  have hT := T1 i hi
  have hcm : i < (cl l.Shuttles.length T (thl l ps)).length := by rw [cl_len]; exact hi
  have hym : i < (yl l (thl l ps)).length := by rw [yl_len]; exact hi
  refine Yes.jn (qtake (by rw [cl_len]; simp; omega) (Yes.jn (Yes.bind (qbind _ (qidx hcm) (qbind _ (qidx hym) (qskip ?_ (qbind _ (qidx hcm) (qbind _ (qidx hym) (Yes.some (qskip ?_ (hk trivial)))))))))))
  ·refine decide_eq_false ?_
   rw [cl_at, yl_at hym hi]; unfold dcr; simp only; omega
  ·refine decide_eq_false ?_
   rw [cl_at, yl_at hym hi]; unfold dcr; simp only; omega
 refine Yes.jn (qskip (by rw [cl_len]; simp) (Yes.jn ?_))
 have hlT : ∀ i ∈ thl l ps, bnd l false i ≤ T i := fun i hi => by rw [bnd_at (htl i hi)]; exact (T1 i (htl i hi)).1
 have hTh : ∀ i ∈ thl l ps, T i ≤ bnd l true i := fun i hi => by rw [bnd_at (htl i hi)]; exact (T1 i (htl i hi)).2
 refine Yes.bind (Yes.mono (Q' := fun b => b = false) ?_ fun b hb => qskip hb ?_)
 ·have sure : Yes (bif (decide (q ≥ (0 : Int))) then bif (decide (i5 < (0 : Int))) then some true else some (decide (i5 > q)) else some false) (fun b => b = false) := by
   refine Yes.cond (fun hc => ?_) (fun _ => Yes.some rfl)
   have hq : q ≥ 0 := of_decide_eq_true hc
   have := hr2.le o2 hTh hq
   exact qskip (decide_eq_false (by omega)) (Yes.some (decide_eq_false (by omega)))
  refine Yes.cond (fun hc => ?_) (fun _ => sure)
  have h5 : i5 ≥ 0 := of_decide_eq_true hc
  have := o1.le hr2 hlT h5
  exact qskip (decide_eq_false (by show ¬ p < 0; omega)) (qskip (decide_eq_false (by show ¬ i5 < p; omega)) sure)
 refine Yes.jn (qbind _ (s15 l hl.sml) (Yes.bind (Yes.mono (Q' := fun r => r = ⟨l.Boxes, l.At, l.Shuttles.map (rich1 (more.toNat : Int))⟩) ?_ fun r hr => ?_)))
 ·have hb := byte more
  refine Yes.upto l.Shuttles.length (by omega) (fun i r => r = ⟨l.Boxes, l.At, (l.Shuttles.take i).map (rich1 (more.toNat : Int)) ++ l.Shuttles.drop i⟩) (by simp) (fun i r k hi hI hk => ?_) (fun r k hI => ?_)
  ·subst hI
   have hl1 : ((l.Shuttles.take i).map (rich1 (more.toNat : Int))).length = i := by simp; omega
   have hlen : ((l.Shuttles.take i).map (rich1 (more.toNat : Int)) ++ l.Shuttles.drop i).length = l.Shuttles.length := by simp; omega
   have hyr := yarn_rng hl hi
   have hi2 : i < ((l.Shuttles.take i).map (rich1 (more.toNat : Int)) ++ l.Shuttles.drop i).length := by rw [hlen]; exact hi
   have hat : ((l.Shuttles.take i).map (rich1 (more.toNat : Int)) ++ l.Shuttles.drop i)[i] = l.Shuttles[i] := by
    have h0 : i + (i - min i l.Shuttles.length) = i := by omega
    rw [List.getElem_append_right (by omega)]; simp [h0]
   have hset : ∀ s, ((l.Shuttles.take i).map (rich1 (more.toNat : Int)) ++ l.Shuttles.drop i).set i s = (l.Shuttles.take i).map (rich1 (more.toNat : Int)) ++ s :: l.Shuttles.drop (i + 1) := fun s => by
    rw [List.set_append_right _ _ (by omega), hl1, List.drop_eq_getElem_cons hi, Nat.sub_self]; rfl
   have hfin : ∀ s, s = rich1 (more.toNat : Int) l.Shuttles[i] → (l.Shuttles.take i).map (rich1 (more.toNat : Int)) ++ s :: l.Shuttles.drop (i + 1) = (l.Shuttles.take (i + 1)).map (rich1 (more.toNat : Int)) ++ l.Shuttles.drop (i + 1) := fun s hs => by
    rw [hs, take_succ hi, List.map_append]; simp
   have m3 : rem64 (more.toNat : Int) 3 = some ((more.toNat : Int) % 3) := rem_nn hb.1 (by omega)
   have m5 : rem64 (more.toNat : Int) 5 = some ((more.toNat : Int) % 5) := rem_nn hb.1 (by omega)
   refine Yes.jn (qtake (decide_eq_true (by show (i : Int) < (((l.Shuttles.take i).map (rich1 (more.toNat : Int)) ++ l.Shuttles.drop i).length : Int); omega)) (Yes.jn (Yes.bind (qbind (l.Shuttles[i]) (by rw [← hat]; exact qidx hi2) (qbind _ m3 (qbind _ m5 (qbind (⟨w64 (l.Shuttles[i].Yarn.Low + (more.toNat : Int) % 3), w64 (l.Shuttles[i].Yarn.High + (more.toNat : Int) % 5)⟩ : Span) rfl (qbind _ m3 (qbind _ m5 ?_)))))))))
   rw [w64_id (n := l.Shuttles[i].Yarn.Low + (more.toNat : Int) % 3) (by omega) (by omega), w64_id (n := l.Shuttles[i].Yarn.High + (more.toNat : Int) % 5) (by omega) (by omega), Int.toNat_natCast]
   refine Yes.cond (fun hc => ?_) (fun hc => Yes.some (hk _ ?_))
   ·have hc := of_decide_eq_true hc
    refine qbind (⟨l.Shuttles[i].Yarn.Low, w64 (l.Shuttles[i].Yarn.High + 1)⟩ : Span) rfl ?_
    have hlen2 : i < (((l.Shuttles.take i).map (rich1 (more.toNat : Int)) ++ l.Shuttles.drop i).set i { l.Shuttles[i] with Yarn := ⟨l.Shuttles[i].Yarn.Low + (more.toNat : Int) % 3, l.Shuttles[i].Yarn.High + (more.toNat : Int) % 5⟩ }).length := by rw [List.length_set]; exact hi2
    refine qbind _ (qidx hlen2) (Yes.some (hk _ ?_))
    show (⟨l.Boxes, l.At, _⟩ : BoxLoom) = ⟨l.Boxes, l.At, _⟩
    congr 1
    show List.set (List.set _ _ _) _ _ = _
    rw [List.set_set, List.getElem_set_self, hset, hfin _ ?_]
    unfold rich1; rw [if_pos hc, w64_id (by omega) (by omega)]
   ·have hc := of_decide_eq_false hc
    show (⟨l.Boxes, l.At, _⟩ : BoxLoom) = ⟨l.Boxes, l.At, _⟩
    congr 1
    show List.set _ _ _ = _
    rw [hset, hfin _ ?_]
    unfold rich1; rw [if_neg hc]
  ·subst hI
   refine Yes.jn (qskip (decide_eq_false (by show ¬ (l.Shuttles.length : Int) < (((l.Shuttles.take l.Shuttles.length).map (rich1 (more.toNat : Int)) ++ l.Shuttles.drop l.Shuttles.length).length : Int); simp)) (Yes.some ?_))
   rw [List.take_length, List.drop_length, List.append_nil]
 subst hr
 have hR := rich_ok hl hy20 (m := (more.toNat : Int))
 obtain ⟨w1, w2⟩ := run_wh (ps := ps) hl hR rfl rich_wh (by simp) hp
 refine qbind _ (s28 ps (by omega)) (Yes.bind ((s30 hR (ps := ps) hp h24).mono fun a ha => Yes.bind ?_))
 have hnn : ∃ n', thr ⟨l.Boxes, l.At, l.Shuttles.map (rich1 (more.toNat : Int))⟩ ps = some n' := by
  cases hh : thr ⟨l.Boxes, l.At, l.Shuttles.map (rich1 (more.toNat : Int))⟩ ps with
  | none => rw [w2.2 hh] at hn; cases hn
  | some n' => exact ⟨n', rfl⟩
 obtain ⟨n', hn'⟩ := hnn
 rw [hn'] at ha
 obtain ⟨a1, a2, a3⟩ := ha
 rw [← w1] at a1 a2
 have kn : Yes (f14.bind fun y => some y) (fun r => Yes (some r) fun r => r = true) := ⟨true, rfl, true, rfl, rfl⟩
 have fl : ∀ i ∈ thl l ps, bnd l false i ≤ bnd ⟨l.Boxes, l.At, l.Shuttles.map (rich1 (more.toNat : Int))⟩ false i := fun i hi => bnd_rich (htl i hi)
 have fh : ∀ i ∈ thl l ps, bnd l true i ≤ bnd ⟨l.Boxes, l.At, l.Shuttles.map (rich1 (more.toNat : Int))⟩ true i := fun i hi => bnd_rich (htl i hi)
 refine qtake (by rw [a3]; rfl) ?_
 have second : Yes (bif (decide (a.2.1 < (0 : Int))) then (f14).bind fun y => some y else bif (decide (q ≥ (0 : Int))) then bif (decide (a.2.1 ≥ q)) then (f14).bind fun y => some y else some false else some false) (fun r => Yes (some r) fun r => r = true) := by
  refine Yes.cond (fun _ => kn) (fun hc => ?_)
  have h0 : ¬ a.2.1 < 0 := of_decide_eq_false hc
  have := o2.le a2 fh (by omega)
  exact qtake (decide_eq_true (by omega)) (qtake (decide_eq_true (by omega)) kn)
 refine Yes.cond (fun _ => second) (fun hc => ?_)
 have h0 : ¬ a.1 < 0 := of_decide_eq_false hc
 have := o1.le a1 fl (by omega)
 exact qtake (decide_eq_true (by show p ≥ 0; omega)) (qtake (decide_eq_true (by show a.1 ≥ p; omega)) second)
end Go.Proofs.Ytmpjooneiaiffaa
