/- Laws of plain functions, part 2. -/
import Derived.Test.YtcjpochjapnoaaaGreatLawF1
set_option maxRecDepth 8000
namespace Go.Proofs.YtcjpochjapnoaaaGreat
open Go.RowKit
open Classical
theorem s90F {l : FaultLoom} (g : GoodF l) {σ : Type} {cons : Cons σ FaultDamage} {s t : σ} (h : feedF cons (allDsF l) s = some t) : f53 ⟨l⟩ σ cons s = some t := by
 have h1 := g.h1
 have h24 := g.h24
 have r1 := g.r1
 have w1 := g.w1
 have hs := len_smallF g
 refine Yes.eq ?_
 unfold f53
 obtain ⟨H, hH⟩ : ∃ H : Nat, l.Design.Hooks = (H : Int) := ⟨l.Design.Hooks.toNat, by omega⟩
 have eH : l.Design.Hooks.toNat = H := by omega
 simp only
 rw [hH]
 rw [eH] at hs
 have e0 : w64 ((l.Design.Rows.length : Int) * (H : Int)) = ((l.Design.Rows.length * H : Nat) : Int) := by
  rw [← Int.natCast_mul]
  generalize l.Design.Rows.length * H = q at hs
  exact w64_id (by omega) (by omega)
 rw [e0]
 unfold allDsF at h
 rw [eH] at h
 have r1 : l.Design.Rows.length ≤ 60 := g.r1
 generalize hn : l.Design.Rows.length = n at *
 generalize hm : l.Harness.Warps.length = m at *
 have hHp : 0 < H := by omega
 refine Yes.bind ?_
 refine Yes.upto (n * H) (by omega) (fun i r => r = (List.range i).map fun i => (⟨1, ((i / H : Nat) : Int), ((i % H : Nat) : Int), 0, false⟩ : FaultDamage)) rfl (fun i r k hi hI hk' => ?_) (fun r k hI => ?_)
 ·subst hI
  refine Yes.cond (fun _ => Yes.bind (Yes.bind (Yes.of (quo_natF hHp (by omega)) (Yes.bind (Yes.of (rem_natF hHp) (Yes.bind (Yes.apnd (by simp; omega) (by simp; omega) (Yes.some (hk' _ ?_))))))))) (fun h => absurd h (by simp; exact_mod_cast hi))
  rw [List.range_succ, List.map_append]; rfl
 refine Yes.cond (fun h => absurd h (by simp)) (fun _ => Yes.some (Yes.bind ?_))
 rw [range_mulF (fun p h => (⟨1, (p : Int), (h : Int), 0, false⟩ : FaultDamage)) H hHp n] at hI
 change r = aCardF n H at hI
 subst hI
 refine Yes.upto H (by omega) (fun i r => r = aCardF n H ++ aNdlF i) (by simp [aNdlF]) (fun i r k hi hI hk' => ?_) (fun r k hI => ?_)
 ·subst hI
  refine Yes.cond (fun _ => Yes.bind (Yes.bind (Yes.apnd (by simp [aCard_lenF, aNdl_lenF]; omega) (by simp [aCard_lenF, aNdl_lenF]; omega) (Yes.some (hk' _ ?_))))) (fun h => absurd h (by simp; omega))
  unfold aNdlF
  rw [List.range_succ, List.flatMap_append, List.append_assoc]; rfl
 refine Yes.cond (fun h => absurd h (by simp)) (fun _ => Yes.some (Yes.bind ?_))
 subst hI
 refine Yes.upto 2 (by omega) (fun i r => r = aCardF n H ++ aNdlF H ++ (if 0 < i then aRowF 3 n else []) ++ (if 1 < i then aRowF 4 n else [])) (by simp) (fun i r k hi hI hk' => ?_) (fun r k hI => ?_)
 ·subst hI
  refine Yes.cond (fun _ => Yes.bind (Yes.bind (Yes.idx rfl (by simpa using hi) ?_))) (fun h => absurd h (by simp; omega))
  match i, hi with
  | 0, _ =>
   refine Yes.upto n (by omega) (fun i r => r = aCardF n H ++ aNdlF H ++ aRowF 3 i) (by simp [aRowF]) (fun i r k2 hi hI hk2 => ?_) (fun r k2 hI => ?_)
   ·subst hI
    refine Yes.cond (fun _ => Yes.bind (Yes.bind (Yes.apnd (by simp [aCard_lenF, aNdl_lenF, aRowF]; omega) (by simp [aCard_lenF, aNdl_lenF, aRowF]; omega) (Yes.some (hk2 _ ?_))))) (fun h => absurd h (by simp; omega))
    unfold aRowF
    rw [List.range_succ, List.map_append, List.append_assoc (aCardF n H ++ aNdlF H)]; rfl
   ·subst hI
    exact Yes.cond (fun h => absurd h (by simp)) (fun _ => Yes.some (hk' _ (by simp)))
  | 1, _ =>
   refine Yes.upto n (by omega) (fun i r => r = aCardF n H ++ aNdlF H ++ aRowF 3 n ++ aRowF 4 i) (by simp [aRowF]) (fun i r k2 hi hI hk2 => ?_) (fun r k2 hI => ?_)
   ·subst hI
    refine Yes.cond (fun _ => Yes.bind (Yes.bind (Yes.apnd (by simp [aCard_lenF, aNdl_lenF, aRowF]; omega) (by simp [aCard_lenF, aNdl_lenF, aRowF]; omega) (Yes.some (hk2 _ ?_))))) (fun h => absurd h (by simp; omega))
    rw [show aRowF 4 (i + 1) = aRowF 4 i ++ [⟨4, (i : Int), 0, 0, false⟩] by unfold aRowF; rw [List.range_succ, List.map_append]; rfl, ← List.append_assoc]; rfl
   ·subst hI
    exact Yes.cond (fun h => absurd h (by simp)) (fun _ => Yes.some (hk' _ (by simp)))
  | i + 2, hi => omega
 refine Yes.cond (fun h => absurd h (by simp)) (fun _ => Yes.some (Yes.bind ?_))
 simp only [show (0 : Nat) < 2 by decide, show (1 : Nat) < 2 by decide, if_true] at hI
 subst hI
 refine Yes.upto m (by omega) (fun i r => r = aCardF n H ++ aNdlF H ++ aRowF 3 n ++ aRowF 4 n ++ aThrF i) (by simp [aThrF]) (fun i r k hi hI hk' => ?_) (fun r k hI => ?_)
 ·subst hI
  refine Yes.cond (fun _ => Yes.bind (Yes.bind (Yes.apnd (by simp [aCard_lenF, aNdl_lenF, aRowF, aThrF]; omega) (by simp [aCard_lenF, aNdl_lenF, aRowF, aThrF]; omega) (Yes.some (hk' _ ?_))))) (fun h => absurd h (by simp; omega))
  rw [show aThrF (i + 1) = aThrF i ++ [⟨5, 0, 0, (i : Int), false⟩] by unfold aThrF; rw [List.range_succ, List.map_append]; rfl, ← List.append_assoc]
 refine Yes.cond (fun h => absurd h (by simp)) (fun _ => Yes.some ?_)
 change r = aDsF n H m at hI
 subst hI
 have hlen : (aDsF n H m).length ≤ 2000 := by rw [aDs_lenF]; omega
 generalize aDsF n H m = ds at *
 refine Yes.upto ds.length (by omega) (fun i s => feedF cons (ds.drop i) s = some t) h (fun i s k hi hI hk' => ?_) (fun s k hI => ?_)
 ·rw [List.drop_eq_getElem_cons hi] at hI
  obtain ⟨⟨b, s'⟩, hc, hr⟩ := bsome hI
  refine Yes.cond (fun _ => Yes.jn (Yes.bind (Yes.idx rfl hi (Yes.bind (Yes.of hc (Yes.cond (fun hb => ?_) (fun hb => ?_))))))) (fun h => absurd h (by simp; omega))
  ·have hb : b = false := by simpa using hb
   subst hb
   exact Yes.some (Option.some.inj hr)
  ·have hb : b = true := by simpa using hb
   subst hb
   exact hk' _ hr
 ·rw [List.drop_length] at hI
  exact Yes.cond (fun h => absurd h (by simp)) (fun _ => Yes.some (Option.some.inj hI))
def shF (l : FaultLoom) (d : FaultDamage) : Bool := !decide (rndF l [d] = rndF l [])
theorem s55_nilF {l : FaultLoom} (g : GoodF l) : f52 ⟨l⟩ [] = some (rndF l []) := s55F g s78_nilF (by simp) (by simp) (fun x hx => by cases hx)
theorem rnd_lenF (l : FaultLoom) (ds : List FaultDamage) : (rndF l ds).length = l.Design.Rows.length := by simp [rndF, clothOfF]
theorem allDs_okF {l : FaultLoom} (g : GoodF l) : ∀ d ∈ allDsF l, dmgF l d = true := by
 have h1 := g.h1
 intro d hd
 unfold allDsF aDsF at hd
 simp only [List.mem_append] at hd
 rcases hd with (((hd | hd) | hd) | hd) | hd
 ·obtain ⟨p, hp, hd⟩ := List.mem_flatMap.1 hd
  obtain ⟨h, hh, rfl⟩ := List.mem_map.1 hd
  have hp := List.mem_range.1 hp
  have hh := List.mem_range.1 hh
  simp [dmgF, btwF]; omega
 ·obtain ⟨h, hh, hd⟩ := List.mem_flatMap.1 hd
  have hh := List.mem_range.1 hh
  simp only [List.mem_cons, List.not_mem_nil, or_false] at hd
  rcases hd with rfl | rfl <;> simp [dmgF, btwF] <;> omega
 ·obtain ⟨p, hp, rfl⟩ := List.mem_map.1 hd
  have hp := List.mem_range.1 hp
  simp [dmgF, btwF]; omega
 ·obtain ⟨p, hp, rfl⟩ := List.mem_map.1 hd
  have hp := List.mem_range.1 hp
  simp [dmgF, btwF]; omega
 ·obtain ⟨p, hp, rfl⟩ := List.mem_map.1 hd
  have hp := List.mem_range.1 hp
  simp [dmgF, btwF]; omega
def showsF (l : FaultLoom) : List FaultDamage := (allDsF l).filter (shF l)
theorem feed_showF {l : FaultLoom} (g : GoodF l) {σ : Type} {cons : Cons σ (FaultDamage × (List Str))} {t : σ} : ∀ (ds : List FaultDamage) (s : σ), (∀ d ∈ ds, dmgF l d = true) → feedF cons ((ds.filter (shF l)).map fun d => (d, rndF l [d])) s = some t →
  ∃ st, feedF (guardC fun cs xa => (f52 ⟨l⟩ (([xa] : List FaultDamage))).bind fun y44 => Option.bind (α := σ × Bool) ((f54 y44 (rndF l [])).bind fun y55 => bif (!y55) then (cons cs (xa, y44)).bind fun (yb59, ys59) => some (ys59, (!yb59)) else some (cs, false)) fun (cs_61, s26_61) =>
   bif s26_61 then some (false, ((1 : Nat), (cs_61))) else some (true, ((0 : Nat), (cs_61)))) ds ((0 : Nat), s) = some (st, t)
 | [], s, _, h => ⟨0, by rw [← Option.some.inj h]; rfl⟩
 | d :: ds, s, hv, h => by
  have hd := hv d List.mem_cons_self
  have hds : ∀ d ∈ ds, dmgF l d = true := fun x hx => hv x (List.mem_cons_of_mem _ hx)
  have hr1 := g.r1
  unfold feedF
  have e1 : f52 ⟨l⟩ [d] = some (rndF l [d]) := s55_oneF g hd
  have e2 : f54 (rndF l [d]) (rndF l []) = some (decide (rndF l [d] = rndF l [])) := s71F _ _ (by rw [rnd_lenF]; omega)
  have e3 : decide (rndF l [d] = rndF l []) = !shF l d := by simp [shF]
  simp only [guardC, e1, e2, Option.bind_some, e3, Bool.not_not, Nat.beq_refl, cond_true]
  cases hs : shF l d with
  | false =>
   rw [List.filter_cons_of_neg (by simp [hs])] at h
   simpa using feed_showF g ds s hds h
  | true =>
   rw [List.filter_cons_of_pos hs, List.map_cons] at h
   obtain ⟨⟨b, s'⟩, hc, hr⟩ := bsome h
   simp only [cond_true, hc, Option.bind_some]
   cases b with
   | false =>
    have : s' = t := Option.some.inj hr
    subst this
    exact ⟨1, rfl⟩
   | true => simpa using feed_showF g ds s' hds hr
theorem s64F {l : FaultLoom} (g : GoodF l) {σ : Type} {cons : Cons σ (FaultDamage × (List Str))} {s t : σ} (h : feedF cons ((showsF l).map fun d => (d, rndF l [d])) s = some t) : f26 ⟨l⟩ σ cons s = some t := by
 obtain ⟨st, hst⟩ := feed_showF g (allDsF l) s (allDs_okF g) h
 have h90 := s90F g hst
 unfold f26
 simp only [s55_nilF g, Option.bind_some, h90]
 cases Nat.beq st 0 <;> rfl
theorem feed_appF {α β : Type} {cons : Cons (List β) α} (f : α → List β) (B : Nat) : ∀ (xs : List α) (m : List β), (∀ x ∈ xs, (f x).length ≤ 1) → m.length + xs.length ≤ B → (∀ m x, x ∈ xs → m.length < B → cons m x = some (true, m ++ f x)) → feedF cons xs m = some (m ++ xs.flatMap f)
 | [], m, _, _, _ => by simp [feedF]
 | x :: xs, m, h1, hB, h => by
  unfold feedF
  have hx := h1 x List.mem_cons_self
  simp only [List.length_cons] at hB
  rw [h m x List.mem_cons_self (by omega)]
  simp only [Option.bind_some, cond_true]
  rw [feed_appF f B xs (m ++ f x) (fun y hy => h1 y (List.mem_cons_of_mem _ hy)) (by rw [List.length_append]; omega) (fun m y hy hm => h m y (List.mem_cons_of_mem _ hy) hm)]
  simp
theorem shows_lenF {l : FaultLoom} (g : GoodF l) : (showsF l).length ≤ 2000 := Nat.le_trans (List.length_filter_le _ _) (allDs_lenF g)
theorem s47F (l : FaultLoom) : f8 l = some (if loomEF l = 0 then (showsF l, 0) else ([], loomEF l)) := by
 refine Yes.eq ?_
 unfold f8
 refine Yes.jn (Yes.bind (Yes.of (s50F l) (Yes.cond (fun h => Yes.some ?_) (fun h => ?_))))
 ·have h : loomEF l ≠ 0 := by simpa using h
  rw [if_neg h]
 have h : loomEF l = 0 := by simpa using h
 have g := good_ofF h
 have hl := shows_lenF g
 rw [if_pos h]
 refine Yes.bind (Yes.bind ?_)
 have hf := feed_appF (cons := fun m2_55 (q : FaultDamage × List Str) => (apnd 40 m2_55 (([q.1] : List FaultDamage))).bind fun y63 => some (true, (y63))) (fun q => [q.1]) 3000 ((showsF l).map fun d => (d, rndF l [d])) [] (fun _ _ => by simp) (by simp; omega) (fun m x _ hm => by
  have : apnd 40 m [x.1] = some (m ++ [x.1]) := Yes.eq (Yes.apnd (by simp; omega) (by simp; omega) rfl)
  rw [this]; rfl)
 refine Yes.of (s64F g hf) (Yes.some (Yes.some ?_))
 have : ∀ ds : List FaultDamage, (ds.map fun d => (d, rndF l [d])).flatMap (fun q => [q.1]) = ds := fun ds => by induction ds <;> simp_all
 rw [this]; rfl
theorem chk_goodF {l : FaultLoom} {ds : List FaultDamage} (h : chkEF l ds = 0) : GoodF l ∧ ds.length ≤ 100 ∧ ∀ d ∈ ds, dmgF l d = true := by
 unfold chkEF at h
 split at h
 ·rename_i h1; exact absurd h h1
 rename_i h1
 have h1 := Decidable.not_not.1 h1
 split at h
 ·cases h
 split at h
 ·rename_i h2 h3; exact ⟨good_ofF h1, by omega, List.all_eq_true.1 h3⟩
 ·cases h
theorem rowFrom_noneF {d : Nat → Bool} {i m : Nat} (h : ∀ w, w < m → d w = false) : ∀ k, 0 < m → rowFromF d i m k = []
 | 0, _ => rfl
 | k + 1, hm => by unfold rowFromF; rw [h _ (by omega), rowFrom_noneF h k hm]; rfl
theorem rowFrom_someF {d : Nat → Bool} {i m w : Nat} (hd : d w = true) (hw : w < m) : ∀ k, m - w ≤ k → k ≤ m → rowFromF d i m k ≠ []
 | 0, h, _ => by omega
 | k + 1, h, hkF => by
  unfold rowFromF
  by_cases e : m - (k + 1) = w
  ·rw [e, hd]; simp
  ·intro hh
   exact rowFrom_someF hd hw k (by omega) (by omega) (List.append_eq_nil_iff.1 hh).2
theorem mark_injF {a b : Bool} (h : markF a = markF b) : a = b := by cases a <;> cases b <;> first | rfl | cases h
theorem line_eqF {m : Nat} {c c' : Nat → Bool} : lineF m c = lineF m c' ↔ ∀ w, w < m → c w = c' w := by
 constructor
 ·intro h w hw
  have h1 : (lineF m c).b[w]'(by rw [line_lenF]; exact hw) = (lineF m c').b[w]'(by rw [line_lenF]; exact hw) := by simp only [h]
  rw [line_atF, line_atF] at h1
  exact mark_injF h1
 ·intro h
  unfold lineF
  congr 1
  exact List.map_congr_left fun w hw => by rw [h w (List.mem_range.1 hw)]
theorem row_nilF {m i : Nat} {c c' : Nat → Bool} (hm : 0 < m) : rowFromF (fun w => c w != c' w) i m m = [] ↔ lineF m c = lineF m c' := by
 rw [line_eqF]
 constructor
 ·intro h w hw
  by_cases e : c w = c' w
  ·exact e
  ·exact absurd h (rowFrom_someF (d := fun w => c w != c' w) (by simpa using e) hw m (by omega) (Nat.le_refl _))
 ·intro h
  exact rowFrom_noneF (fun w hw => by simpa using h w hw) m hm
theorem cloth_eqF {n m : Nat} {c c' : Nat → Nat → Bool} : clothOfF n m c = clothOfF n m c' ↔ ∀ p, p < n → lineF m (c p) = lineF m (c' p) := by
 constructor
 ·intro h p hp
  have h1 : (clothOfF n m c)[p]'(by rw [cloth_lenF]; exact hp) = (clothOfF n m c')[p]'(by rw [cloth_lenF]; exact hp) := by simp only [h]
  rwa [cloth_atF, cloth_atF] at h1
 ·intro h
  unfold clothOfF
  exact List.map_congr_left fun p hp => h p (List.mem_range.1 hp)
theorem plFrom_nilF {n m : Nat} {c c' : Nat → Nat → Bool} (hm : 0 < m) : ∀ k, k ≤ n → (plFromF (fun p w => c p w != c' p w) n m k = [] ↔ ∀ p, n - k ≤ p → p < n → lineF m (c p) = lineF m (c' p))
 | 0, _ => by simp [plFromF]; omega
 | k + 1, hkF => by
  unfold plFromF
  rw [List.append_eq_nil_iff, row_nilF hm, plFrom_nilF hm k (by omega)]
  constructor
  ·rintro ⟨h1, h2⟩ p hp hpn
   by_cases e : p = n - (k + 1)
   ·subst e; exact h1
   ·exact h2 p (by omega) hpn
  ·intro h
   exact ⟨h _ (Nat.le_refl _) (by omega), fun p hp hpn => h p (by omega) hpn⟩
section
variable (e : Nat → Nat → Bool)
end
def openEF (l : FaultLoom) (ds : List FaultDamage) (k : Int) : Int := if chkEF l ds ≠ 0 then chkEF l ds else if btwF 1 120 k then 0 else 3
theorem s54F (l : FaultLoom) (ds : List FaultDamage) (k : Int) : f55 l ds k = some (openEF l ds k) := by
 refine Yes.eq ?_
 unfold f55
 refine Yes.jn (Yes.bind (Yes.of (s18F _ _) (Yes.cond (fun h => Yes.some ?_) (fun h => Yes.jn (Yes.bind (Yes.of (s62F 1 120 [k] (by simp)) (Yes.cond (fun h2 => Yes.some ?_) (fun h2 => Yes.some ?_))))))))
 ·have h : chkEF l ds ≠ 0 := by simpa using h
  unfold openEF; rw [if_pos h]
 all_goals
  have h : ¬ chkEF l ds ≠ 0 := by simpa using h
  simp only [List.all_cons, List.all_nil, Bool.and_true, ← btwF.eq_1] at h2
 ·have h2 : btwF 1 120 k = false := by simpa using h2
  unfold openEF; rw [if_neg h, h2]; rfl
 ·have h2 : btwF 1 120 k = true := by simpa using h2
  unfold openEF; rw [if_neg h, h2]; rfl
def cthNF (l : FaultLoom) (ds : List FaultDamage) (k : Nat) : List Str := clothOfF k l.Harness.Warps.length fun p w => rcF l ds (p % l.Design.Rows.length) w
theorem s19F {l : FaultLoom} {ds ds' : List FaultDamage} {k : Int} (hs : f86 ds (fun a0 a1 => f87 a0 a1) = some ds') (hl' : ds'.length ≤ 100000) (hall : ∀ d ∈ ds', dmgF l d = true) (ho : openEF l ds k = 0) : f28 l ds k = some (cthNF l ds' k.toNat, 0) := by
 have hc : chkEF l ds = 0 := by
  unfold openEF at ho
  split at ho
  ·rename_i h1; exact absurd ho h1
  ·rename_i h1; exact Decidable.not_not.1 h1
 have hkF : 1 ≤ k ∧ k ≤ 120 := by
  unfold openEF at ho
  rw [if_neg (fun hh => hh hc)] at ho
  split at ho
  ·rename_i hb; simpa [btwF] using hb
  ·cases ho
 obtain ⟨g, hlen, hd⟩ := chk_goodF hc
 refine Yes.eq ?_
 unfold f28
 refine Yes.jn (Yes.bind (Yes.of (s54F l ds k) (Yes.cond (fun h => absurd (by simpa using h) (by rw [ho]; simp)) (fun _ => Yes.bind (Yes.of (s55F g hs (by omega) hl' hall) (Yes.bind ?_))))))
 rw [rnd_isF]
 have hr0 := g.r0
 have hr1 := g.r1
 obtain ⟨kn, rfl⟩ := Int.eq_ofNat_of_zero_le (show 0 ≤ k by omega)
 rw [Int.toNat_natCast, cloth_lenF]
 refine Yes.upto kn (by omega) (fun i r => r = cthNF l ds' i) rfl (fun i r k2 hi hI hk2 => ?_) (fun r k2 hI => ?_)
 ·subst hI
  have hlt : i % l.Design.Rows.length < l.Design.Rows.length := Nat.mod_lt _ hr0
  refine Yes.cond (fun _ => Yes.bind (Yes.bind (Yes.of (rem_natF hr0) (Yes.bind (Yes.idx rfl (by rw [cloth_lenF]; exact hlt) ?_))))) (fun h => absurd h (by simp; omega))
  rw [cloth_atF]
  refine Yes.bind (Yes.apnd (by unfold cthNF; rw [cloth_lenF]; simp; omega) (by unfold cthNF; rw [cloth_lenF]; simp; omega) (Yes.some (hk2 _ ?_)))
  unfold cthNF clothOfF
  rw [List.range_succ, List.map_append]; rfl
 ·subst hI
  exact Yes.cond (fun h => absurd h (by simp)) (fun _ => Yes.some (Yes.some rfl))
theorem open_okF {l : FaultLoom} {ds : List FaultDamage} {k : Int} (hc : chkEF l ds = 0) (h1 : 1 ≤ k) (h2 : k ≤ 120) : openEF l ds k = 0 := by
 unfold openEF; rw [if_neg (fun hh => hh hc), if_pos (by simp [btwF]; omega)]
theorem chk_okF {l : FaultLoom} {ds : List FaultDamage} (g : loomEF l = 0) (hl : ds.length ≤ 100) (hd : ∀ d ∈ ds, dmgF l d = true) : chkEF l ds = 0 := by
 unfold chkEF; rw [if_neg (fun hh => hh g), if_neg (by omega), if_pos (List.all_eq_true.2 hd)]
theorem plFrom_rangeF (d : Nat → Nat → Bool) (n m : Nat) : ∀ k, k ≤ n → plFromF d n m k = ((List.range n).drop (n - k)).flatMap fun i => rowFromF (d i) i m m
 | 0, _ => by rw [Nat.sub_zero, List.drop_eq_nil_of_le (by simp)]; rfl
 | k + 1, h => by
  rw [plFromF, plFrom_rangeF d n m k (by omega)]
  rw [show (List.range n).drop (n - (k + 1)) = (n - (k + 1)) :: (List.range n).drop (n - k) by
   rw [List.drop_eq_getElem_cons (by simp; omega)]
   simp only [List.getElem_range]
   rw [show n - (k + 1) + 1 = n - k by omega]]
  simp
theorem pl_rangeF (d : Nat → Nat → Bool) (n m : Nat) : plF n m d = (List.range n).flatMap fun i => rowFromF (d i) i m m := by
 unfold plF; rw [plFrom_rangeF d n m n (Nat.le_refl _)]; simp
theorem rowFrom_congrF {d d' : Nat → Bool} {i m : Nat} (h : ∀ w, w < m → d w = d' w) : ∀ k, 0 < m → rowFromF d i m k = rowFromF d' i m k
 | 0, _ => rfl
 | k + 1, hm => by unfold rowFromF; rw [h _ (by omega), rowFrom_congrF h k hm]
theorem fm_congrF {α β : Type} {f g : α → List β} {xs : List α} (h : ∀ x ∈ xs, f x = g x) : xs.flatMap f = xs.flatMap g := by
 induction xs with
 | nil => rfl
 | cons x xs ih => rw [List.flatMap_cons, List.flatMap_cons, h x List.mem_cons_self, ih fun y hy => h y (List.mem_cons_of_mem _ hy)]
theorem pl_congrF {d d' : Nat → Nat → Bool} {n m : Nat} (hm : 0 < m) (h : ∀ p w, p < n → w < m → d p w = d' p w) : plF n m d = plF n m d' := by
 rw [pl_rangeF, pl_rangeF]
 exact fm_congrF fun i hi => rowFrom_congrF (fun w hw => h i w (List.mem_range.1 hi) hw) m hm
def shiftPF (n : Nat) (q : Int × Int) : Int × Int := (q.1 + (n : Int), q.2)
theorem rowFrom_shiftF (d : Nat → Bool) (n i m : Nat) : ∀ k, rowFromF d (n + i) m k = (rowFromF d i m k).map (shiftPF n)
 | 0 => rfl
 | k + 1 => by
  unfold rowFromF
  rw [rowFrom_shiftF d n i m k, List.map_append]
  congr 1
  split
  ·simp [shiftPF]; omega
  ·rfl
theorem pl_twoF (D : Nat → Nat → Bool) (n m : Nat) : plF (n + n) m (fun p w => D (p % n) w) = plF n m D ++ (plF n m D).map (shiftPF n) := by
 rw [pl_rangeF, pl_rangeF, List.range_add, List.flatMap_append]
 congr 1
 ·exact fm_congrF fun i hi => by rw [Nat.mod_eq_of_lt (List.mem_range.1 hi)]
 ·rw [List.map_flatMap]
  have : ∀ xs : List Nat, (∀ x ∈ xs, x < n) → ((xs.map fun x => n + x).flatMap fun i => rowFromF (fun w => D (i % n) w) i m m) = xs.flatMap fun i => (rowFromF (D i) i m m).map (shiftPF n) := fun xs => by
   induction xs with
   | nil => intro _; rfl
   | cons x xs ih =>
    intro h
    rw [List.map_cons, List.flatMap_cons, List.flatMap_cons, ih fun y hy => h y (List.mem_cons_of_mem _ hy)]
    rw [Nat.add_mod_left, Nat.mod_eq_of_lt (h x List.mem_cons_self), rowFrom_shiftF]
  exact this (List.range n) fun x hx => List.mem_range.1 hx
theorem s20F {l : FaultLoom} {ds ds' : List FaultDamage} {k : Nat} (hs : f86 ds (fun a0 a1 => f87 a0 a1) = some ds') (hl' : ds'.length ≤ 100000) (hall : ∀ d ∈ ds', dmgF l d = true) (ho : openEF l ds k = 0) (ho0 : openEF l [] k = 0) (g : GoodF l) (hkF : k ≤ 120) :
  f10 l ds k = some (wrsF (fun p w => rcF l ds' (p % l.Design.Rows.length) w) (plF k l.Harness.Warps.length fun p w => rcF l ds' (p % l.Design.Rows.length) w != rcF l [] (p % l.Design.Rows.length) w), 0) := by
 have hw1 := g.w1
 refine Yes.eq ?_
 unfold f10
 refine Yes.bind (Yes.of (s19F hs hl' hall ho) (Yes.jn (Yes.cond (fun h => nomatch h) (fun _ => Yes.bind (Yes.of (s19F s78_nilF (by simp) (fun x hx => by cases hx) ho0) (Yes.bind (Yes.bind ?_)))))))
 rw [Int.toNat_natCast]
 have hpl : ∀ q ∈ plF k l.Harness.Warps.length (fun p w => rcF l ds' (p % l.Design.Rows.length) w != rcF l [] (p % l.Design.Rows.length) w), ∃ p w : Nat, q = ((p : Int), (w : Int)) ∧ p < k ∧ w < l.Harness.Warps.length := fun q hq => by
  rw [pl_rangeF] at hq
  obtain ⟨p, hp, hq⟩ := List.mem_flatMap.1 hq
  have : ∀ j, j ≤ l.Harness.Warps.length → q ∈ rowFromF (fun w => rcF l ds' (p % l.Design.Rows.length) w != rcF l [] (p % l.Design.Rows.length) w) p l.Harness.Warps.length j → ∃ w : Nat, q = ((p : Int), (w : Int)) ∧ w < l.Harness.Warps.length := fun j => by
   induction j with
   | zero => intro _ h; cases h
   | succ j ih =>
    intro hj h
    unfold rowFromF at h
    rcases List.mem_append.1 h with h | h
    ·split at h
     ·exact ⟨_, List.mem_singleton.1 h, by omega⟩
     ·cases h
    ·exact ih (by omega) h
  obtain ⟨w, h1, h2⟩ := this _ (Nat.le_refl _) hq
  exact ⟨p, w, h1, List.mem_range.1 hp, h2⟩
 have hlen : (plF k l.Harness.Warps.length (fun p w => rcF l ds' (p % l.Design.Rows.length) w != rcF l [] (p % l.Design.Rows.length) w)).length ≤ 12000 := by
  have := plFrom_lenF (fun p w => rcF l ds' (p % l.Design.Rows.length) w != rcF l [] (p % l.Design.Rows.length) w) k l.Harness.Warps.length k
  have h2 : k * l.Harness.Warps.length ≤ 120 * 96 := Nat.mul_le_mul hkF hw1
  unfold plF; omega
 have hf := feed_appF (cons := fun m6_128 (q : Int × Int) => (idx (cthNF l ds' k) q.1).bind fun y132 => (idx y132.b q.2).bind fun y135 => (apnd 24 m6_128 [(⟨q.1, q.2, (y135 == (120 : UInt8))⟩ : FaultSight)]).bind fun y159 => some (true, y159))
  (fun q => [(⟨q.1, q.2, rcF l ds' (q.1.toNat % l.Design.Rows.length) q.2.toNat⟩ : FaultSight)]) 20000 (plF k l.Harness.Warps.length fun p w => rcF l ds' (p % l.Design.Rows.length) w != rcF l [] (p % l.Design.Rows.length) w) [] (fun _ _ => by simp) (by simp only [List.length_nil]; omega) (fun m q hq hm => by
   obtain ⟨p, w, rfl, hp, hw⟩ := hpl q hq
   refine Yes.eq ?_
   have hx : p < (cthNF l ds' k).length := by unfold cthNF; rw [cloth_lenF]; exact hp
   refine Yes.bind (Yes.idx rfl hx ?_)
   rw [show (cthNF l ds' k)[p] = lineF l.Harness.Warps.length (fun w => rcF l ds' (p % l.Design.Rows.length) w) from cloth_atF (c := fun p w => rcF l ds' (p % l.Design.Rows.length) w) hx]
   refine Yes.bind (Yes.idx rfl (by rw [line_lenF]; exact hw) ?_)
   rw [line_atF, mark_xF]
   exact Yes.bind (Yes.apnd (by simp; omega) (by simp; omega) (Yes.some (by simp))))
 refine Yes.of (s83F (n := k) (m := l.Harness.Warps.length) (by omega) (by omega) (fun p w => rcF l ds' (p % l.Design.Rows.length) w) (fun p w => rcF l [] (p % l.Design.Rows.length) w) hf) (Yes.some (Yes.some ?_))
 congr 1
 unfold wrsF
 rw [List.nil_append]
 generalize (plF k l.Harness.Warps.length fun p w => rcF l ds' (p % l.Design.Rows.length) w != rcF l [] (p % l.Design.Rows.length) w) = ps
 induction ps with
 | nil => rfl
 | cons q qs ih => simp; exact ih
theorem allDs_allF {l : FaultLoom} {d : FaultDamage} (hd : dmgF l d = true) : d ∈ allDsF l := by
 obtain ⟨k, p, h, w, u⟩ := d
 unfold allDsF aDsF
 simp only [List.mem_append]
 unfold dmgF btwF at hd
 simp only at hd
 split at hd
 ·rename_i hkF
  subst hkF
  simp at hd
  refine .inl (.inl (.inl (.inl (List.mem_flatMap.2 ⟨p.toNat, List.mem_range.2 (by omega), List.mem_map.2 ⟨h.toNat, List.mem_range.2 (by omega), ?_⟩⟩))))
  obtain ⟨⟨⟨h1, h2⟩, h3⟩, h4⟩ := hd
  subst h3; subst h4
  rw [show ((p.toNat : Nat) : Int) = p by omega, show ((h.toNat : Nat) : Int) = h by omega]
 split at hd
 ·rename_i hkF
  subst hkF
  simp at hd
  refine .inl (.inl (.inl (.inr (List.mem_flatMap.2 ⟨h.toNat, List.mem_range.2 (by omega), ?_⟩))))
  obtain ⟨⟨h1, h2⟩, h3⟩ := hd
  subst h2; subst h3
  rw [show ((h.toNat : Nat) : Int) = h by omega]
  cases u <;> simp
 split at hd
 ·rename_i hkF
  simp at hd
  obtain ⟨⟨⟨h1, h2⟩, h3⟩, h4⟩ := hd
  subst h2; subst h3; subst h4
  rcases hkF with rfl | rfl
  ·exact .inl (.inl (.inr (List.mem_map.2 ⟨p.toNat, List.mem_range.2 (by omega), by rw [show ((p.toNat : Nat) : Int) = p by omega]⟩)))
  ·exact .inl (.inr (List.mem_map.2 ⟨p.toNat, List.mem_range.2 (by omega), by rw [show ((p.toNat : Nat) : Int) = p by omega]⟩))
 split at hd
 ·rename_i hkF
  subst hkF
  simp at hd
  obtain ⟨⟨⟨h1, h2⟩, h3⟩, h4⟩ := hd
  subst h2; subst h3; subst h4
  exact .inr (List.mem_map.2 ⟨w.toNat, List.mem_range.2 (by omega), by rw [show ((w.toNat : Nat) : Int) = w by omega]⟩)
 ·cases hd
theorem mem_showsF {l : FaultLoom} {d : FaultDamage} (hd : dmgF l d = true) : d ∈ showsF l ↔ shF l d = true := by
 unfold showsF
 rw [List.mem_filter]
 exact ⟨fun h => h.2, fun h => ⟨allDs_allF hd, h⟩⟩
theorem sh_placesF {l : FaultLoom} (g : GoodF l) (d : FaultDamage) : shF l d = true ↔ aplF l [d] [] ≠ [] := by
 unfold shF
 have h := plFrom_nilF (n := l.Design.Rows.length) (m := l.Harness.Warps.length) (c := rcF l [d]) (c' := rcF l []) g.w0 l.Design.Rows.length (Nat.le_refl _)
 rw [Nat.sub_self] at h
 rw [rnd_isF, rnd_isF]
 simp only [Bool.not_eq_true', decide_eq_false_iff_not]
 rw [cloth_eqF]
 unfold aplF plF
 rw [ne_eq, h]
 exact not_congr ⟨fun h p _ hp => h p hp, fun h p hp => h p (Nat.zero_le _) hp⟩
theorem wrs_lenF (c : Nat → Nat → Bool) (ps : List (Int × Int)) : (wrsF c ps).length = ps.length := by simp [wrsF]
theorem mod_rowF {l : FaultLoom} (g : GoodF l) (a b : List FaultDamage) : (plF l.Design.Rows.length l.Harness.Warps.length fun p w => rcF l a (p % l.Design.Rows.length) w != rcF l b (p % l.Design.Rows.length) w) = aplF l a b :=
 pl_congrF g.w0 fun p w hp _ => by simp only [Nat.mod_eq_of_lt hp]
end Go.Proofs.YtcjpochjapnoaaaGreat
