/- Plain laws: comparisons of lists; all damages that there can be, and those that show. -/
import Derived.Test.YtpiaipiehjcflaaLawI
set_option maxRecDepth 8000
namespace Go.Proofs.Ytpiaipiehjcflaa
open Go.RowKit

/-- Two lists are compared one by one: so far they are the same. -/
def Same {α : Type} (a b : List α) (i : Nat) : Prop := ∀ n (h1 : n < a.length) (h2 : n < b.length), n < i → a[n] = b[n]
theorem same_no {α : Type} [DecidableEq α] {a b : List α} (h : ((a.length : Int) != (b.length : Int)) = true) : false = decide (a = b) := by
  have : a ≠ b := fun e => by rw [e] at h; simp at h
  simp [this]
theorem same_len {α : Type} {a b : List α} (h : ((a.length : Int) != (b.length : Int)) = false) : a.length = b.length := by simp at h; omega
theorem same_zero {α : Type} (a b : List α) : Same a b 0 := fun _ _ _ h => absurd h (Nat.not_lt_zero _)
theorem same_step {α : Type} [DecidableEq α] {a b : List α} {ne : α → α → Bool} (hne : ∀ x y, ne x y = !decide (x = y)) (hl : a.length = b.length) {i : Nat} (hi : i < a.length) (hI : Same a b i) {k : Option Bool} (hk : Same a b (i + 1) → Yes k fun r => r = decide (a = b)) :
    Yes ((idx a (i : Int)).bind fun x => (idx b (i : Int)).bind fun y => bif ne x y then some false else k) (fun r => r = decide (a = b)) := by
  refine Yes.bind (Yes.idx rfl hi (Yes.bind (Yes.idx rfl (by omega) (Yes.cond (fun h => Yes.some ?_) (fun h => hk ?_)))))
  · rw [hne] at h
    have hd : a[i] ≠ b[i] := by simpa using h
    have : a ≠ b := fun e => hd (by simp only [e])
    simp [this]
  · rw [hne] at h
    have he : a[i] = b[i] := by simpa using h
    intro n h1 h2 hn
    rcases Nat.lt_succ_iff_lt_or_eq.1 hn with h | rfl
    · exact hI n h1 h2 h
    · exact he
theorem same_end {α : Type} [DecidableEq α] {a b : List α} (hl : a.length = b.length) (hI : Same a b a.length) : true = decide (a = b) := by
  have : a = b := List.ext_getElem hl fun n h1 h2 => hI n h1 h2 h1
  simp [this]
theorem str_ne (x y : Str) : (!(x.b == y.b)) = !decide (x = y) := by
  congr 1
  rw [Bool.eq_iff_iff]
  obtain ⟨x⟩ := x; obtain ⟨y⟩ := y
  simp
theorem s71 (a b : List Str) (ha : a.length < 9223372036854775807) : f71 a b = some (decide (a = b)) := by
  refine Yes.eq ?_
  unfold f71
  refine Yes.jn (Yes.cond (fun h => Yes.some (same_no h)) (fun h => ?_))
  have hl := same_len h
  refine Yes.jn (Yes.upto0 a.length ha (Same a b) (same_zero a b) (fun i k hi hI hk => ?_) (fun k hI => ?_))
  · exact Yes.cond (fun _ => Yes.jn (same_step (ne := (fun x y : Str => !(x.b == y.b))) str_ne hl hi hI hk)) (fun h => absurd h (by simp; omega))
  · exact Yes.cond (fun h => absurd h (by simp)) (fun _ => Yes.some (same_end hl hI))
theorem s22 (a b : List FaultDamage) (ha : a.length < 9223372036854775807) : f22 a b = some (decide (a = b)) := by
  refine Yes.eq ?_
  unfold f22
  refine Yes.jn (Yes.cond (fun h => Yes.some (same_no h)) (fun h => ?_))
  have hl := same_len h
  refine Yes.jn (Yes.upto0 a.length ha (Same a b) (same_zero a b) (fun i k hi hI hk => ?_) (fun k hI => ?_))
  · exact Yes.jn (Yes.cond (fun _ => Yes.jn (same_step (ne := (fun x y => !decide (x = y))) (fun _ _ => rfl) hl hi hI hk)) (fun h => absurd h (by simp; omega)))
  · exact Yes.jn (Yes.cond (fun h => absurd h (by simp)) (fun _ => Yes.some (same_end hl hI)))
/-! ### All damages -/
def aCard (n H : Nat) : List FaultDamage := (List.range n).flatMap fun (p : Nat) => (List.range H).map fun (h : Nat) => ⟨1, (p : Int), (h : Int), 0, false⟩
def aNdl (H : Nat) : List FaultDamage := (List.range H).flatMap fun (h : Nat) => [⟨2, 0, (h : Int), 0, false⟩, ⟨2, 0, (h : Int), 0, true⟩]
def aRow (k : Int) (n : Nat) : List FaultDamage := (List.range n).map fun (p : Nat) => ⟨k, (p : Int), 0, 0, false⟩
def aThr (m : Nat) : List FaultDamage := (List.range m).map fun (w : Nat) => ⟨5, 0, 0, (w : Int), false⟩
def aDs (n H m : Nat) : List FaultDamage := aCard n H ++ aNdl H ++ aRow 3 n ++ aRow 4 n ++ aThr m
def allDs (l : FaultLoom) : List FaultDamage := aDs l.Design.Rows.length l.Design.Hooks.toNat l.Harness.Warps.length
theorem range_mul {α : Type} (f : Nat → Nat → α) (H : Nat) (hH : 0 < H) : ∀ n, (List.range (n * H)).map (fun i => f (i / H) (i % H)) = (List.range n).flatMap fun p => (List.range H).map fun h => f p h
  | 0 => by simp
  | n + 1 => by
    rw [Nat.add_mul, Nat.one_mul, List.range_add, List.map_append, range_mul f H hH n, List.range_succ, List.flatMap_append]
    congr 1
    simp only [List.map_map, List.flatMap_cons, List.flatMap_nil, List.append_nil]
    refine List.map_congr_left fun h hh => ?_
    have hh := List.mem_range.1 hh
    simp only [Function.comp]
    rw [Nat.mul_comm n H, Nat.mul_add_div hH, Nat.mul_add_mod, Nat.div_eq_of_lt hh, Nat.mod_eq_of_lt hh, Nat.add_zero]
theorem aCard_len (n H : Nat) : (aCard n H).length = n * H := by
  unfold aCard
  induction n with
  | zero => simp
  | succ n ih => rw [List.range_succ, List.flatMap_append, List.length_append, ih, Nat.add_mul]; simp
theorem aNdl_len (H : Nat) : (aNdl H).length = 2 * H := by
  unfold aNdl
  induction H with
  | zero => simp
  | succ n ih => rw [List.range_succ, List.flatMap_append, List.length_append, ih]; simp; omega
theorem quo_nat {a b : Nat} (hb : 0 < b) (ha : a < 9223372036854775807) : quo64 (a : Int) (b : Int) = some ((a / b : Nat) : Int) := by
  unfold quo64
  have h1 : a / b ≤ a := Nat.div_le_self _ _
  rw [if_neg (by omega), Int.tdiv_eq_ediv_of_nonneg (by omega)]
  rw [show ((a : Int) / (b : Int)) = ((a / b : Nat) : Int) from rfl]
  generalize a / b = q at h1
  rw [w64_id (by omega) (by omega)]
theorem rem_nat {a b : Nat} (hb : 0 < b) : rem64 (a : Int) (b : Int) = some ((a % b : Nat) : Int) := by
  unfold rem64
  rw [if_neg (by omega), Int.tmod_eq_emod_of_nonneg (by omega)]
  rfl
theorem len_small {l : FaultLoom} (g : Good l) : l.Design.Rows.length * l.Design.Hooks.toNat ≤ 1440 := by
  have := g.r1; have := g.h24
  have : l.Design.Rows.length * l.Design.Hooks.toNat ≤ 60 * 24 := Nat.mul_le_mul (by omega) (by omega)
  omega
theorem aDs_len (n H m : Nat) : (aDs n H m).length = n * H + 2 * H + n + n + m := by
  unfold aDs
  simp only [List.length_append, aCard_len, aNdl_len, aRow, aThr, List.length_map, List.length_range]
theorem allDs_len {l : FaultLoom} (g : Good l) : (allDs l).length ≤ 2000 := by
  have := len_small g; have := g.r1; have := g.h24; have := g.w1
  unfold allDs
  rw [aDs_len]; omega
theorem s90 {l : FaultLoom} (g : Good l) {σ : Type} {cons : Cons σ FaultDamage} {s t : σ} (h : feed cons (allDs l) s = some t) : f90 ⟨l⟩ σ cons s = some t := by
  have h1 := g.h1
  have h24 := g.h24
  have r1 := g.r1
  have w1 := g.w1
  have hs := len_small g
  refine Yes.eq ?_
  unfold f90
  obtain ⟨H, hH⟩ : ∃ H : Nat, l.Design.Hooks = (H : Int) := ⟨l.Design.Hooks.toNat, by omega⟩
  have eH : l.Design.Hooks.toNat = H := by omega
  simp only
  rw [hH]
  rw [eH] at hs
  have e0 : w64 ((l.Design.Rows.length : Int) * (H : Int)) = ((l.Design.Rows.length * H : Nat) : Int) := by
    rw [← Int.natCast_mul]
    generalize l.Design.Rows.length * H = q at hs
    exact w64_id (by omega) (by omega)
  rw [e0]
  unfold allDs at h
  rw [eH] at h
  have r1 : l.Design.Rows.length ≤ 60 := g.r1
  generalize hn : l.Design.Rows.length = n at *
  generalize hm : l.Harness.Warps.length = m at *
  have hHp : 0 < H := by omega
  refine Yes.bind ?_
  refine Yes.upto (n * H) (by omega) (fun i r => r = (List.range i).map fun i => (⟨1, ((i / H : Nat) : Int), ((i % H : Nat) : Int), 0, false⟩ : FaultDamage)) rfl (fun i r k hi hI hk' => ?_) (fun r k hI => ?_)
  · subst hI
    refine Yes.cond (fun _ => Yes.bind (Yes.bind (Yes.of (quo_nat hHp (by omega)) (Yes.bind (Yes.of (rem_nat hHp) (Yes.bind (Yes.apnd (by simp; omega) (by simp; omega) (Yes.some (hk' _ ?_))))))))) (fun h => absurd h (by simp; exact_mod_cast hi))
    rw [List.range_succ, List.map_append]; rfl
  refine Yes.cond (fun h => absurd h (by simp)) (fun _ => Yes.some (Yes.bind ?_))
  rw [range_mul (fun p h => (⟨1, (p : Int), (h : Int), 0, false⟩ : FaultDamage)) H hHp n] at hI
  change r = aCard n H at hI
  subst hI
  refine Yes.upto H (by omega) (fun i r => r = aCard n H ++ aNdl i) (by simp [aNdl]) (fun i r k hi hI hk' => ?_) (fun r k hI => ?_)
  · subst hI
    refine Yes.cond (fun _ => Yes.bind (Yes.bind (Yes.apnd (by simp [aCard_len, aNdl_len]; omega) (by simp [aCard_len, aNdl_len]; omega) (Yes.some (hk' _ ?_))))) (fun h => absurd h (by simp; omega))
    unfold aNdl
    rw [List.range_succ, List.flatMap_append, List.append_assoc]; rfl
  refine Yes.cond (fun h => absurd h (by simp)) (fun _ => Yes.some (Yes.bind ?_))
  subst hI
  refine Yes.upto 2 (by omega) (fun i r => r = aCard n H ++ aNdl H ++ (if 0 < i then aRow 3 n else []) ++ (if 1 < i then aRow 4 n else [])) (by simp) (fun i r k hi hI hk' => ?_) (fun r k hI => ?_)
  · subst hI
    refine Yes.cond (fun _ => Yes.bind (Yes.bind (Yes.idx rfl (by simpa using hi) ?_))) (fun h => absurd h (by simp; omega))
    match i, hi with
    | 0, _ =>
      refine Yes.upto n (by omega) (fun i r => r = aCard n H ++ aNdl H ++ aRow 3 i) (by simp [aRow]) (fun i r k2 hi hI hk2 => ?_) (fun r k2 hI => ?_)
      · subst hI
        refine Yes.cond (fun _ => Yes.bind (Yes.bind (Yes.apnd (by simp [aCard_len, aNdl_len, aRow]; omega) (by simp [aCard_len, aNdl_len, aRow]; omega) (Yes.some (hk2 _ ?_))))) (fun h => absurd h (by simp; omega))
        unfold aRow
        rw [List.range_succ, List.map_append, List.append_assoc (aCard n H ++ aNdl H)]; rfl
      · subst hI
        exact Yes.cond (fun h => absurd h (by simp)) (fun _ => Yes.some (hk' _ (by simp)))
    | 1, _ =>
      refine Yes.upto n (by omega) (fun i r => r = aCard n H ++ aNdl H ++ aRow 3 n ++ aRow 4 i) (by simp [aRow]) (fun i r k2 hi hI hk2 => ?_) (fun r k2 hI => ?_)
      · subst hI
        refine Yes.cond (fun _ => Yes.bind (Yes.bind (Yes.apnd (by simp [aCard_len, aNdl_len, aRow]; omega) (by simp [aCard_len, aNdl_len, aRow]; omega) (Yes.some (hk2 _ ?_))))) (fun h => absurd h (by simp; omega))
        rw [show aRow 4 (i + 1) = aRow 4 i ++ [⟨4, (i : Int), 0, 0, false⟩] by unfold aRow; rw [List.range_succ, List.map_append]; rfl, ← List.append_assoc]; rfl
      · subst hI
        exact Yes.cond (fun h => absurd h (by simp)) (fun _ => Yes.some (hk' _ (by simp)))
    | i + 2, hi => omega
  refine Yes.cond (fun h => absurd h (by simp)) (fun _ => Yes.some (Yes.bind ?_))
  simp only [show (0 : Nat) < 2 by decide, show (1 : Nat) < 2 by decide, if_true] at hI
  subst hI
  refine Yes.upto m (by omega) (fun i r => r = aCard n H ++ aNdl H ++ aRow 3 n ++ aRow 4 n ++ aThr i) (by simp [aThr]) (fun i r k hi hI hk' => ?_) (fun r k hI => ?_)
  · subst hI
    refine Yes.cond (fun _ => Yes.bind (Yes.bind (Yes.apnd (by simp [aCard_len, aNdl_len, aRow, aThr]; omega) (by simp [aCard_len, aNdl_len, aRow, aThr]; omega) (Yes.some (hk' _ ?_))))) (fun h => absurd h (by simp; omega))
    rw [show aThr (i + 1) = aThr i ++ [⟨5, 0, 0, (i : Int), false⟩] by unfold aThr; rw [List.range_succ, List.map_append]; rfl, ← List.append_assoc]
  refine Yes.cond (fun h => absurd h (by simp)) (fun _ => Yes.some ?_)
  change r = aDs n H m at hI
  subst hI
  have hlen : (aDs n H m).length ≤ 2000 := by rw [aDs_len]; omega
  generalize aDs n H m = ds at *
  refine Yes.upto ds.length (by omega) (fun i s => feed cons (ds.drop i) s = some t) h (fun i s k hi hI hk' => ?_) (fun s k hI => ?_)
  · rw [List.drop_eq_getElem_cons hi] at hI
    obtain ⟨⟨b, s'⟩, hc, hr⟩ := bsome hI
    refine Yes.cond (fun _ => Yes.jn (Yes.bind (Yes.idx rfl hi (Yes.bind (Yes.of hc (Yes.cond (fun hb => ?_) (fun hb => ?_))))))) (fun h => absurd h (by simp; omega))
    · have hb : b = false := by simpa using hb
      subst hb
      exact Yes.some (Option.some.inj hr)
    · have hb : b = true := by simpa using hb
      subst hb
      exact hk' _ hr
  · rw [List.drop_length] at hI
    exact Yes.cond (fun h => absurd h (by simp)) (fun _ => Yes.some (Option.some.inj hI))
/-- Does a damage show? -/
def sh (l : FaultLoom) (d : FaultDamage) : Bool := !decide (rnd l [d] = rnd l [])
theorem s55_nil {l : FaultLoom} (g : Good l) : f55 ⟨l⟩ [] = some (rnd l []) := s55 g s78_nil (by simp) (by simp) (fun x hx => by cases hx)
theorem rnd_len (l : FaultLoom) (ds : List FaultDamage) : (rnd l ds).length = l.Design.Rows.length := by simp [rnd, clothOf]
theorem allDs_ok {l : FaultLoom} (g : Good l) : ∀ d ∈ allDs l, dmg l d = true := by
  have h1 := g.h1
  intro d hd
  unfold allDs aDs at hd
  simp only [List.mem_append] at hd
  rcases hd with (((hd | hd) | hd) | hd) | hd
  · obtain ⟨p, hp, hd⟩ := List.mem_flatMap.1 hd
    obtain ⟨h, hh, rfl⟩ := List.mem_map.1 hd
    have hp := List.mem_range.1 hp
    have hh := List.mem_range.1 hh
    simp [dmg, btw]; omega
  · obtain ⟨h, hh, hd⟩ := List.mem_flatMap.1 hd
    have hh := List.mem_range.1 hh
    simp only [List.mem_cons, List.not_mem_nil, or_false] at hd
    rcases hd with rfl | rfl <;> simp [dmg, btw] <;> omega
  · obtain ⟨p, hp, rfl⟩ := List.mem_map.1 hd
    have hp := List.mem_range.1 hp
    simp [dmg, btw]; omega
  · obtain ⟨p, hp, rfl⟩ := List.mem_map.1 hd
    have hp := List.mem_range.1 hp
    simp [dmg, btw]; omega
  · obtain ⟨p, hp, rfl⟩ := List.mem_map.1 hd
    have hp := List.mem_range.1 hp
    simp [dmg, btw]; omega
def shows (l : FaultLoom) : List FaultDamage := (allDs l).filter (sh l)
theorem feed_show {l : FaultLoom} (g : Good l) {σ : Type} {cons : Cons σ (FaultDamage × (List Str))} {t : σ} : ∀ (ds : List FaultDamage) (s : σ), (∀ d ∈ ds, dmg l d = true) → feed cons ((ds.filter (sh l)).map fun d => (d, rnd l [d])) s = some t →
    ∃ st, feed (guardC fun cs xa => (f55 ⟨l⟩ (([xa] : List FaultDamage))).bind fun y44 => Option.bind (α := σ × Bool) ((f71 y44 (rnd l [])).bind fun y55 => bif (!y55) then (cons cs (xa, y44)).bind fun (yb59, ys59) => some (ys59, (!yb59)) else some (cs, false)) fun (cs_61, s26_61) =>
      bif s26_61 then some (false, ((1 : Nat), (cs_61))) else some (true, ((0 : Nat), (cs_61)))) ds ((0 : Nat), s) = some (st, t)
  | [], s, _, h => ⟨0, by rw [← Option.some.inj h]; rfl⟩
  | d :: ds, s, hv, h => by
    have hd := hv d List.mem_cons_self
    have hds : ∀ d ∈ ds, dmg l d = true := fun x hx => hv x (List.mem_cons_of_mem _ hx)
    have hr1 := g.r1
    unfold feed
    have e1 : f55 ⟨l⟩ [d] = some (rnd l [d]) := s55_one g hd
    have e2 : f71 (rnd l [d]) (rnd l []) = some (decide (rnd l [d] = rnd l [])) := s71 _ _ (by rw [rnd_len]; omega)
    have e3 : decide (rnd l [d] = rnd l []) = !sh l d := by simp [sh]
    simp only [guardC, e1, e2, Option.bind_some, e3, Bool.not_not, Nat.beq_refl, cond_true]
    cases hs : sh l d with
    | false =>
      rw [List.filter_cons_of_neg (by simp [hs])] at h
      simpa using feed_show g ds s hds h
    | true =>
      rw [List.filter_cons_of_pos hs, List.map_cons] at h
      obtain ⟨⟨b, s'⟩, hc, hr⟩ := bsome h
      simp only [cond_true, hc, Option.bind_some]
      cases b with
      | false =>
        have : s' = t := Option.some.inj hr
        subst this
        exact ⟨1, rfl⟩
      | true => simpa using feed_show g ds s' hds hr
theorem s64 {l : FaultLoom} (g : Good l) {σ : Type} {cons : Cons σ (FaultDamage × (List Str))} {s t : σ} (h : feed cons ((shows l).map fun d => (d, rnd l [d])) s = some t) : f64 ⟨l⟩ σ cons s = some t := by
  obtain ⟨st, hst⟩ := feed_show g (allDs l) s (allDs_ok g) h
  have h90 := s90 g hst
  unfold f64
  simp only [s55_nil g, Option.bind_some, h90]
  cases Nat.beq st 0 <;> rfl
/-- A consumer that appends. -/
theorem feed_app {α β : Type} {cons : Cons (List β) α} (f : α → List β) (B : Nat) : ∀ (xs : List α) (m : List β), (∀ x ∈ xs, (f x).length ≤ 1) → m.length + xs.length ≤ B → (∀ m x, x ∈ xs → m.length < B → cons m x = some (true, m ++ f x)) → feed cons xs m = some (m ++ xs.flatMap f)
  | [], m, _, _, _ => by simp [feed]
  | x :: xs, m, h1, hB, h => by
    unfold feed
    have hx := h1 x List.mem_cons_self
    simp only [List.length_cons] at hB
    rw [h m x List.mem_cons_self (by omega)]
    simp only [Option.bind_some, cond_true]
    rw [feed_app f B xs (m ++ f x) (fun y hy => h1 y (List.mem_cons_of_mem _ hy)) (by rw [List.length_append]; omega) (fun m y hy hm => h m y (List.mem_cons_of_mem _ hy) hm)]
    simp
theorem shows_len {l : FaultLoom} (g : Good l) : (shows l).length ≤ 2000 := Nat.le_trans (List.length_filter_le _ _) (allDs_len g)
theorem s47 (l : FaultLoom) : f47 l = some (if loomE l = 0 then (shows l, 0) else ([], loomE l)) := by
  refine Yes.eq ?_
  unfold f47
  refine Yes.jn (Yes.bind (Yes.of (s50 l) (Yes.cond (fun h => Yes.some ?_) (fun h => ?_))))
  · have h : loomE l ≠ 0 := by simpa using h
    rw [if_neg h]
  have h : loomE l = 0 := by simpa using h
  have g := good_of h
  have hl := shows_len g
  rw [if_pos h]
  refine Yes.bind (Yes.bind ?_)
  have hf := feed_app (cons := fun m2_55 (q : FaultDamage × List Str) => (apnd 40 m2_55 (([q.1] : List FaultDamage))).bind fun y63 => some (true, (y63))) (fun q => [q.1]) 3000 ((shows l).map fun d => (d, rnd l [d])) [] (fun _ _ => by simp) (by simp; omega) (fun m x _ hm => by
    have : apnd 40 m [x.1] = some (m ++ [x.1]) := Yes.eq (Yes.apnd (by simp; omega) (by simp; omega) rfl)
    rw [this]; rfl)
  refine Yes.of (s64 g hf) (Yes.some (Yes.some ?_))
  have : ∀ ds : List FaultDamage, (ds.map fun d => (d, rnd l [d])).flatMap (fun q => [q.1]) = ds := fun ds => by induction ds <;> simp_all
  rw [this]; rfl
end Go.Proofs.Ytpiaipiehjcflaa
