/- BoxYarns. -/
import Derived.Test.YtmpjooneiaiffaaLawW
set_option maxRecDepth 8000
namespace Go.Proofs.Ytmpjooneiaiffaa
open Go.RowKit
open Classical

theorem mget_mset {κ ν : Type} [DecidableEq κ] (k : κ) (v : ν) (k' : κ) : ∀ m : List (κ × ν), mget (mset m k v) k' = if k' = k then some v else mget m k'
 | [] => by
  unfold mset mget
  by_cases h : k' = k
  ·subst h; simp
  ·have : ¬ k = k' := fun e => h e.symm
   simp [h, this]
 | p :: m => by
  have ih := mget_mset k v k' m
  unfold mset
  by_cases hp : p.1 = k
  ·rw [if_pos hp]
   by_cases h : k' = k
   ·subst h; unfold mget; simp
   ·have h1 : ¬ k = k' := fun e => h e.symm
    have h2 : ¬ p.1 = k' := fun e => h (e ▸ hp ▸ rfl)
    rw [if_neg h]; unfold mget; simp [h1, h2]
  ·rw [if_neg hp]
   by_cases h2 : p.1 = k'
   ·have h : ¬ k' = k := fun e => hp (h2.trans e)
    rw [if_neg h]; unfold mget; simp [h2]
   ·unfold mget at ih ⊢
    rw [List.find?_cons_of_neg (by simp [h2]), List.find?_cons_of_neg (by simp [h2])]
    exact ih
def bnd (l : BoxLoom) (b : Bool) (i : Nat) : Int := match l.Shuttles[i]? with | some s => bif b then s.Yarn.High else s.Yarn.Low | none => 0
def OutP (b : Nat → Int) (t : List Nat) (i : Nat) : Prop := ∃ h : i < t.length, (((t.take (i + 1)).count t[i] : Nat) : Int) > b t[i]
def IsOut (b : Nat → Int) (t : List Nat) (r : Int) : Prop := (r = -1 ∧ ∀ i, ¬ OutP b t i) ∨ ∃ n : Nat, r = n ∧ OutP b t n ∧ ∀ i, i < n → ¬ OutP b t i
theorem IsOut.one {b : Nat → Int} {t : List Nat} {r s : Int} (h : IsOut b t r) (k : IsOut b t s) : r = s := by
 rcases h with ⟨h, h1⟩ | ⟨n, h, h1, h2⟩ <;> rcases k with ⟨k, k1⟩ | ⟨m, k, k1, k2⟩
 ·rw [h, k]
 ·exact absurd k1 (h1 _)
 ·exact absurd h1 (k1 _)
 ·have : n = m := by
   rcases Nat.lt_trichotomy n m with hh | hh | hh
   ·exact absurd h1 (k2 _ hh)
   ·exact hh
   ·exact absurd k1 (h2 _ hh)
  rw [h, k, this]
theorem bnd_at {l : BoxLoom} {b : Bool} {i : Nat} (h : i < l.Shuttles.length) : bnd l b i = bif b then l.Shuttles[i].Yarn.High else l.Shuttles[i].Yarn.Low := by
 unfold bnd; rw [List.getElem?_eq_getElem h]
theorem outI_succ {b : Nat → Int} {t : List Nat} {i : Nat} (h : ∀ j, j < i → ¬ OutP b t j) (h1 : ¬ OutP b t i) : ∀ j, j < i + 1 → ¬ OutP b t j := fun j hj => by
 by_cases he : j = i
 ·rw [he]; exact h1
 ·exact h j (by omega)
theorem outI_end {b : Nat → Int} {t : List Nat} (h : ∀ j, j < t.length → ¬ OutP b t j) : IsOut b t (-1) := .inl ⟨rfl, fun i hi => h i hi.1 hi⟩
theorem s73 {l : BoxLoom} {b : Bool} {t : List Nat} {φ : Span → Option Int} (hφ : ∀ s : Span, φ s = some (bif b then s.High else s.Low)) (hfew : l.Shuttles.length ≤ 6) (ht : ∀ i ∈ t, i < l.Shuttles.length) (hlen : t.length ≤ 30) :
  Yes (f73 ⟨l⟩ (t.map fun i : Nat => (i : Int) + 1) φ) (IsOut (bnd l b) t) := by
 unfold f73 idxS
 refine Yes.jn (Yes.upto t.length (by omega) (fun i m => (∀ k : Nat, (mget m ((k : Int) + 1)).getD 0 = (((t.take i).count k : Nat) : Int)) ∧ ∀ j, j < i → ¬ OutP (bnd l b) t j) ⟨fun k => by simp [mget], fun j hj => absurd hj (Nat.not_lt_zero _)⟩ (fun i m k hi hI hk => ?_) (fun m k hI => ?_))
 ·obtain ⟨h1, h2⟩ := hI
  have hti := ht _ (List.getElem_mem hi)
  have hc : ((t.take i).count t[i]) ≤ i := Nat.le_trans List.count_le_length (by simp; omega)
  have hw : w64 ((mget m ((t[i] : Int) + 1)).getD 0 + 1) = (((t.take (i + 1)).count t[i] : Nat) : Int) := by
   rw [h1, w64_id (by omega) (by omega), take_succ hi, List.count_append, List.count_singleton_self]; simp
  refine qtake (by simp; omega) (Yes.jn (qbind ((t[i] : Int) + 1) (by rw [qidx (by simpa using hi)]; simp) (qbind (decide ((((t.take (i + 1)).count t[i] : Nat) : Int) > bnd l b t[i]), mset m ((t[i] : Int) + 1) (((t.take (i + 1)).count t[i] : Nat) : Int)) ?_ ?_)))
  ·show f94 _ _ _ _ = _
   unfold f94
   have hidx : idx l.Shuttles (w64 ((t[i] : Int) + 1 - 1)) = some (l.Shuttles[t[i]]) := by
    rw [w64_id (by omega) (by omega), show (t[i] : Int) + 1 - 1 = (t[i] : Int) by omega]; exact qidx hti
   show ((idx l.Shuttles (w64 ((t[i] : Int) + 1 - 1))).bind _) = _
   rw [hidx, Option.bind_some, hφ, Option.bind_some, hw, mget_mset, if_pos rfl, bnd_at hti]
   rfl
  ·refine Yes.cond (fun hc => Yes.some (.inr ⟨i, rfl, ⟨hi, of_decide_eq_true hc⟩, h2⟩)) (fun hc => hk _ ⟨fun q => ?_, outI_succ h2 fun ⟨_, h⟩ => of_decide_eq_false hc h⟩)
   show (mget (mset m ((t[i] : Int) + 1) (((t.take (i + 1)).count t[i] : Nat) : Int)) ((q : Int) + 1)).getD 0 = _
   rw [mget_mset]
   by_cases hq : q = t[i]
   ·rw [if_pos (by rw [hq]), hq]; rfl
   ·rw [if_neg (by omega), h1, take_succ hi, List.count_append, List.count_singleton]
    have : ¬ t[i] = q := fun e => hq e.symm
    simp [this]
 ·exact qskip (by simp) (Yes.some (outI_end hI.2))
theorem s35 {l : BoxLoom} {b : Bool} {t : List Nat} (hfew : l.Shuttles.length ≤ 6) (ht : ∀ i ∈ t, i < l.Shuttles.length) (hlen : t.length ≤ 30) :
  Yes (f35 l (t.map fun i : Nat => (i : Int)) b) (IsOut (bnd l b) t) := by
 unfold f35
 refine qbind (cnts l.Shuttles.length []) ?_ (Yes.jn (Yes.upto t.length (by omega) (fun i m => m = cnts l.Shuttles.length (t.take i) ∧ ∀ j, j < i → ¬ OutP (bnd l b) t j) ⟨rfl, fun j hj => absurd hj (Nat.not_lt_zero _)⟩ (fun i m k hi hI hk => ?_) (fun m k hI => ?_)))
 ·unfold mks
  rw [if_pos ⟨by omega, by omega⟩, Int.toNat_natCast]
  congr 1
  apply List.ext_getElem (by simp [cnts])
  intro i h1 h2
  rw [cnts_at]; simp
 ·obtain ⟨h1, h2⟩ := hI
  have hti := ht _ (List.getElem_mem hi)
  have hc : ((t.take i).count t[i]) ≤ i := Nat.le_trans List.count_le_length (by simp; omega)
  have hx : idx (t.map fun i : Nat => (i : Int)) (i : Int) = some ((t[i] : Nat) : Int) := by rw [qidx (by simpa using hi)]; simp
  have hm : t[i] < m.length := by rw [h1, cnts_len]; exact hti
  refine qtake (by simp; omega) (Yes.jn (Yes.jn (qbind _ hx (qbind _ (qidx hti) (qbind (bnd l b t[i]) ?_ (qbind _ hx (qbind _ (qidx hm) (qbind _ (qidx hm) (qbind _ hx ?_)))))))))
  ·rw [bnd_at hti]
   cases b
   ·rfl
   ·show (idx _ _).bind _ = _
    rw [hx, Option.bind_some, qidx hti]; rfl
  ·have hset : m.set (Int.toNat ((t[i] : Nat) : Int)) (w64 (m[t[i]] + 1)) = cnts l.Shuttles.length (t.take (i + 1)) := by
    subst h1
    rw [take_succ hi, cnts_snoc hm, Int.toNat_natCast, w64_id (by rw [cnts_at]; omega) (by rw [cnts_at]; omega)]
   rw [hset]
   have hm2 : t[i] < (cnts l.Shuttles.length (t.take (i + 1))).length := by rw [cnts_len]; exact hti
   refine qbind _ (qidx hm2) ?_
   rw [cnts_at]
   exact Yes.cond (fun hc => Yes.some (.inr ⟨i, rfl, ⟨hi, of_decide_eq_true hc⟩, h2⟩)) (fun hc => hk _ ⟨rfl, outI_succ h2 fun ⟨_, h⟩ => of_decide_eq_false hc h⟩)
 ·exact qskip (by simp) (Yes.some (outI_end hI.2))
theorem s30e {l : BoxLoom} {ps : List BoxPick} (h : Sml l) (hp : ps.length ≤ 1000) (he : chkP l ps ≠ 0) : f30 l ps = some (0, 0, chkP l ps) := by
 obtain ⟨x, hx⟩ := s70e h hp he
 refine Yes.eq ?_
 unfold f30
 exact qbind _ hx (Yes.jn (qtake (by simpa using he) (Yes.some rfl)))
theorem s30 {l : BoxLoom} {ps : List BoxPick} (hl : LOk l) (hp : ∀ p ∈ ps, okP l.Boxes p = true) (hlen : ps.length ≤ 24) :
  Yes (f30 l ps) (fun r => match thr l ps with | some _ => IsOut (bnd l false) (thl l ps) r.1 ∧ IsOut (bnd l true) (thl l ps) r.2.1 ∧ r.2.2 = 0 | none => r = (0, 0, 9)) := by
 unfold f30
 refine Yes.bind ((s70 hl hp hlen).mono fun y hy => Yes.jn ?_)
 obtain ⟨y1, hy⟩ := hy
 have htl := thl_lt hl hp
 have hll := thl_len (l := l) (ps := ps)
 cases ht : thr l ps with
 | none =>
  rw [ht] at hy
  have hy : y.2.2 = (((thl l ps).length : Int), 9) := hy
  refine qtake (by rw [hy]; rfl) (Yes.some ?_)
  rw [hy]
 | some n =>
  rw [ht] at hy
  obtain ⟨e1, e2, e3, e4⟩ := hy
  refine qskip (by rw [e4]; rfl) ?_
  rw [y1, e2]
  refine Yes.bind ((s73 (b := false) (fun s => rfl) hl.few htl (by omega)).mono fun a ha => Yes.bind ((s73 (b := true) (fun s => rfl) hl.few htl (by omega)).mono fun c hc => Yes.some ⟨ha, hc, rfl⟩))
theorem s34 {l : BoxLoom} (hl : LOk l) {t : List Nat} (ht : ∀ i ∈ t, i < l.Shuttles.length) (hlen : t.length ≤ 30) : f34 l (t.map fun i : Nat => (i : Int)) = some (yl l t) := by
 refine Yes.eq ?_
 have hfew := hl.few
 unfold f34
 refine Yes.bind (Yes.mono (Q' := fun r => r = yl l t) ?_ fun r hr => Yes.some hr)
 refine Yes.upto l.Shuttles.length (by omega) (fun i s => s = (yl l t).take i) rfl (fun i s k hi hI hk => Yes.jn ?_) (fun s k hI => ?_)
 ·have hy := yarn_rng hl hi
  refine qtake (by simp; omega) (Yes.bind (qbind _ (qidx hi) (Yes.bind ?_)))
  refine Yes.mono (Q' := fun v => v = dcr l.Shuttles[i].Yarn (t.count i)) ?_ fun v hv => ?_
  ·refine Yes.upto t.length (by omega) (fun j v => v = dcr l.Shuttles[i].Yarn ((t.take j).count i)) (by show l.Shuttles[i].Yarn = dcr _ 0; rw [dcr0 hl hi]) (fun j v k2 hj hJ hk2 => Yes.jn ?_) (fun v k2 hJ => ?_)
   ·refine qtake (by simp; omega) (Yes.bind (qbind (((t[j] : Nat)) : Int) (by rw [qidx (by simpa using hj)]; simp) (Yes.cond (fun hc => Yes.some (hk2 _ ?_)) (fun hc => Yes.some (hk2 _ ?_)))))
    ·have hc : t[j] = i := by have := beq_iff_eq.1 hc; omega
     have hcl : (t.take j).count i ≤ j := Nat.le_trans List.count_le_length (by simp; omega)
     rw [take_succ hj, List.count_append, hc, List.count_singleton_self, dcr_succ, hJ, max64_eq, max64_eq]
     unfold dcr
     simp only
     rw [w64_id (by omega) (by omega), w64_id (by omega) (by omega)]
    ·have hc : ¬ t[j] = i := fun e => by have := beq_eq_false_iff_ne.1 hc; omega
     rw [take_succ hj, List.count_append, List.count_singleton, hJ]
     simp [hc]
   ·refine qskip (by simp) (Yes.some ?_)
    rw [hJ, List.take_length]
  ·subst hv
   have hyl : i < (yl l t).length := by rw [yl_len]; exact hi
   refine Yes.bind (Yes.apnd (by rw [hI]; simp; omega) (by rw [hI]; simp; omega) (Yes.some (hk _ ?_)))
   rw [take_succ hyl, hI, yl_at hyl hi]
 ·refine qskip (by simp) (Yes.some ?_)
  rw [hI, ← yl_len (t := t), List.take_length]
theorem s5 (l : BoxLoom) (ps : List BoxPick) : f5 l ps = some true := by
 refine Yes.eq ?_
 unfold f5
 have known : Yes (f14.bind fun y => some y) (fun r => r = true) := ⟨true, rfl, rfl⟩
 refine Yes.jn (Yes.bind (Yes.mono (Q' := fun b => b = decide (¬ Sml l ∨ ps.length > 30)) ?_ fun b hb => ?_))
 ·refine qbind _ (s13 l) (Yes.cond (fun hc => Yes.some ?_) (fun hc => Yes.some ?_))
  ·exact (decide_eq_true (.inl (of_decide_eq_true hc))).symm
  ·have := of_decide_eq_false hc
   rw [decide_eq_decide]
   constructor
   ·intro h; exact .inr (by omega)
   ·rintro (h | h)
    ·exact absurd h this
    ·omega
 subst hb
 refine Yes.cond (fun _ => known) (fun hc => ?_)
 obtain ⟨h1, h2⟩ := not_or.1 (of_decide_eq_false hc)
 have hs : Sml l := Classical.not_not.1 h1
 have hlen : ps.length ≤ 30 := by omega
 -- the last lines, for an error
 have fin : ∀ {o : List Span × Int × Int} {y : Int × Int × Int} {e at' : Int}, o = ([], at', e) → y = (0, 0, e) → Yes (Option.bind (α := Bool) (bif (o.2.2 == e) then bif (o.2.1 == at') then bif (y.2.2 == e) then bif (((o.1).length : Int) == (0 : Int)) then bif (y.1 == (0 : Int)) then bif (y.2.1 == (0 : Int)) then (f14).bind fun eB => some (eB) else some false else some false else some false else some false else some false else some false) fun y8 => some y8) (fun r => r = true) := fun {o y e at'} ho hy => by
  subst ho hy
  exact Yes.bind (qtake (by simp) (qtake (by simp) (qtake (by simp) (qtake rfl (qtake rfl (qtake rfl ⟨true, rfl, true, rfl, rfl⟩))))))
 have first : ∀ {X : Option Bool}, Yes X (fun r => r = true) → Yes (Option.bind (α := Bool) ((f18 l l).bind fun zA => bif (!zA) then some true else (f23 ps ps).bind fun tC => some (!tC)) fun o8 => bif o8 then some false else X) (fun r => r = true) := fun {X} hX => by
  exact Yes.bind (qbind _ (s18r l hs) (qskip rfl (qbind _ (s23r ps (by omega)) (Yes.some (qskip rfl hX)))))
 refine qbind _ (s15 l hs) (qbind _ (s28 ps (by omega)) ?_)
 by_cases he : chkP l ps = 0
 ·obtain ⟨hl, hp, h24⟩ := chkP0 he
  obtain ⟨r, hr, e1, e2⟩ := s32x hl hp (by omega)
  have htl := thl_lt hl hp
  have hll := thl_len (l := l) (ps := ps)
  refine qbind _ (s29 hl hp h24) (Yes.bind ((s30 hl hp h24).mono fun y hy => Yes.jn (first (qbind _ (s31 l ps hs (by omega)) (Yes.jn (qtake (by rw [he]; rfl) (qbind _ hr (Yes.jn ?_))))))))
  cases ht : thr l ps with
  | none =>
   rw [ht] at e2 hy
   refine qskip e2 (fin ?_ hy)
   rw [e1, List.length_map]
  | some n =>
   rw [ht] at e2 hy
   obtain ⟨e2, e3, e4⟩ := e2
   obtain ⟨y1, y2, y3⟩ := hy
   refine qtake e4 (Yes.bind (qtake rfl (qtake rfl (qtake (by rw [y3]; rfl) ?_))))
   rw [e1]
   refine qbind _ (s34 hl htl (by omega)) (qbind true (by rw [s33 _ _ (by rw [yl_len]; have := hl.few; omega)]; simp) (qtake rfl ?_))
   refine Yes.bind ((s35 (b := false) hl.few htl (by omega)).mono fun u hu => qtake (beq_iff_eq.2 (y1.one hu)) (Yes.bind ((s35 (b := true) hl.few htl (by omega)).mono fun v hv => qtake (beq_iff_eq.2 (y2.one hv)) ⟨true, rfl, true, rfl, rfl⟩)))
 ·refine qbind _ (s29e hs (by omega) he) (qbind _ (s30e hs (by omega) he) (Yes.jn (first (qbind _ (s31 l ps hs (by omega)) (Yes.jn (qskip (beq_eq_false_iff_ne.2 he) (fin rfl rfl)))))))
end Go.Proofs.Ytmpjooneiaiffaa
