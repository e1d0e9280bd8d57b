/- Plain laws: rounds, and BoxRounds. -/
import Derived.Test.YtmpjooneiaiffaaLawG
set_option maxRecDepth 8000
namespace Go.Proofs.Ytmpjooneiaiffaa
open Go.RowKit
open Classical

theorem pig : ∀ (N : Nat) (f : Nat → Nat), (∀ i, i ≤ N → f i < N) → ∃ i j, i < j ∧ j ≤ N ∧ f i = f j
 | 0, f, h => absurd (h 0 (Nat.le_refl _)) (Nat.not_lt_zero _)
 | N + 1, f, h => by
  by_cases hv : ∃ i, i ≤ N ∧ f i = f (N + 1)
  ·obtain ⟨i, hi, he⟩ := hv
   exact ⟨i, N + 1, by omega, Nat.le_refl _, he⟩
  ·have hne : ∀ i, i ≤ N → f i ≠ f (N + 1) := fun i hi he => hv ⟨i, hi, he⟩
   have hv1 := h (N + 1) (Nat.le_refl _)
   obtain ⟨i, j, hij, hj, he⟩ := pig N (fun i => if f (N + 1) < f i then f i - 1 else f i) fun i hi => by
    have h1 := h i (by omega)
    have h2 := hne i hi
    show (if f (N + 1) < f i then f i - 1 else f i) < N
    split <;> omega
   have h1 := hne i (by omega)
   have h2 := hne j hj
   refine ⟨i, j, hij, by omega, ?_⟩
   have he : (if f (N + 1) < f i then f i - 1 else f i) = (if f (N + 1) < f j then f j - 1 else f j) := he
   split at he <;> split at he <;> omega
theorem least {P : Nat → Prop} : ∀ n, P n → ∃ m, m ≤ n ∧ P m ∧ ∀ k, k < m → ¬ P k := by
 intro n
 induction n using Nat.strongRecOn with
 | _ n ih =>
  intro hn
  by_cases h : ∃ k, k < n ∧ P k
  ·obtain ⟨k, hk, hp⟩ := h
   obtain ⟨m, h1, h2, h3⟩ := ih k hk hp
   exact ⟨m, by omega, h2, h3⟩
  ·exact ⟨n, Nat.le_refl _, hn, fun k hk hp => h ⟨k, hk, hp⟩⟩
def cd : List BoxShuttle → Nat
 | [] => 0
 | x :: xs => (x.Side.toNat * 4 + x.Box.toNat) + 8 * cd xs
theorem cd_lt {B : List Int} (hB : ∀ i, i < 2 → 1 ≤ B.getD i 0 ∧ B.getD i 0 ≤ 4) : ∀ {xs : List BoxShuttle}, (∀ x ∈ xs, okS B x = true) → cd xs < 8 ^ xs.length
 | [], _ => by simp [cd]
 | x :: xs, h => by
  have ih := cd_lt hB (fun y hy => h y (List.mem_cons_of_mem _ hy))
  have hx := h x (by simp)
  unfold okS at hx
  simp only [Bool.and_eq_true, btw_iff] at hx
  obtain ⟨⟨⟨_, hs⟩, hb⟩, _⟩ := hx
  have := hB x.Side.toNat (by omega)
  rw [List.length_cons, Nat.pow_succ, cd]
  omega
theorem cd_inj {B : List Int} (hB : ∀ i, i < 2 → 1 ≤ B.getD i 0 ∧ B.getD i 0 ≤ 4) : ∀ {xs ys : List BoxShuttle}, (∀ x ∈ xs, okS B x = true) → (∀ x ∈ ys, okS B x = true) → xs.length = ys.length → cd xs = cd ys → xs.map (fun x => (x.Side, x.Box)) = ys.map (fun x => (x.Side, x.Box))
 | [], [], _, _, _, _ => rfl
 | [], _ :: _, _, _, h, _ => by cases h
 | _ :: _, [], _, _, h, _ => by cases h
 | x :: xs, y :: ys, hx, hy, hl, he => by
  have h1 := hx x (by simp)
  have h2 := hy y (by simp)
  unfold okS at h1 h2
  simp only [Bool.and_eq_true, btw_iff] at h1 h2
  obtain ⟨⟨⟨_, a1⟩, a2⟩, _⟩ := h1
  obtain ⟨⟨⟨_, b1⟩, b2⟩, _⟩ := h2
  have c1 := hB x.Side.toNat (by omega)
  have c2 := hB y.Side.toNat (by omega)
  simp only [cd] at he
  have e1 : x.Side = y.Side := by omega
  have e2 : x.Box = y.Box := by omega
  have e3 : cd xs = cd ys := by omega
  rw [List.map_cons, List.map_cons, e1, e2, cd_inj hB (fun z hz => hx z (List.mem_cons_of_mem _ hz)) (fun z hz => hy z (List.mem_cons_of_mem _ hz)) (by simpa using hl) e3]
theorem wh_of_map {a b : List BoxShuttle} (h : a.map (fun x => (x.Side, x.Box)) = b.map (fun x => (x.Side, x.Box))) : Wh a b := by
 have hl : a.length = b.length := by simpa using congrArg List.length h
 have one : ∀ i (h1 : i < a.length) (h2 : i < b.length), a[i].Side = b[i].Side ∧ a[i].Box = b[i].Box := fun i h1 h2 => by
  have : (a.map (fun x => (x.Side, x.Box)))[i]'(by simpa using h1) = (b.map (fun x => (x.Side, x.Box)))[i]'(by simpa using h2) := by simp only [h]
  simpa using this
 intro s c i
 constructor
 ·rintro ⟨h1, h2, h3⟩
  have := one i h1 (by omega)
  exact ⟨by omega, this.1.symm.trans h2, this.2.symm.trans h3⟩
 ·rintro ⟨h1, h2, h3⟩
  have := one i (by omega) h1
  exact ⟨by omega, this.1.trans h2, this.2.trans h3⟩
noncomputable def itr (l : BoxLoom) (ps : List BoxPick) : Nat → Option BoxLoom
 | 0 => some l
 | n + 1 => (itr l ps n).bind fun m => thr m ps
section
variable {l : BoxLoom} {ps : List BoxPick} (hl : LOk l) (hp : ∀ p ∈ ps, okP l.Boxes p = true)
include hl hp
theorem itr_ok : ∀ {n : Nat} {m : BoxLoom}, itr l ps n = some m → LOk m ∧ m.Boxes = l.Boxes ∧ m.Shuttles.length = l.Shuttles.length
 | 0, m, h => by cases h; exact ⟨hl, rfl, rfl⟩
 | n + 1, m, h => by
  rw [itr] at h
  cases ho : itr l ps n with
  | none => rw [ho] at h; cases h
  | some a =>
   rw [ho] at h
   obtain ⟨h1, h2, h3⟩ := itr_ok ho
   obtain ⟨k1, k2, k3⟩ := thr_ok h1 (fun p h => by rw [h2]; exact hp p h) h
   exact ⟨k1, k2.trans h2, k3.trans h3⟩
theorem itr_back {d : Nat} : ∀ {i : Nat} {a b : BoxLoom}, itr l ps i = some a → itr l ps (i + d) = some b → Wh a.Shuttles b.Shuttles → ∃ c, itr l ps d = some c ∧ Wh c.Shuttles l.Shuttles
 | 0, a, b, h, k, hw => by cases h; rw [Nat.zero_add] at k; exact ⟨b, k, hw.symm⟩
 | i + 1, a, b, h, k, hw => by
  rw [itr] at h
  rw [show i + 1 + d = (i + d) + 1 by omega, itr] at k
  cases ho : itr l ps i with
  | none => rw [ho] at h; cases h
  | some a0 =>
   cases hq : itr l ps (i + d) with
   | none => rw [hq] at k; cases k
   | some b0 =>
    rw [ho] at h; rw [hq] at k
    obtain ⟨h1, h2, _⟩ := itr_ok hl hp ho
    obtain ⟨k1, k2, _⟩ := itr_ok hl hp hq
    exact itr_back ho hq (thr_inj h1 k1 (fun p h => by rw [h2]; exact hp p h) (fun p h => by rw [k2]; exact hp p h) h k hw)
theorem itr_end : ∃ N : Nat, 1 ≤ N ∧ N ≤ 262144 ∧ (itr l ps N = none ∨ ∃ c, itr l ps N = some c ∧ Wh c.Shuttles l.Shuttles) ∧ ∀ k, 1 ≤ k → k < N → ∃ c, itr l ps k = some c ∧ ¬ Wh c.Shuttles l.Shuttles := by
 have hex : ∃ n, n ≤ 262144 ∧ 1 ≤ n ∧ (itr l ps n = none ∨ ∃ c, itr l ps n = some c ∧ Wh c.Shuttles l.Shuttles) := by
  by_cases hn : ∃ n, n ≤ 262144 ∧ itr l ps n = none
  ·obtain ⟨n, h1, h2⟩ := hn
   refine ⟨n, h1, ?_, .inl h2⟩
   cases n with
   | zero => cases h2
   | succ n => omega
  ·have hall : ∀ n, n ≤ 262144 → ∃ m, itr l ps n = some m := fun n hle => by
    cases h : itr l ps n with
    | none => exact absurd ⟨n, hle, h⟩ hn
    | some m => exact ⟨m, rfl⟩
   have hlt : ∀ n, n ≤ 262144 → (match itr l ps n with | some m => cd m.Shuttles | none => 0) < 262144 := fun n hle => by
    obtain ⟨m, hm⟩ := hall n hle
    rw [hm]
    obtain ⟨k1, k2, k3⟩ := itr_ok hl hp hm
    have h1 := cd_lt (fun i hi => k1.box hi) k1.sh
    have h2 : (8 : Nat) ^ m.Shuttles.length ≤ 8 ^ 6 := Nat.pow_le_pow_right (by omega) k1.few
    have h3 : (8 : Nat) ^ 6 = 262144 := by decide
    show cd m.Shuttles < 262144
    omega
   obtain ⟨i, j, hij, hj, he⟩ := pig 262144 (fun n => match itr l ps n with | some m => cd m.Shuttles | none => 0) hlt
   obtain ⟨a, ha⟩ := hall i (by omega)
   obtain ⟨b, hb⟩ := hall j hj
   simp only [ha, hb] at he
   obtain ⟨a1, a2, a3⟩ := itr_ok hl hp ha
   obtain ⟨b1, b2, b3⟩ := itr_ok hl hp hb
   have hw := wh_of_map (cd_inj (B := l.Boxes) (fun i hi => hl.box hi) (by rw [← a2]; exact a1.sh) (by rw [← b2]; exact b1.sh) (by omega) he)
   obtain ⟨c, hc, hcw⟩ := itr_back hl hp (d := j - i) ha (by rw [show i + (j - i) = j by omega]; exact hb) hw
   exact ⟨j - i, by omega, by omega, .inr ⟨c, hc, hcw⟩⟩
 obtain ⟨n, hle, h1, h2⟩ := hex
 obtain ⟨N, hN1, hN2, hN3⟩ := least (P := fun n => 1 ≤ n ∧ (itr l ps n = none ∨ ∃ c, itr l ps n = some c ∧ Wh c.Shuttles l.Shuttles)) n ⟨h1, h2⟩
 refine ⟨N, hN2.1, by omega, hN2.2, fun k hk1 hk2 => ?_⟩
 have := hN3 k hk2
 cases hc : itr l ps k with
 | none => exact absurd ⟨hk1, .inl hc⟩ this
 | some c => exact ⟨c, rfl, fun hw => this ⟨hk1, .inr ⟨c, hc, hw⟩⟩⟩
theorem s37 (hlen : ps.length ≤ 24) {N : Nat} (h1 : 1 ≤ N) (h2 : N ≤ 262144) (h3 : itr l ps N = none ∨ ∃ c, itr l ps N = some c ∧ Wh c.Shuttles l.Shuttles) (h4 : ∀ k, 1 ≤ k → k < N → ∃ c, itr l ps k = some c ∧ ¬ Wh c.Shuttles l.Shuttles) :
  f37 l ps = some (match itr l ps N with | some _ => ((N : Int), true) | none => (0, false)) := by
 refine Yes.eq ?_
 unfold f37
 refine Yes.lp (fun s => ∃ k : Nat, s.2 = (k : Int) + 1 ∧ k < N ∧ itr l ps k = some s.1) (fun s => N + 1 - s.2.toNat) ⟨0, rfl, by omega, rfl⟩ (by simp; omega) ?_
 rintro ⟨v, o⟩ kk ⟨k, rfl, hk, hv⟩ hk'
 obtain ⟨v1, v2, v3⟩ := itr_ok hl hp hv
 have hnext : itr l ps (k + 1) = thr v ps := by rw [itr, hv]; rfl
 refine Yes.jn (Yes.bind ((s32 v1 (fun p h => by rw [v2]; exact hp p h) hlen).mono fun r hr => Yes.jn ?_))
 cases ht : thr v ps with
 | none =>
  rw [ht] at hr hnext
  refine qtake (by rw [hr]; rfl) (Yes.some ?_)
  have : k + 1 = N := Classical.byContradiction fun hne => by
   obtain ⟨c, hc, _⟩ := h4 (k + 1) (by omega) (by omega)
   rw [hnext] at hc; cases hc
  rw [← this, hnext]
 | some n =>
  rw [ht] at hr hnext
  obtain ⟨e1, e2⟩ := hr
  obtain ⟨n1, n2, n3⟩ := itr_ok hl hp hnext
  refine qskip (by rw [e2]; rfl) (qbind _ (show f77 r.1.After l = _ by rw [e1]; exact s77 (by have := n1.few; omega) n3) (Yes.cond (fun hc => Yes.some ?_) (fun hc => ?_)))
  ·have hw := of_decide_eq_true hc
   have : k + 1 = N := Classical.byContradiction fun hne => by
    obtain ⟨c, hc, hn⟩ := h4 (k + 1) (by omega) (by omega)
    rw [hnext] at hc; cases hc; exact hn hw
   rw [← this, hnext]; rfl
  ·have hw := of_decide_eq_false hc
   have hne : k + 1 ≠ N := fun he => by
    rcases h3 with h | ⟨c, hc, hcw⟩
    ·rw [← he, hnext] at h; cases h
    ·rw [← he, hnext] at hc; cases hc; exact hw hcw
   refine hk' _ ⟨k + 1, ?_, by omega, e1 ▸ hnext⟩ ?_
   ·show w64 ((k : Int) + 1 + 1) = _; rw [w64_id (by omega) (by omega)]; simp
   ·show N + 1 - (w64 ((k : Int) + 1 + 1)).toNat < N + 1 - ((k : Int) + 1).toNat
    rw [w64_id (by omega) (by omega)]; omega
theorem s36 (hlen : ps.length ≤ 24) (hpos : ps.length ≠ 0) {N : Nat} (h1 : 1 ≤ N) (h2 : N ≤ 262144) (h3 : itr l ps N = none ∨ ∃ c, itr l ps N = some c ∧ Wh c.Shuttles l.Shuttles) (h4 : ∀ k, 1 ≤ k → k < N → ∃ c, itr l ps k = some c ∧ ¬ Wh c.Shuttles l.Shuttles) :
  f36 l ps = some (match itr l ps N with | some _ => ((N : Int), 0) | none => (0, 9)) := by
 have hck : chkP l ps = 0 := by
  unfold chkP; rw [if_neg (fun h => h (chk0.2 hl)), if_neg (by omega), if_neg (fun h => h hp)]
 refine Yes.eq ?_
 unfold f36
 refine qbind _ (s74 l ps hl.sml (by omega)) (Yes.jn (qskip (by rw [hck]; rfl) (qskip (beq_eq_false_iff_ne.2 (by omega)) (Yes.bind ((s54 hl).mono fun r0 hr0 => Yes.jn ?_)))))
 refine Yes.lp (fun s => ∃ k : Nat, ∃ m, s.1 = (k : Int) ∧ k ≤ N ∧ itr l ps k = some m ∧ Rel s.2 m) (fun s => N + 1 - s.1.toNat) ⟨0, l, rfl, by omega, rfl, hr0⟩ (by simp; omega) ?_
 rintro ⟨j, q⟩ kk ⟨k, v, rfl, hk, hv, hq⟩ hk'
 obtain ⟨v1, v2, v3⟩ := itr_ok hl hp hv
 have hnext : itr l ps (k + 1) = thr v ps := by rw [itr, hv]; rfl
 have hbx : decide (q.boxes = r0.boxes) = decide (Wh v.Shuttles l.Shuttles) := by
  rw [decide_eq_decide]
  exact ⟨fun h => (hq.wh v1 hl hr0 (.inr h)).1, fun h => (hq.wh v1 hl hr0 (.inl h)).2⟩
 refine Yes.jn (Yes.bind (Yes.mono (Q' := fun b => b = decide (k = 0 ∨ ¬ Wh v.Shuttles l.Shuttles)) ?_ fun b hb => ?_))
 ·refine Yes.cond (fun hc => Yes.some ?_) (fun hc => Yes.some ?_)
  ·have : (k : Int) = 0 := by simpa using hc
   exact (decide_eq_true (.inl (by omega))).symm
  ·have : ¬ (k : Int) = 0 := by simpa using hc
   rw [hbx]
   by_cases hw : Wh v.Shuttles l.Shuttles
   ·rw [decide_eq_true hw, decide_eq_false (fun h => h.elim (fun e => this (by omega)) (fun e => e hw))]; rfl
   ·rw [decide_eq_false hw, decide_eq_true (.inr hw)]; rfl
 ·subst hb
  refine Yes.cond (fun hc => ?_) (fun hc => Yes.some ?_)
  ·have hc := of_decide_eq_true hc
   have hkN : k < N := by
    rcases Nat.lt_or_ge k N with h | h
    ·exact h
    ·have he : k = N := by omega
     rcases h3 with h | ⟨c, hcc, hcw⟩
     ·rw [← he, hv] at h; cases h
     ·rw [← he, hv] at hcc; cases hcc
      rcases hc with h | h
      ·omega
      ·exact absurd hcw h
   refine Yes.jn (Yes.bind ((s76 v1 hq (fun p h => by rw [v2]; exact hp p h) hlen).mono fun x hx => Yes.jn ?_))
   cases ht : thr v ps with
   | none =>
    rw [ht] at hx hnext
    refine qtake (by rw [hx]; rfl) (Yes.some ?_)
    have : k + 1 = N := Classical.byContradiction fun hne => by
     obtain ⟨c, hc, _⟩ := h4 (k + 1) (by omega) (by omega)
     rw [hnext] at hc; cases hc
    rw [← this, hnext, hx]
   | some n =>
    rw [ht] at hx hnext
    obtain ⟨e1, e2⟩ := hx
    refine qskip (by rw [e2]; rfl) (hk' _ ⟨k + 1, n, ?_, by omega, hnext, e1⟩ ?_)
    ·show w64 ((k : Int) + 1) = _; rw [w64_id (by omega) (by omega)]; simp
    ·show N + 1 - (w64 ((k : Int) + 1)).toNat < N + 1 - ((k : Int)).toNat
     rw [w64_id (by omega) (by omega)]; omega
  ·have hc := not_or.1 (of_decide_eq_false hc)
   have hw := Classical.not_not.1 hc.2
   have : k = N := Classical.byContradiction fun hne => by
    obtain ⟨c, hcc, hn⟩ := h4 k (by omega) (by omega)
    rw [hv] at hcc; cases hcc; exact hn hw
   rw [← this, hv]
end
end Go.Proofs.Ytmpjooneiaiffaa
