/- Plain laws: rounds, and BoxRounds. -/
import Derived.Test.YtmpjooneiaiffaaLawG
set_option maxRecDepth 8000
namespace Go.Proofs.Ytmpjooneiaiffaa
open Go.RowKit
open Classical

theorem pig : ∀ (N : Nat) (f : Nat → Nat), (∀ i, i ≤ N → f i < N) → ∃ i j, i < j ∧ j ≤ N ∧ f i = f j
 | 0, f, h => absurd (h 0 (Nat.le_refl _)) (Nat.not_lt_zero _)
 | N + 1, f, h => by
  by_cases hv : ∃ i, i ≤ N ∧ f i = f (N + 1)
  ·obtain ⟨i, hi, he⟩ := hv
   exact ⟨i, N + 1, by omega, Nat.le_refl _, he⟩
  ·have hne : ∀ i, i ≤ N → f i ≠ f (N + 1) := fun i hi he => hv ⟨i, hi, he⟩
   have hv1 := h (N + 1) (Nat.le_refl _)
   obtain ⟨i, j, hij, hj, he⟩ := pig N (fun i => if f (N + 1) < f i then f i - 1 else f i) fun i hi => by
    have h1 := h i (by omega)
    have h2 := hne i hi
    show (if f (N + 1) < f i then f i - 1 else f i) < N
    split <;> omega
   have h1 := hne i (by omega)
   have h2 := hne j hj
   refine ⟨i, j, hij, by omega, ?_⟩
   have he : (if f (N + 1) < f i then f i - 1 else f i) = (if f (N + 1) < f j then f j - 1 else f j) := he
   split at he <;> split at he <;> omega
theorem least {P : Nat → Prop} : ∀ n, P n → ∃ m, m ≤ n ∧ P m ∧ ∀ k, k < m → ¬ P k := by
 intro n
 induction n using Nat.strongRecOn with
 | _ n ih =>
  intro hn
  by_cases h : ∃ k, k < n ∧ P k
  ·obtain ⟨k, hk, hp⟩ := h
   obtain ⟨m, h1, h2, h3⟩ := ih k hk hp
   exact ⟨m, by omega, h2, h3⟩
  ·exact ⟨n, Nat.le_refl _, hn, fun k hk hp => h ⟨k, hk, hp⟩⟩
def cd : List BoxShuttle → Nat
 | [] => 0
 | x :: xs => (x.Side.toNat * 4 + x.Box.toNat) + 8 * cd xs
theorem cd_lt {B : List Int} (hB : ∀ i, i < 2 → 1 ≤ B.getD i 0 ∧ B.getD i 0 ≤ 4) : ∀ {xs : List BoxShuttle}, (∀ x ∈ xs, okS B x = true) → cd xs < 8 ^ xs.length
 | [], _ => by simp [cd]
 | x :: xs, h => by
  have ih := cd_lt hB (fun y hy => h y (List.mem_cons_of_mem _ hy))
  have hx := h x (by simp)
  unfold okS at hx
  simp only [Bool.and_eq_true, btw_iff] at hx
  obtain ⟨⟨⟨_, hs⟩, hb⟩, _⟩ := hx
  have := hB x.Side.toNat (by omega)
  rw [List.length_cons, Nat.pow_succ, cd]
  omega
theorem cd_inj {B : List Int} (hB : ∀ i, i < 2 → 1 ≤ B.getD i 0 ∧ B.getD i 0 ≤ 4) : ∀ {xs ys : List BoxShuttle}, (∀ x ∈ xs, okS B x = true) → (∀ x ∈ ys, okS B x = true) → xs.length = ys.length → cd xs = cd ys → xs.map (fun x => (x.Side, x.Box)) = ys.map (fun x => (x.Side, x.Box))
 | [], [], _, _, _, _ => rfl
 | [], _ :: _, _, _, h, _ => by cases h
 | _ :: _, [], _, _, h, _ => by cases h
 | x :: xs, y :: ys, hx, hy, hl, he => by
  have h1 := hx x (by simp)
  have h2 := hy y (by simp)
  unfold okS at h1 h2
  simp only [Bool.and_eq_true, btw_iff] at h1 h2
  obtain ⟨⟨⟨_, a1⟩, a2⟩, _⟩ := h1
  obtain ⟨⟨⟨_, b1⟩, b2⟩, _⟩ := h2
  have c1 := hB x.Side.toNat (by omega)
  have c2 := hB y.Side.toNat (by omega)
  simp only [cd] at he
  have e1 : x.Side = y.Side := by omega
  have e2 : x.Box = y.Box := by omega
  have e3 : cd xs = cd ys := by omega
  rw [List.map_cons, List.map_cons, e1, e2, cd_inj hB (fun z hz => hx z (List.mem_cons_of_mem _ hz)) (fun z hz => hy z (List.mem_cons_of_mem _ hz)) (by simpa using hl) e3]
theorem wh_of_map {a b : List BoxShuttle} (h : a.map (fun x => (x.Side, x.Box)) = b.map (fun x => (x.Side, x.Box))) : Wh a b := by
 have hl : a.length = b.length := by simpa using congrArg List.length h
 have one : ∀ i (h1 : i < a.length) (h2 : i < b.length), a[i].Side = b[i].Side ∧ a[i].Box = b[i].Box := fun i h1 h2 => by
  have : (a.map (fun x => (x.Side, x.Box)))[i]'(by simpa using h1) = (b.map (fun x => (x.Side, x.Box)))[i]'(by simpa using h2) := by simp only [h]
  simpa using this
 intro s c i
 constructor
 ·rintro ⟨h1, h2, h3⟩
  have := one i h1 (by omega)
  exact ⟨by omega, this.1.symm.trans h2, this.2.symm.trans h3⟩
 ·rintro ⟨h1, h2, h3⟩
  have := one i (by omega) h1
  exact ⟨by omega, this.1.trans h2, this.2.trans h3⟩
noncomputable def itr (l : BoxLoom) (ps : List BoxPick) : Nat → Option BoxLoom
 | 0 => some l
 | n + 1 => (itr l ps n).bind fun m => thr m ps
section
variable {l : BoxLoom} {ps : List BoxPick} (hl : LOk l) (hp : ∀ p ∈ ps, okP l.Boxes p = true)
include hl hp
theorem itr_ok : ∀ {n : Nat} {m : BoxLoom}, itr l ps n = some m → LOk m ∧ m.Boxes = l.Boxes ∧ m.Shuttles.length = l.Shuttles.length
 | 0, m, h => by cases h; exact ⟨hl, rfl, rfl⟩
 | n + 1, m, h => by
  rw [itr] at h
  cases ho : itr l ps n with
  | none => rw [ho] at h; cases h
  | some a =>
   rw [ho] at h
   obtain ⟨h1, h2, h3⟩ := itr_ok ho
   obtain ⟨k1, k2, k3⟩ := thr_ok h1 (fun p h => by rw [h2]; exact hp p h) h
   exact ⟨k1, k2.trans h2, k3.trans h3⟩
theorem itr_back {d : Nat} : ∀ {i : Nat} {a b : BoxLoom}, itr l ps i = some a → itr l ps (i + d) = some b → Wh a.Shuttles b.Shuttles → ∃ c, itr l ps d = some c ∧ Wh c.Shuttles l.Shuttles
 | 0, a, b, h, k, hw => by cases h; rw [Nat.zero_add] at k; exact ⟨b, k, hw.symm⟩
 | i + 1, a, b, h, k, hw => by
  rw [itr] at h
  rw [show i + 1 + d = (i + d) + 1 by omega, itr] at k
  cases ho : itr l ps i with
  | none => rw [ho] at h; cases h
  | some a0 =>
   cases hq : itr l ps (i + d) with
   | none => rw [hq] at k; cases k
   | some b0 =>
    rw [ho] at h; rw [hq] at k
    obtain ⟨h1, h2, _⟩ := itr_ok hl hp ho
    obtain ⟨k1, k2, _⟩ := itr_ok hl hp hq
    exact itr_back ho hq (thr_inj h1 k1 (fun p h => by rw [h2]; exact hp p h) (fun p h => by rw [k2]; exact hp p h) h k hw)
theorem itr_end : ∃ N : Nat, 1 ≤ N ∧ N ≤ 262144 ∧ (itr l ps N = none ∨ ∃ c, itr l ps N = some c ∧ Wh c.Shuttles l.Shuttles) ∧ ∀ k, 1 ≤ k → k < N → ∃ c, itr l ps k = some c ∧ ¬ Wh c.Shuttles l.Shuttles := by
 have hex : ∃ n, n ≤ 262144 ∧ 1 ≤ n ∧ (itr l ps n = none ∨ ∃ c, itr l ps n = some c ∧ Wh c.Shuttles l.Shuttles) := by
  by_cases hn : ∃ n, n ≤ 262144 ∧ itr l ps n = none
  ·obtain ⟨n, h1, h2⟩ := hn
   refine ⟨n, h1, ?_, .inl h2⟩
   cases n with
   | zero => cases h2
   | succ n => omega
  ·have hall : ∀ n, n ≤ 262144 → ∃ m, itr l ps n = some m := fun n hle => by
    cases h : itr l ps n with
    | none => exact absurd ⟨n, hle, h⟩ hn
    | some m => exact ⟨m, rfl⟩
   have hlt : ∀ n, n ≤ 262144 → (match itr l ps n with | some m => cd m.Shuttles | none => 0) < 262144 := fun n hle => by
    obtain ⟨m, hm⟩ := hall n hle
    rw [hm]
    obtain ⟨k1, k2, k3⟩ := itr_ok hl hp hm
    have h1 := cd_lt (fun i hi => k1.box hi) k1.sh
    have h2 : (8 : Nat) ^ m.Shuttles.length ≤ 8 ^ 6 := Nat.pow_le_pow_right (by omega) k1.few
    have h3 : (8 : Nat) ^ 6 = 262144 := by decide
    show cd m.Shuttles < 262144
    omega
   obtain ⟨i, j, hij, hj, he⟩ := pig 262144 (fun n => match itr l ps n with | some m => cd m.Shuttles | none => 0) hlt
   obtain ⟨a, ha⟩ := hall i (by omega)
   obtain ⟨b, hb⟩ := hall j hj
   simp only [ha, hb] at he
   obtain ⟨a1, a2, a3⟩ := itr_ok hl hp ha
   obtain ⟨b1, b2, b3⟩ := itr_ok hl hp hb
   have hw := wh_of_map (cd_inj (B := l.Boxes) (fun i hi => hl.box hi) (by rw [← a2]; exact a1.sh) (by rw [← b2]; exact b1.sh) (by omega) he)
   obtain ⟨c, hc, hcw⟩ := itr_back hl hp (d := j - i) ha (by rw [show i + (j - i) = j by omega]; exact hb) hw
   exact ⟨j - i, by omega, by omega, .inr ⟨c, hc, hcw⟩⟩
 obtain ⟨n, hle, h1, h2⟩ := hex
 obtain ⟨N, hN1, hN2, hN3⟩ := least (P := fun n => 1 ≤ n ∧ (itr l ps n = none ∨ ∃ c, itr l ps n = some c ∧ Wh c.Shuttles l.Shuttles)) n ⟨h1, h2⟩
 refine ⟨N, hN2.1, by omega, hN2.2, fun k hk1 hk2 => ?_⟩
 have := hN3 k hk2
 cases hc : itr l ps k with
 | none => exact absurd ⟨hk1, .inl hc⟩ this
 | some c => exact ⟨c, rfl, fun hw => this ⟨hk1, .inr ⟨c, hc, hw⟩⟩⟩
theorem s36 (hlen : ps.length ≤ 24) (hpos : ps.length ≠ 0) {N : Nat} (h1 : 1 ≤ N) (h2 : N ≤ 262144) (h3 : itr l ps N = none ∨ ∃ c, itr l ps N = some c ∧ Wh c.Shuttles l.Shuttles) (h4 : ∀ k, 1 ≤ k → k < N → ∃ c, itr l ps k = some c ∧ ¬ Wh c.Shuttles l.Shuttles) :
  f36 l ps = some (match itr l ps N with | some _ => ((N : Int), 0) | none => (0, 9)) := by
 have hck : chkP l ps = 0 := by
  unfold chkP; rw [if_neg (fun h => h (chk0.2 hl)), if_neg (by omega), if_neg (fun h => h hp)]
 refine Yes.eq ?_
 unfold f36
 refine qbind _ (s74 l ps hl.sml (by omega)) (Yes.jn (qskip (by rw [hck]; rfl) (qskip (beq_eq_false_iff_ne.2 (by omega)) (Yes.bind ((s54 hl).mono fun r0 hr0 => Yes.jn ?_)))))
 refine Yes.lp (fun s => ∃ k : Nat, ∃ m, s.1 = (k : Int) ∧ k ≤ N ∧ itr l ps k = some m ∧ Rel s.2 m) (fun s => N + 1 - s.1.toNat) ⟨0, l, rfl, by omega, rfl, hr0⟩ (by simp; omega) ?_
 rintro ⟨j, q⟩ kk ⟨k, v, rfl, hk, hv, hq⟩ hk'
 obtain ⟨v1, v2, v3⟩ := itr_ok hl hp hv
 have hnext : itr l ps (k + 1) = thr v ps := by rw [itr, hv]; rfl
 have hbx : decide (q.boxes = r0.boxes) = decide (Wh v.Shuttles l.Shuttles) := by
  rw [decide_eq_decide]
  exact ⟨fun h => (hq.wh v1 hl hr0 (.inr h)).1, fun h => (hq.wh v1 hl hr0 (.inl h)).2⟩
 refine Yes.jn (Yes.bind (Yes.mono (Q' := fun b => b = decide (k = 0 ∨ ¬ Wh v.Shuttles l.Shuttles)) ?_ fun b hb => ?_))
 ·refine Yes.cond (fun hc => Yes.some ?_) (fun hc => Yes.some ?_)
  ·have : (k : Int) = 0 := by simpa using hc
   exact (decide_eq_true (.inl (by omega))).symm
  ·have : ¬ (k : Int) = 0 := by simpa using hc
   rw [hbx]
   by_cases hw : Wh v.Shuttles l.Shuttles
   ·rw [decide_eq_true hw, decide_eq_false (fun h => h.elim (fun e => this (by omega)) (fun e => e hw))]; rfl
   ·rw [decide_eq_false hw, decide_eq_true (.inr hw)]; rfl
 ·subst hb
  refine Yes.cond (fun hc => ?_) (fun hc => Yes.some ?_)
  ·have hc := of_decide_eq_true hc
   have hkN : k < N := by
    rcases Nat.lt_or_ge k N with h | h
    ·exact h
    ·have he : k = N := by omega
     rcases h3 with h | ⟨c, hcc, hcw⟩
     ·rw [← he, hv] at h; cases h
     ·rw [← he, hv] at hcc; cases hcc
      rcases hc with h | h
      ·omega
      ·exact absurd hcw h
   refine Yes.jn (Yes.bind ((s76 v1 hq (fun p h => by rw [v2]; exact hp p h) hlen).mono fun x hx => Yes.jn ?_))
   cases ht : thr v ps with
   | none =>
    rw [ht] at hx hnext
    refine qtake (by rw [hx]; rfl) (Yes.some ?_)
    have : k + 1 = N := Classical.byContradiction fun hne => by
     obtain ⟨c, hc, _⟩ := h4 (k + 1) (by omega) (by omega)
     rw [hnext] at hc; cases hc
    rw [← this, hnext, hx]
   | some n =>
    rw [ht] at hx hnext
    obtain ⟨e1, e2⟩ := hx
    refine qskip (by rw [e2]; rfl) (hk' _ ⟨k + 1, n, ?_, by omega, hnext, e1⟩ ?_)
    ·show w64 ((k : Int) + 1) = _; rw [w64_id (by omega) (by omega)]; simp
    ·show N + 1 - (w64 ((k : Int) + 1)).toNat < N + 1 - ((k : Int)).toNat
     rw [w64_id (by omega) (by omega)]; omega
  ·have hc := not_or.1 (of_decide_eq_false hc)
   have hw := Classical.not_not.1 hc.2
   have : k = N := Classical.byContradiction fun hne => by
    obtain ⟨c, hcc, hn⟩ := h4 k (by omega) (by omega)
    rw [hv] at hcc; cases hcc; exact hn hw
   rw [← this, hv]
end
end Go.Proofs.Ytmpjooneiaiffaa
/- Plain laws: a permutation of eight places comes back after at most 15 rounds. -/
set_option maxRecDepth 8000
namespace Go.Proofs.Ytmpjooneiaiffaa
open Go.RowKit
open Classical

def itp (π : Nat → Nat) : Nat → Nat → Nat
 | 0, x => x
 | n + 1, x => π (itp π n x)
section
variable {π : Nat → Nat}
theorem itp_add (a b x : Nat) : itp π (a + b) x = itp π a (itp π b x) := by
 induction a with
 | zero => rw [Nat.zero_add]; rfl
 | succ a ih => rw [Nat.succ_add]; show π _ = π _; rw [ih]
theorem itp_mul {c x : Nat} (h : itp π c x = x) : ∀ q, itp π (c * q) x = x
 | 0 => rfl
 | q + 1 => by rw [Nat.mul_succ, itp_add, h, itp_mul h q]
theorem itp_dvd {c x n : Nat} (hc : 1 ≤ c) (h : itp π c x = x) (hm : ∀ k, 1 ≤ k → k < c → itp π k x ≠ x) : itp π n x = x ↔ c ∣ n := by
 constructor
 ·intro hn
  have h1 : n % c + c * (n / c) = n := Nat.mod_add_div n c
  rw [← h1, itp_add, itp_mul h] at hn
  have h2 := Nat.mod_lt n (show c > 0 by omega)
  rcases Nat.eq_zero_or_pos (n % c) with h0 | h0
  ·exact Nat.dvd_of_mod_eq_zero h0
  ·exact absurd hn (hm _ h0 h2)
 ·rintro ⟨q, rfl⟩; exact itp_mul h q
theorem itp_same {n k x : Nat} (h : itp π n x = x) : itp π n (itp π k x) = itp π k x := by
 rw [← itp_add, Nat.add_comm, itp_add, h]
theorem nod8 {l : List Nat} (h : ∀ y ∈ l, y < 8) (hn : l.Nodup) : l.length ≤ 8 := by
 refine Classical.byContradiction fun hgt => ?_
 obtain ⟨i, j, hij, hj, he⟩ := pig 8 (fun i => l.getD i 0) fun i hi => by
  have hil : i < l.length := by omega
  show l.getD i 0 < 8
  rw [show l.getD i 0 = l[i] by simp [List.getD, List.getElem?_eq_getElem hil]]
  exact h _ (List.getElem_mem hil)
 have hil : i < l.length := by omega
 have hjl : j < l.length := by omega
 have he : l.getD i 0 = l.getD j 0 := he
 rw [show l.getD i 0 = l[i] by simp [List.getD, List.getElem?_eq_getElem hil], show l.getD j 0 = l[j] by simp [List.getD, List.getElem?_eq_getElem hjl]] at he
 exact List.pairwise_iff_getElem.1 hn i j hil hjl hij he
variable (hlt : ∀ x, x < 8 → π x < 8) (hinj : ∀ x y, x < 8 → y < 8 → π x = π y → x = y)
include hlt
theorem itp_lt : ∀ n {x}, x < 8 → itp π n x < 8
 | 0, _, h => h
 | n + 1, _, h => hlt _ (itp_lt n h)
include hinj
theorem itp_inj : ∀ n {x y}, x < 8 → y < 8 → itp π n x = itp π n y → x = y
 | 0, _, _, _, _, h => h
 | n + 1, _, _, hx, hy, h => itp_inj n hx hy (hinj _ _ (itp_lt hlt n hx) (itp_lt hlt n hy) h)
theorem itp_back {x i j : Nat} (hx : x < 8) (hij : i < j) (h : itp π i x = itp π j x) : itp π (j - i) x = x := by
 rw [show j = i + (j - i) by omega, itp_add] at h
 exact (itp_inj hlt hinj i hx (itp_lt hlt _ hx) h).symm
theorem itp_per {x : Nat} (hx : x < 8) : ∃ c, 1 ≤ c ∧ c ≤ 8 ∧ itp π c x = x ∧ ∀ k, 1 ≤ k → k < c → itp π k x ≠ x := by
 obtain ⟨i, j, hij, hj, he⟩ := pig 8 (fun i => itp π i x) fun i _ => itp_lt hlt i hx
 obtain ⟨m, h1, h2, h3⟩ := least (P := fun n => 1 ≤ n ∧ itp π n x = x) (j - i) ⟨by omega, itp_back hlt hinj hx hij he⟩
 exact ⟨m, h2.1, by omega, h2.2, fun k hk1 hk2 he => h3 k hk2 ⟨hk1, he⟩⟩
def orb (π : Nat → Nat) (c x : Nat) : List Nat := (List.range c).map fun k => itp π k x
theorem orb_lt {c x : Nat} (hx : x < 8) : ∀ y ∈ orb π c x, y < 8 := fun y hy => by
 have _h := hinj
 obtain ⟨k, _, rfl⟩ := List.mem_map.1 hy
 exact itp_lt hlt k hx
theorem orb_nodup {c x : Nat} (hx : x < 8) (hm : ∀ k, 1 ≤ k → k < c → itp π k x ≠ x) : (orb π c x).Nodup := by
 refine List.pairwise_iff_getElem.2 fun i j hi hj hij he => ?_
 simp only [orb, List.getElem_map, List.getElem_range, List.length_map, List.length_range] at he hi hj
 exact hm (j - i) (by omega) (by omega) (itp_back hlt hinj hx hij he)
omit hlt hinj in
theorem orb_apart {c d x y : Nat} (hd : 1 ≤ d) (hy : itp π d y = y) (hn : ¬ ∃ k, itp π k x = y) : ∀ a ∈ orb π c x, ∀ b ∈ orb π d y, a ≠ b := by
 intro a ha b hb he
 obtain ⟨i, _, rfl⟩ := List.mem_map.1 ha
 obtain ⟨j, _, rfl⟩ := List.mem_map.1 hb
 refine hn ⟨d * j - j + i, ?_⟩
 have h1 : j ≤ d * j := Nat.le_mul_of_pos_left j hd
 rw [itp_add, he, ← itp_add, show d * j - j + j = d * j by omega, itp_mul hy]
theorem ord15 : ∃ n, 1 ≤ n ∧ n ≤ 15 ∧ ∀ x, x < 8 → itp π n x = x := by
 refine Classical.byContradiction fun hno => ?_
 have ex : ∀ n, 1 ≤ n → n ≤ 15 → ∃ x, x < 8 ∧ itp π n x ≠ x := fun n h1 h2 => Classical.byContradiction fun hn => hno ⟨n, h1, h2, fun x hx => Classical.byContradiction fun he => hn ⟨x, hx, he⟩⟩
 have two : ∀ {x y c d : Nat}, x < 8 → y < 8 → 1 ≤ d → (∀ k, 1 ≤ k → k < c → itp π k x ≠ x) → itp π d y = y → (∀ k, 1 ≤ k → k < d → itp π k y ≠ y) → (¬ ∃ k, itp π k x = y) → c + d ≤ 8 := fun {x y c d} hx hy hd mx py my hn => by
  have := nod8 (l := orb π c x ++ orb π d y) (fun z hz => (List.mem_append.1 hz).elim (orb_lt hlt hinj hx z) (orb_lt hlt hinj hy z)) (List.nodup_append.2 ⟨orb_nodup hlt hinj hx mx, orb_nodup hlt hinj hy my, orb_apart hd py hn⟩)
  simpa [orb] using this
 have far : ∀ {n x y c : Nat}, itp π c x = x → c ∣ n → itp π n y ≠ y → ¬ ∃ k, itp π k x = y := fun {n x y c} px hc hy => by
  rintro ⟨k, rfl⟩
  obtain ⟨q, rfl⟩ := hc
  exact hy (itp_same (itp_mul px q))
 obtain ⟨x, hx, ex1⟩ := ex 12 (by omega) (by omega)
 obtain ⟨c, c1, c8, px, mx⟩ := itp_per hlt hinj hx
 have hc : ¬ c ∣ 12 := fun h => ex1 ((itp_dvd c1 px mx).2 h)
 have hc' : c = 5 ∨ c = 7 ∨ c = 8 := by
  rcases (by omega : c = 1 ∨ c = 2 ∨ c = 3 ∨ c = 4 ∨ c = 5 ∨ c = 6 ∨ c = 7 ∨ c = 8) with rfl | rfl | rfl | rfl | rfl | rfl | rfl | rfl
  ·exact absurd ⟨12, rfl⟩ hc
  ·exact absurd ⟨6, rfl⟩ hc
  ·exact absurd ⟨4, rfl⟩ hc
  ·exact absurd ⟨3, rfl⟩ hc
  ·exact .inl rfl
  ·exact absurd ⟨2, rfl⟩ hc
  ·exact .inr (.inl rfl)
  ·exact .inr (.inr rfl)
 have pick : ∀ n, 1 ≤ n → n ≤ 15 → c ∣ n → ∃ y d, y < 8 ∧ 1 ≤ d ∧ itp π d y = y ∧ (∀ k, 1 ≤ k → k < d → itp π k y ≠ y) ∧ ¬ d ∣ n ∧ c + d ≤ 8 ∧ ¬ ∃ k, itp π k x = y := fun n h1 h2 hcn => by
  obtain ⟨y, hy, ey⟩ := ex n h1 h2
  obtain ⟨d, d1, d8, py, my⟩ := itp_per hlt hinj hy
  have hf := far px hcn ey
  exact ⟨y, d, hy, d1, py, my, fun h => ey ((itp_dvd d1 py my).2 h), two hx hy d1 mx py my hf, hf⟩
 rcases hc' with rfl | rfl | rfl
 ·obtain ⟨y, d, hy, d1, py, my, hd, hcd, fxy⟩ := pick 10 (by omega) (by omega) ⟨2, rfl⟩
  have hd3 : d = 3 := by
   rcases (by omega : d = 1 ∨ d = 2 ∨ d = 3) with rfl | rfl | rfl
   ·exact absurd ⟨10, rfl⟩ hd
   ·exact absurd ⟨5, rfl⟩ hd
   ·rfl
  subst hd3
  obtain ⟨z, hz, ez⟩ := ex 15 (by omega) (by omega)
  obtain ⟨b, b1, b8, pz, mz⟩ := itp_per hlt hinj hz
  have fxz := far px (n := 15) ⟨3, rfl⟩ ez
  have fyz := far py (n := 15) ⟨5, rfl⟩ ez
  have := nod8 (l := orb π 5 x ++ (orb π 3 y ++ orb π b z)) (fun w hw => (List.mem_append.1 hw).elim (orb_lt hlt hinj hx w) fun hw => (List.mem_append.1 hw).elim (orb_lt hlt hinj hy w) (orb_lt hlt hinj hz w))
   (List.nodup_append.2 ⟨orb_nodup hlt hinj hx mx, List.nodup_append.2 ⟨orb_nodup hlt hinj hy my, orb_nodup hlt hinj hz mz, orb_apart b1 pz fyz⟩, fun a ha b' hb => (List.mem_append.1 hb).elim (orb_apart d1 py fxy a ha b') (orb_apart b1 pz fxz a ha b')⟩)
  simp [orb] at this
  omega
 ·obtain ⟨y, d, hy, d1, py, my, hd, hcd, _⟩ := pick 7 (by omega) (by omega) ⟨1, rfl⟩
  exact hd (by rw [show d = 1 by omega]; exact ⟨7, rfl⟩)
 ·obtain ⟨y, d, hy, d1, py, my, hd, hcd, _⟩ := pick 8 (by omega) (by omega) ⟨1, rfl⟩
  omega
end
end Go.Proofs.Ytmpjooneiaiffaa
