/- Plain laws: the places at which two cloths differ. -/
import Derived.Test.YtpiaipiehjcflaaLawH
set_option maxRecDepth 8000
namespace Go.Proofs.Ytpiaipiehjcflaa
open Go.RowKit

/-- The places at which d holds, by picks and then by warps: from warp j of pick i on. -/
def rowFrom (d : Nat → Bool) (i m : Nat) : Nat → List (Int × Int)
  | 0 => []
  | k + 1 => (if d (m - (k + 1)) then [((i : Int), ((m - (k + 1) : Nat) : Int))] else []) ++ rowFrom d i m k
def plFrom (d : Nat → Nat → Bool) (n m : Nat) : Nat → List (Int × Int)
  | 0 => []
  | k + 1 => rowFrom (d (n - (k + 1))) (n - (k + 1)) m m ++ plFrom d n m k
def pl (n m : Nat) (d : Nat → Nat → Bool) : List (Int × Int) := plFrom d n m n
theorem rowFrom_step {d : Nat → Bool} {i m j : Nat} (hj : j < m) : rowFrom d i m (m - j) = (if d j then [((i : Int), (j : Int))] else []) ++ rowFrom d i m (m - (j + 1)) := by
  obtain ⟨k, hk⟩ : ∃ k, m - j = k + 1 := ⟨m - j - 1, by omega⟩
  rw [hk, rowFrom, show m - (k + 1) = j by omega, show m - (j + 1) = k by omega]
theorem plFrom_step {d : Nat → Nat → Bool} {n m i : Nat} (hi : i < n) : plFrom d n m (n - i) = rowFrom (d i) i m m ++ plFrom d n m (n - (i + 1)) := by
  obtain ⟨k, hk⟩ : ∃ k, n - i = k + 1 := ⟨n - i - 1, by omega⟩
  rw [hk, plFrom, show n - (k + 1) = i by omega, show n - (i + 1) = k by omega]
/-- A consumer is handed one after the other, till it has enough. -/
def feed {σ α : Type} (cons : Cons σ α) : List α → σ → Option σ
  | [], s => some s
  | x :: xs, s => (cons s x).bind fun r => bif r.1 then feed cons xs r.2 else some r.2
theorem mark_ne (a b : Bool) : (mark a != mark b) = (a != b) := by cases a <;> cases b <;> rfl
theorem mark_lt (b : Bool) : mark b < 128 := by cases b <;> decide
theorem line_len (m : Nat) (c : Nat → Bool) : (line m c).b.length = m := by simp [line]
theorem line_at {m : Nat} {c : Nat → Bool} {j : Nat} (h : j < (line m c).b.length) : (line m c).b[j] = mark (c j) := by simp [line]
theorem cloth_len (n m : Nat) (c : Nat → Nat → Bool) : (clothOf n m c).length = n := by simp [clothOf]
theorem cloth_at {n m : Nat} {c : Nat → Nat → Bool} {i : Nat} (h : i < (clothOf n m c).length) : (clothOf n m c)[i] = line m (c i) := by simp [clothOf]
theorem dec_line {m : Nat} {c : Nat → Bool} {j : Nat} (h : j < m) : (dec (line m c) j).2 = 1 := by
  have hl : j < (line m c).b.length := by rw [line_len]; exact h
  have hg : (ByteArray.mk (Array.mk (line m c).b)).get! (j + 0) = mark (c j) := by
    show (Array.mk (line m c).b)[j]! = _
    rw [getElem!_pos _ j (by simpa using hl)]
    exact line_at hl
  unfold dec Utf8.decode
  simp only [hg]
  have hb : (mark (c j)).toNat < 128 := mark_lt (c j)
  rw [if_pos hb]
theorem s83 {n m : Nat} (hn : n ≤ 100000) (hm : m ≤ 100000) (c c' : Nat → Nat → Bool) {σ : Type} {cons : Cons σ (Int × Int)} {s t : σ} (h : feed cons (pl n m fun p w => c p w != c' p w) s = some t) :
    f83 (clothOf n m c) (clothOf n m c') σ cons s = some t := by
  refine Yes.eq ?_
  unfold f83
  rw [cloth_len]
  refine Yes.upto n (by omega) (fun i s => feed cons (plFrom (fun p w => c p w != c' p w) n m (n - i)) s = some t) h (fun i s k hi hI hk' => ?_) (fun s k hI => ?_)
  · refine Yes.cond (fun _ => Yes.jn (Yes.bind (Yes.idx rfl (by rw [cloth_len]; exact hi) ?_))) (fun h => absurd h (by simp; omega))
    rw [plFrom_step hi] at hI
    rw [cloth_at]
    refine Yes.lp (fun q => q.2 ≤ m ∧ feed cons (rowFrom (fun w => c i w != c' i w) i m (m - q.2) ++ plFrom (fun p w => c p w != c' p w) n m (n - (i + 1))) q.1 = some t) (fun q => m - q.2) ⟨Nat.zero_le _, hI⟩ (by simp only; omega) ?_
    rintro ⟨s, j⟩ k2 ⟨hj, hJ⟩ hk2
    simp only at hj hJ hk2
    rw [line_len]
    refine Yes.cond (fun hlt => Yes.bind (Yes.bind ?_)) (fun hge => ?_)
    · have hlt : j < m := by simpa using hlt
      rw [rowFrom_step hlt] at hJ
      have hw : j + (dec (line m (c i)) j).2 = j + 1 := by rw [dec_line hlt]
      refine Yes.idx rfl (by rw [line_len]; exact hlt) (Yes.bind (Yes.idx rfl (by rw [cloth_len]; exact hi) ?_))
      rw [cloth_at]
      refine Yes.bind (Yes.idx rfl (by rw [line_len]; exact hlt) ?_)
      rw [line_at, line_at, mark_ne]
      refine Yes.cond (fun hd => ?_) (fun hd => Yes.some (Yes.cond (fun h => nomatch h) (fun _ => ?_)))
      · rw [hd] at hJ
        simp only [if_true, List.cons_append, List.nil_append, feed] at hJ
        obtain ⟨⟨b, s'⟩, hc, hr⟩ := bsome hJ
        refine Yes.bind (Yes.of hc (Yes.some (Yes.cond (fun h => ?_) (fun h => ?_))))
        · have hb : b = false := by simpa using h
          subst hb
          simp only [cond_false] at hr
          exact Yes.some (Option.some.inj hr)
        · have hb : b = true := by simpa using h
          subst hb
          simp only [cond_true] at hr
          rw [hw]
          exact hk2 (s', j + 1) ⟨hlt, hr⟩ (by simp only; omega)
      · rw [hd] at hJ
        rw [hw]
        exact hk2 (s, j + 1) ⟨hlt, by simpa using hJ⟩ (by simp only; omega)
    · have : j = m := by have : ¬ j < m := by simpa using hge
                         omega
      subst this
      rw [Nat.sub_self] at hJ
      exact hk' s (by simpa [rowFrom] using hJ)
  · rw [Nat.sub_self] at hI
    exact Yes.cond (fun h => absurd h (by simp)) (fun _ => Yes.some (Option.some.inj hI))
/-- What fault.Tell finds. -/
def told (ps : List (Int × Int)) : Int × Int × Int := match ps with
  | [] => (0, 0, 7)
  | (p, w) :: _ => (p, w, 0)
theorem s55_one {l : FaultLoom} (g : Good l) {d : FaultDamage} (hd : dmg l d = true) : f55 ⟨l⟩ [d] = some (rnd l [d]) :=
  s55 g (s78_one d) (by simp) (by simp) (fun x hx => by rw [List.mem_singleton.1 hx]; exact hd)
/-- What a round lifts. -/
def rc (l : FaultLoom) (ds : List FaultDamage) (p w : Nat) : Bool := (after l ds).1 p (hk l w) && !(after l ds).2 w
theorem rnd_is (l : FaultLoom) (ds : List FaultDamage) : rnd l ds = clothOf l.Design.Rows.length l.Harness.Warps.length (rc l ds) := rfl
/-- The places at which the rounds of two damages differ. -/
def apl (l : FaultLoom) (a b : List FaultDamage) : List (Int × Int) := pl l.Design.Rows.length l.Harness.Warps.length fun p w => rc l a p w != rc l b p w
theorem s37 (l : FaultLoom) (a b : FaultDamage) : f37 l a b = some (if chkE l [a, b] = 0 then told (apl l [a] [b]) else (0, 0, chkE l [a, b])) := by
  refine Yes.eq ?_
  unfold f37
  refine Yes.jn (Yes.bind (Yes.of (s18 _ _) (Yes.cond (fun h => Yes.some ?_) (fun h => ?_))))
  · have h : chkE l [a, b] ≠ 0 := by simpa using h
    rw [if_neg h]
  have h : chkE l [a, b] = 0 := by simpa using h
  rw [if_pos h]
  obtain ⟨h0, hall⟩ : loomE l = 0 ∧ [a, b].all (dmg l) = true := by
    unfold chkE at h
    split at h
    · rename_i h1; exact absurd h h1
    rename_i h1
    refine ⟨Decidable.not_not.1 h1, ?_⟩
    split at h
    · cases h
    split at h
    · assumption
    · cases h
  have g := good_of h0
  obtain ⟨ha, hb⟩ : dmg l a = true ∧ dmg l b = true := by simpa using hall
  have hr1 := g.r1
  have hw1 := g.w1
  refine Yes.jn (Yes.bind (Yes.of (s55_one g ha) (Yes.bind (Yes.of (s55_one g hb) (Yes.bind ?_)))))
  rw [rnd_is, rnd_is]
  cases hp : apl l [a] [b] with
  | nil =>
    refine Yes.of (s83 (by omega) (by omega) (rc l [a]) (rc l [b]) (t := (0, 0, 0, 0)) ?_) ?_
    · have : pl l.Design.Rows.length l.Harness.Warps.length (fun p w => rc l [a] p w != rc l [b] p w) = [] := hp
      rw [this]; rfl
    · exact Yes.some rfl
  | cons x xs =>
    obtain ⟨p, w⟩ := x
    refine Yes.of (s83 (by omega) (by omega) (rc l [a]) (rc l [b]) (t := (1, p, w, 0)) ?_) ?_
    · have : pl l.Design.Rows.length l.Harness.Warps.length (fun p w => rc l [a] p w != rc l [b] p w) = (p, w) :: xs := hp
      rw [this]; rfl
    · exact Yes.some rfl
/-- What the reference's Wrong finds. -/
def wrs (c : Nat → Nat → Bool) (ps : List (Int × Int)) : List FaultSight := ps.map fun q => ⟨q.1, q.2, c q.1.toNat q.2.toNat⟩
theorem mark_x (b : Bool) : (mark b == (120 : UInt8)) = b := by cases b <;> rfl
theorem rowFrom_len (d : Nat → Bool) (i m k : Nat) : (rowFrom d i m k).length ≤ k := by
  induction k with
  | zero => simp [rowFrom]
  | succ k ih => unfold rowFrom; split <;> simp <;> omega
theorem plFrom_len (d : Nat → Nat → Bool) (n m k : Nat) : (plFrom d n m k).length ≤ k * m := by
  induction k with
  | zero => simp [plFrom]
  | succ k ih => unfold plFrom; have := rowFrom_len (d (n - (k + 1))) (n - (k + 1)) m m; rw [List.length_append, Nat.add_mul]; omega
theorem s29 {n m : Nat} (hn : n ≤ 1000) (hm : m ≤ 1000) (c c' : Nat → Nat → Bool) : f29 (clothOf n m c) (clothOf n m c') = some (wrs c (pl n m fun p w => c p w != c' p w)) := by
  refine Yes.eq ?_
  unfold f29
  refine Yes.bind ?_
  refine Yes.upto n (by omega) (fun i r => r ++ wrs c (plFrom (fun p w => c p w != c' p w) n m (n - i)) = wrs c (pl n m fun p w => c p w != c' p w)) rfl (fun i r k hi hI hk' => ?_) (fun r k hI => ?_)
  · rw [cloth_len]
    refine Yes.jn (Yes.cond (fun _ => Yes.bind ?_) (fun h => absurd h (by simp; omega)))
    rw [plFrom_step hi] at hI
    have hlen : (wrs c (pl n m fun p w => c p w != c' p w)).length ≤ 1000000 := by
      have := plFrom_len (fun p w => c p w != c' p w) n m n
      have h2 : n * m ≤ 1000 * 1000 := Nat.mul_le_mul hn hm
      unfold wrs pl
      rw [List.length_map]; omega
    refine Yes.upto m (by omega) (fun j r => r ++ wrs c (rowFrom (fun w => c i w != c' i w) i m (m - j) ++ plFrom (fun p w => c p w != c' p w) n m (n - (i + 1))) = wrs c (pl n m fun p w => c p w != c' p w)) hI (fun j r k2 hj hJ hk2 => ?_) (fun r k2 hJ => ?_)
    · rw [rowFrom_step hj] at hJ
      refine Yes.jn (Yes.bind (Yes.idx rfl (by rw [cloth_len]; exact hi) ?_))
      rw [cloth_at, line_len]
      refine Yes.cond (fun _ => Yes.bind (Yes.bind (Yes.idx rfl (by rw [cloth_len]; exact hi) ?_))) (fun h => absurd h (by simp; omega))
      rw [cloth_at]
      refine Yes.bind (Yes.idx rfl (by rw [line_len]; exact hj) (Yes.bind (Yes.idx rfl (by rw [cloth_len]; exact hi) ?_)))
      rw [cloth_at]
      refine Yes.bind (Yes.idx rfl (by rw [line_len]; exact hj) ?_)
      rw [line_at, line_at, mark_ne]
      refine Yes.cond (fun hd => ?_) (fun hd => Yes.some (hk2 _ ?_))
      · rw [hd] at hJ
        simp only [if_true] at hJ
        have hrl : r.length ≤ 1000000 := by rw [← hJ] at hlen; rw [List.length_append] at hlen; omega
        refine Yes.bind (Yes.idx rfl (by rw [cloth_len]; exact hi) ?_)
        rw [cloth_at]
        refine Yes.bind (Yes.idx rfl (by rw [line_len]; exact hj) (Yes.bind (Yes.apnd (by simp; omega) (by simp; omega) (Yes.some (hk2 _ ?_)))))
        rw [line_at, mark_x, ← hJ]
        simp [wrs]
      · rw [hd] at hJ
        simpa using hJ
    · refine Yes.jn (Yes.bind (Yes.idx rfl (by rw [cloth_len]; exact hi) ?_))
      rw [cloth_at, line_len]
      refine Yes.cond (fun h => absurd h (by simp)) (fun _ => Yes.some (hk' _ ?_))
      rw [Nat.sub_self] at hJ
      simpa [rowFrom] using hJ
  · rw [cloth_len]
    rw [Nat.sub_self] at hI
    refine Yes.jn (Yes.cond (fun h => absurd h (by simp)) (fun _ => Yes.some (Yes.some ?_)))
    simpa [plFrom, wrs] using hI
theorem s36 {l : FaultLoom} (g : Good l) {d : FaultDamage} (hd : dmg l d = true) : f36 l d = some (rnd l [d]) := by
  refine Yes.eq ?_
  unfold f36
  exact Yes.bind (Yes.of (s26 g (by simp) (fun x hx => by rw [List.mem_singleton.1 hx]; exact hd)) (Yes.some (one_same hd)))
end Go.Proofs.Ytpiaipiehjcflaa
