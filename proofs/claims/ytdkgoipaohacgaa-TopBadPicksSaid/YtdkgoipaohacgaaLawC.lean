/- What a damaged loom weaves. -/
import Derived.Test.YtdkgoipaohacgaaLawB
set_option maxRecDepth 8000
namespace Go.Proofs.Ytdkgoipaohacgaa
open Go.RowKit


def rowFrom (d : Nat → Bool) (i m : Nat) : Nat → List (Int × Int)
 | 0 => []
 | k + 1 => (if d (m - (k + 1)) then [((i : Int), ((m - (k + 1) : Nat) : Int))] else []) ++ rowFrom d i m k
def plFrom (d : Nat → Nat → Bool) (n m : Nat) : Nat → List (Int × Int)
 | 0 => []
 | k + 1 => rowFrom (d (n - (k + 1))) (n - (k + 1)) m m ++ plFrom d n m k
def pl (n m : Nat) (d : Nat → Nat → Bool) : List (Int × Int) := plFrom d n m n
theorem rowFrom_step {d : Nat → Bool} {i m j : Nat} (hj : j < m) : rowFrom d i m (m - j) = (if d j then [((i : Int), (j : Int))] else []) ++ rowFrom d i m (m - (j + 1)) := by
 obtain ⟨k, hk⟩ : ∃ k, m - j = k + 1 := ⟨m - j - 1, by omega⟩
 rw [hk, rowFrom, show m - (k + 1) = j by omega, show m - (j + 1) = k by omega]
theorem plFrom_step {d : Nat → Nat → Bool} {n m i : Nat} (hi : i < n) : plFrom d n m (n - i) = rowFrom (d i) i m m ++ plFrom d n m (n - (i + 1)) := by
 obtain ⟨k, hk⟩ : ∃ k, n - i = k + 1 := ⟨n - i - 1, by omega⟩
 rw [hk, plFrom, show n - (k + 1) = i by omega, show n - (i + 1) = k by omega]
def feed {σ α : Type} (cons : Cons σ α) : List α → σ → Option σ
 | [], s => some s
 | x :: xs, s => (cons s x).bind fun r => bif r.1 then feed cons xs r.2 else some r.2
theorem mark_ne (a b : Bool) : (mark a != mark b) = (a != b) := by cases a <;> cases b <;> rfl
theorem mark_lt (b : Bool) : mark b < 128 := by cases b <;> decide
theorem line_len (m : Nat) (c : Nat → Bool) : (line m c).b.length = m := by simp [line]
theorem line_at {m : Nat} {c : Nat → Bool} {j : Nat} (h : j < (line m c).b.length) : (line m c).b[j] = mark (c j) := by simp [line]
theorem cloth_len (n m : Nat) (c : Nat → Nat → Bool) : (clothOf n m c).length = n := by simp [clothOf]
theorem cloth_at {n m : Nat} {c : Nat → Nat → Bool} {i : Nat} (h : i < (clothOf n m c).length) : (clothOf n m c)[i] = line m (c i) := by simp [clothOf]
theorem dec_line {m : Nat} {c : Nat → Bool} {j : Nat} (h : j < m) : (dec (line m c) j).2 = 1 := by
 have hl : j < (line m c).b.length := by rw [line_len]; exact h
 have hg : (ByteArray.mk (Array.mk (line m c).b)).get! (j + 0) = mark (c j) := by
  show (Array.mk (line m c).b)[j]! = _
  rw [getElem!_pos _ j (by simpa using hl)]
  exact line_at hl
 unfold dec Utf8.decode
 simp only [hg]
 have hb : (mark (c j)).toNat < 128 := mark_lt (c j)
 rw [if_pos hb]
theorem s83 {n m : Nat} (hn : n ≤ 100000) (hm : m ≤ 100000) (c c' : Nat → Nat → Bool) {σ : Type} {cons : Cons σ (Int × Int)} {s t : σ} (h : feed cons (pl n m fun p w => c p w != c' p w) s = some t) :
    f105 (clothOf n m c) (clothOf n m c') σ cons s = some t := by
  refine Yes.eq ?_
  unfold f105
  rw [cloth_len]
  refine Yes.upto n (by omega) (fun i s => feed cons (plFrom (fun p w => c p w != c' p w) n m (n - i)) s = some t) h (fun i s k hi hI hk' => ?_) (fun s k hI => ?_)
  · refine Yes.cond (fun _ => Yes.jn (Yes.bind (Yes.idx rfl (by rw [cloth_len]; exact hi) ?_))) (fun h => absurd h (by simp; omega))
    rw [plFrom_step hi] at hI
    rw [cloth_at]
    refine Yes.lp (fun q => q.2 ≤ m ∧ feed cons (rowFrom (fun w => c i w != c' i w) i m (m - q.2) ++ plFrom (fun p w => c p w != c' p w) n m (n - (i + 1))) q.1 = some t) (fun q => m - q.2) ⟨Nat.zero_le _, hI⟩ (by simp only; omega) ?_
    rintro ⟨s, j⟩ k2 ⟨hj, hJ⟩ hk2
    simp only at hj hJ hk2
    rw [line_len]
    refine Yes.cond (fun hlt => Yes.bind (Yes.bind ?_)) (fun hge => ?_)
    · have hlt : j < m := by simpa using hlt
      rw [rowFrom_step hlt] at hJ
      have hw : j + (dec (line m (c i)) j).2 = j + 1 := by rw [dec_line hlt]
      refine Yes.idx rfl (by rw [line_len]; exact hlt) (Yes.bind (Yes.idx rfl (by rw [cloth_len]; exact hi) ?_))
      rw [cloth_at]
      refine Yes.bind (Yes.idx rfl (by rw [line_len]; exact hlt) ?_)
      rw [line_at, line_at, mark_ne]
      refine Yes.cond (fun hd => ?_) (fun hd => Yes.some (Yes.cond (fun h => nomatch h) (fun _ => ?_)))
      · rw [hd] at hJ
        simp only [if_true, List.cons_append, List.nil_append, feed] at hJ
        obtain ⟨⟨b, s'⟩, hc, hr⟩ := bsome hJ
        refine Yes.bind (Yes.of hc (Yes.some (Yes.cond (fun h => ?_) (fun h => ?_))))
        · have hb : b = false := by simpa using h
          subst hb
          simp only [cond_false] at hr
          exact Yes.some (Option.some.inj hr)
        · have hb : b = true := by simpa using h
          subst hb
          simp only [cond_true] at hr
          rw [hw]
          exact hk2 (s', j + 1) ⟨hlt, hr⟩ (by simp only; omega)
      · rw [hd] at hJ
        rw [hw]
        exact hk2 (s, j + 1) ⟨hlt, by simpa using hJ⟩ (by simp only; omega)
    · have : j = m := by have : ¬ j < m := by simpa using hge
                         omega
      subst this
      rw [Nat.sub_self] at hJ
      exact hk' s (by simpa [rowFrom] using hJ)
  · rw [Nat.sub_self] at hI
    exact Yes.cond (fun h => absurd h (by simp)) (fun _ => Yes.some (Option.some.inj hI))
def rc (l : FaultLoom) (ds : List FaultDamage) (p w : Nat) : Bool := (after l ds).1 p (hk l w) && !(after l ds).2 w
theorem rnd_is (l : FaultLoom) (ds : List FaultDamage) : rnd l ds = clothOf l.Design.Rows.length l.Harness.Warps.length (rc l ds) := rfl
def wrs (c : Nat → Nat → Bool) (ps : List (Int × Int)) : List FaultSight := ps.map fun q => ⟨q.1, q.2, c q.1.toNat q.2.toNat⟩
theorem mark_x (b : Bool) : (mark b == (120 : UInt8)) = b := by cases b <;> rfl
theorem rowFrom_len (d : Nat → Bool) (i m k : Nat) : (rowFrom d i m k).length ≤ k := by
 induction k with
 | zero => simp [rowFrom]
 | succ k ih => unfold rowFrom; split <;> simp <;> omega
theorem plFrom_len (d : Nat → Nat → Bool) (n m k : Nat) : (plFrom d n m k).length ≤ k * m := by
 induction k with
 | zero => simp [plFrom]
 | succ k ih => unfold plFrom; have := rowFrom_len (d (n - (k + 1))) (n - (k + 1)) m m; rw [List.length_append, Nat.add_mul]; omega
theorem chk_good {l : FaultLoom} {ds : List FaultDamage} (h : chkE l ds = 0) : Good l ∧ ds.length ≤ 100 ∧ ∀ d ∈ ds, dmg l d = true := by
 unfold chkE at h
 split at h
 ·rename_i h1; exact absurd h h1
 rename_i h1
 have h1 := Decidable.not_not.1 h1
 split at h
 ·cases h
 split at h
 ·rename_i h2 h3; exact ⟨good_of h1, by omega, List.all_eq_true.1 h3⟩
 ·cases h
theorem rem_nat {a b : Nat} (hb : 0 < b) : rem64 (a : Int) (b : Int) = some ((a % b : Nat) : Int) := by
 unfold rem64
 rw [if_neg (by omega), Int.tmod_eq_emod_of_nonneg (by omega)]
 rfl
theorem feed_app {α β : Type} {cons : Cons (List β) α} (f : α → List β) (B : Nat) : ∀ (xs : List α) (m : List β), (∀ x ∈ xs, (f x).length ≤ 1) → m.length + xs.length ≤ B → (∀ m x, x ∈ xs → m.length < B → cons m x = some (true, m ++ f x)) → feed cons xs m = some (m ++ xs.flatMap f)
 | [], m, _, _, _ => by simp [feed]
 | x :: xs, m, h1, hB, h => by
  unfold feed
  have hx := h1 x List.mem_cons_self
  simp only [List.length_cons] at hB
  rw [h m x List.mem_cons_self (by omega)]
  simp only [Option.bind_some, cond_true]
  rw [feed_app f B xs (m ++ f x) (fun y hy => h1 y (List.mem_cons_of_mem _ hy)) (by rw [List.length_append]; omega) (fun m y hy hm => h m y (List.mem_cons_of_mem _ hy) hm)]
  simp

def openE (l : FaultLoom) (ds : List FaultDamage) (k : Int) : Int := if chkE l ds ≠ 0 then chkE l ds else if btw 1 120 k then 0 else 3
theorem s54 (l : FaultLoom) (ds : List FaultDamage) (k : Int) : f41 l ds k = some (openE l ds k) := by
 refine Yes.eq ?_
 unfold f41
 refine Yes.jn (Yes.bind (Yes.of (s18 _ _) (Yes.cond (fun h => Yes.some ?_) (fun h => Yes.jn (Yes.bind (Yes.of (s62 1 120 [k] (by simp)) (Yes.cond (fun h2 => Yes.some ?_) (fun h2 => Yes.some ?_))))))))
 ·have h : chkE l ds ≠ 0 := by simpa using h
  unfold openE; rw [if_pos h]
 all_goals
  have h : ¬ chkE l ds ≠ 0 := by simpa using h
  simp only [List.all_cons, List.all_nil, Bool.and_true, ← btw.eq_1] at h2
 ·have h2 : btw 1 120 k = false := by simpa using h2
  unfold openE; rw [if_neg h, h2]; rfl
 ·have h2 : btw 1 120 k = true := by simpa using h2
  unfold openE; rw [if_neg h, h2]; rfl
theorem u8rem_is {a b : UInt8} (hb : b ≠ 0) {β : Type} {K : UInt8 → Option β} {Q : β → Prop} (h : Yes (K (a % b)) Q) : Yes ((u8rem a b).bind K) Q := by
 refine Yes.bind ⟨a % b, ?_, h⟩
 unfold u8rem
 rw [if_neg hb]
def cthN (l : FaultLoom) (ds : List FaultDamage) (k : Nat) : List Str := clothOf k l.Harness.Warps.length fun p w => rc l ds (p % l.Design.Rows.length) w
theorem s19 {l : FaultLoom} {ds ds' : List FaultDamage} {k : Int} (hs : f87 ds (fun a0 a1 => f88 a0 a1) = some ds') (hl' : ds'.length ≤ 100000) (hall : ∀ d ∈ ds', dmg l d = true) (ho : openE l ds k = 0) : f13 l ds k = some (cthN l ds' k.toNat, 0) := by
 have hc : chkE l ds = 0 := by
  unfold openE at ho
  split at ho
  ·rename_i h1; exact absurd ho h1
  ·rename_i h1; exact Decidable.not_not.1 h1
 have hk : 1 ≤ k ∧ k ≤ 120 := by
  unfold openE at ho
  rw [if_neg (fun hh => hh hc)] at ho
  split at ho
  ·rename_i hb; simpa [btw] using hb
  ·cases ho
 obtain ⟨g, hlen, hd⟩ := chk_good hc
 refine Yes.eq ?_
 unfold f13
 refine Yes.jn (Yes.bind (Yes.of (s54 l ds k) (Yes.cond (fun h => absurd (by simpa using h) (by rw [ho]; simp)) (fun _ => Yes.bind (Yes.of (s55 g hs (by omega) hl' hall) (Yes.bind ?_))))))
 rw [rnd_is]
 have hr0 := g.r0
 have hr1 := g.r1
 obtain ⟨kn, rfl⟩ := Int.eq_ofNat_of_zero_le (show 0 ≤ k by omega)
 rw [Int.toNat_natCast, cloth_len]
 refine Yes.upto kn (by omega) (fun i r => r = cthN l ds' i) rfl (fun i r k2 hi hI hk2 => ?_) (fun r k2 hI => ?_)
 ·subst hI
  have hlt : i % l.Design.Rows.length < l.Design.Rows.length := Nat.mod_lt _ hr0
  refine Yes.cond (fun _ => Yes.bind (Yes.bind (Yes.of (rem_nat hr0) (Yes.bind (Yes.idx rfl (by rw [cloth_len]; exact hlt) ?_))))) (fun h => absurd h (by simp; omega))
  rw [cloth_at]
  refine Yes.bind (Yes.apnd (by unfold cthN; rw [cloth_len]; simp; omega) (by unfold cthN; rw [cloth_len]; simp; omega) (Yes.some (hk2 _ ?_)))
  unfold cthN clothOf
  rw [List.range_succ, List.map_append]; rfl
 ·subst hI
  exact Yes.cond (fun h => absurd h (by simp)) (fun _ => Yes.some (Yes.some rfl))
theorem open_ok {l : FaultLoom} {ds : List FaultDamage} {k : Int} (hc : chkE l ds = 0) (h1 : 1 ≤ k) (h2 : k ≤ 120) : openE l ds k = 0 := by
 unfold openE; rw [if_neg (fun hh => hh hc), if_pos (by simp [btw]; omega)]
theorem chk_ok {l : FaultLoom} {ds : List FaultDamage} (g : loomE l = 0) (hl : ds.length ≤ 100) (hd : ∀ d ∈ ds, dmg l d = true) : chkE l ds = 0 := by
 unfold chkE; rw [if_neg (fun hh => hh g), if_neg (by omega), if_pos (List.all_eq_true.2 hd)]
theorem cthN_at {l : FaultLoom} {ds : List FaultDamage} {k p : Nat} (h : p < (cthN l ds k).length) (hk2 : k ≤ l.Design.Rows.length) : (cthN l ds k)[p] = line l.Harness.Warps.length (rc l ds p) := by
 have h1 := cloth_at (n := k) (m := l.Harness.Warps.length) (c := fun p w => rc l ds (p % l.Design.Rows.length) w) h
 have hlt : p < k := by unfold cthN at h; rwa [cloth_len] at h
 simp only [Nat.mod_eq_of_lt (show p < l.Design.Rows.length by omega)] at h1
 exact h1
theorem cthN_len (l : FaultLoom) (ds : List FaultDamage) (k : Nat) : (cthN l ds k).length = k := by unfold cthN; rw [cloth_len]
theorem plFrom_range (d : Nat → Nat → Bool) (n m : Nat) : ∀ k, k ≤ n → plFrom d n m k = ((List.range n).drop (n - k)).flatMap fun i => rowFrom (d i) i m m
 | 0, _ => by rw [Nat.sub_zero, List.drop_eq_nil_of_le (by simp)]; rfl
 | k + 1, h => by
  rw [plFrom, plFrom_range d n m k (by omega)]
  rw [show (List.range n).drop (n - (k + 1)) = (n - (k + 1)) :: (List.range n).drop (n - k) by
   rw [List.drop_eq_getElem_cons (by simp; omega)]
   simp only [List.getElem_range]
   rw [show n - (k + 1) + 1 = n - k by omega]]
  simp
theorem pl_range (d : Nat → Nat → Bool) (n m : Nat) : pl n m d = (List.range n).flatMap fun i => rowFrom (d i) i m m := by
 unfold pl; rw [plFrom_range d n m n (Nat.le_refl _)]; simp
theorem s20 {l : FaultLoom} {ds ds' : List FaultDamage} {k : Nat} (hs : f87 ds (fun a0 a1 => f88 a0 a1) = some ds') (hl' : ds'.length ≤ 100000) (hall : ∀ d ∈ ds', dmg l d = true) (ho : openE l ds k = 0) (ho0 : openE l [] k = 0) (g : Good l) (hk : k ≤ 120) :
  f22 l ds k = some (wrs (fun p w => rc l ds' (p % l.Design.Rows.length) w) (pl k l.Harness.Warps.length fun p w => rc l ds' (p % l.Design.Rows.length) w != rc l [] (p % l.Design.Rows.length) w), 0) := by
 have hw1 := g.w1
 refine Yes.eq ?_
 unfold f22
 refine Yes.bind (Yes.of (s19 hs hl' hall ho) (Yes.jn (Yes.cond (fun h => nomatch h) (fun _ => Yes.bind (Yes.of (s19 s78_nil (by simp) (fun x hx => by cases hx) ho0) (Yes.bind (Yes.bind ?_)))))))
 rw [Int.toNat_natCast]
 have hpl : ∀ q ∈ pl k l.Harness.Warps.length (fun p w => rc l ds' (p % l.Design.Rows.length) w != rc l [] (p % l.Design.Rows.length) w), ∃ p w : Nat, q = ((p : Int), (w : Int)) ∧ p < k ∧ w < l.Harness.Warps.length := fun q hq => by
  rw [pl_range] at hq
  obtain ⟨p, hp, hq⟩ := List.mem_flatMap.1 hq
  have : ∀ j, j ≤ l.Harness.Warps.length → q ∈ rowFrom (fun w => rc l ds' (p % l.Design.Rows.length) w != rc l [] (p % l.Design.Rows.length) w) p l.Harness.Warps.length j → ∃ w : Nat, q = ((p : Int), (w : Int)) ∧ w < l.Harness.Warps.length := fun j => by
   induction j with
   | zero => intro _ h; cases h
   | succ j ih =>
    intro hj h
    unfold rowFrom at h
    rcases List.mem_append.1 h with h | h
    ·split at h
     ·exact ⟨_, List.mem_singleton.1 h, by omega⟩
     ·cases h
    ·exact ih (by omega) h
  obtain ⟨w, h1, h2⟩ := this _ (Nat.le_refl _) hq
  exact ⟨p, w, h1, List.mem_range.1 hp, h2⟩
 have hlen : (pl k l.Harness.Warps.length (fun p w => rc l ds' (p % l.Design.Rows.length) w != rc l [] (p % l.Design.Rows.length) w)).length ≤ 12000 := by
  have := plFrom_len (fun p w => rc l ds' (p % l.Design.Rows.length) w != rc l [] (p % l.Design.Rows.length) w) k l.Harness.Warps.length k
  have h2 : k * l.Harness.Warps.length ≤ 120 * 96 := Nat.mul_le_mul hk hw1
  unfold pl; omega
 have hf := feed_app (cons := fun m6_128 (q : Int × Int) => (idx (cthN l ds' k) q.1).bind fun y132 => (idx y132.b q.2).bind fun y135 => (apnd 24 m6_128 [(⟨q.1, q.2, (y135 == (120 : UInt8))⟩ : FaultSight)]).bind fun y159 => some (true, y159))
  (fun q => [(⟨q.1, q.2, rc l ds' (q.1.toNat % l.Design.Rows.length) q.2.toNat⟩ : FaultSight)]) 20000 (pl k l.Harness.Warps.length fun p w => rc l ds' (p % l.Design.Rows.length) w != rc l [] (p % l.Design.Rows.length) w) [] (fun _ _ => by simp) (by simp only [List.length_nil]; omega) (fun m q hq hm => by
   obtain ⟨p, w, rfl, hp, hw⟩ := hpl q hq
   refine Yes.eq ?_
   have hx : p < (cthN l ds' k).length := by unfold cthN; rw [cloth_len]; exact hp
   refine Yes.bind (Yes.idx rfl hx ?_)
   rw [show (cthN l ds' k)[p] = line l.Harness.Warps.length (fun w => rc l ds' (p % l.Design.Rows.length) w) from cloth_at (c := fun p w => rc l ds' (p % l.Design.Rows.length) w) hx]
   refine Yes.bind (Yes.idx rfl (by rw [line_len]; exact hw) ?_)
   rw [line_at, mark_x]
   exact Yes.bind (Yes.apnd (by simp; omega) (by simp; omega) (Yes.some (by simp))))
 refine Yes.of (s83 (n := k) (m := l.Harness.Warps.length) (by omega) (by omega) (fun p w => rc l ds' (p % l.Design.Rows.length) w) (fun p w => rc l [] (p % l.Design.Rows.length) w) hf) (Yes.some (Yes.some ?_))
 congr 1
 unfold wrs
 rw [List.nil_append]
 generalize (pl k l.Harness.Warps.length fun p w => rc l ds' (p % l.Design.Rows.length) w != rc l [] (p % l.Design.Rows.length) w) = ps
 induction ps with
 | nil => rfl
 | cons q qs ih => simp; exact ih
end Go.Proofs.Ytdkgoipaohacgaa
