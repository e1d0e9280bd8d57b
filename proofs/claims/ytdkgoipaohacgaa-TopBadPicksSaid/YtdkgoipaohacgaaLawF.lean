/- A damaged round: which picks are bad. -/
import Derived.Test.YtdkgoipaohacgaaLawE
set_option maxRecDepth 8000
namespace Go.Proofs.Ytdkgoipaohacgaa
open Go.RowKit
open Classical

theorem wu64_id {n : Int} (h1 : 0 ≤ n) (h2 : n ≤ 9223372036854775807) : wu64 n = n := by
 unfold wu64; rw [IntKind.wrap_u64]; omega
theorem arm_design (x : Loom) : Yes (f31 x) fun d => d.Hooks = 1 + ((x.Hooks.toNat : Nat) : Int) % 12 ∧ 1 ≤ d.Rows.length ∧ d.Rows.length ≤ 10 ∧ ∀ w ∈ d.Rows, 0 ≤ w ∧ w ≤ 2 ^ d.Hooks.toNat - 1 := by
  unfold f31
  have hr : rem64 ((x.Hooks.toNat : Nat) : Int) 12 = some (((x.Hooks.toNat : Nat) : Int) % 12) := rem_is (by omega) (by omega)
  refine bindv _ hr ?_
  generalize hh : ((x.Hooks.toNat : Nat) : Int) % 12 = r
  have hr0 : 0 ≤ r ∧ r < 12 := by rw [← hh]; exact ⟨Int.emod_nonneg _ (by omega), Int.emod_lt_of_pos _ (by omega)⟩
  rw [tw64 (n := 1 + r) (by omega) (by omega)]
  refine Yes.bind ?_
  refine Yes.upto (σ := Design) 10 (by omega) (fun i h => h.Hooks = 1 + r ∧ h.Rows.length = i ∧ ∀ w ∈ h.Rows, 0 ≤ w ∧ w ≤ 2 ^ (1 + r).toNat - 1) ⟨rfl, rfl, fun w hw => by cases hw⟩ (fun i h k hi hI hk => ?_) (fun h k hI => ?_)
  · obtain ⟨h1, h2, h3⟩ := hI
    refine Yes.jn ?_
    have hgo : ∀ {Q : Design → Prop}, (∀ y, 0 ≤ y → y ≤ 2 ^ (1 + r).toNat - 1 → Yes (k ({ h with Rows := h.Rows ++ [y] }, w64 ((i : Int) + 1))) Q) → Yes (Option.bind (α := Design) (
     Option.bind (α := Int) (
      bif (decide ((i : Int) < (((x).Rows).length : Int))) then
       (idx ((x).Rows) (i : Int)).bind fun d7 =>
       some (((d7).toNat : Int))
      else
       some ((21 : Int))
      ) fun j3 =>
     (shl64 (1 : Int) (wu64 (h).Hooks)).bind fun l5 =>
     (apnd 8 ((h).Rows) (([(bit64 .and j3 (w64 (l5 - (1 : Int))))] : List Int))).bind fun o8 =>
     some ({ h with Rows := o8 })
     ) fun z4 =>
    k (z4, (w64 ((i : Int) + (1 : Int))))) Q := fun {Q} hy => by
      have hp : (2 : Int) ^ (1 + r).toNat = ((2 ^ (1 + r).toNat : Nat) : Int) := by simp
      have hsm := pow_small (n := 1 + r) (by omega) (by omega)
      have hsh : shl64 1 (wu64 h.Hooks) = some ((2 ^ (1 + r).toNat : Nat) : Int) := by rw [h1, wu64_id (by omega) (by omega), shl_one (by omega) (by omega), hp]
      have hand : ∀ a : Nat, a < 2 ^ 62 → Yes (Option.bind (some (a : Int)) fun j3 => (shl64 (1 : Int) (wu64 (h).Hooks)).bind fun l5 => (apnd 8 ((h).Rows) (([(bit64 .and j3 (w64 (l5 - (1 : Int))))] : List Int))).bind fun o8 => some ({ h with Rows := o8 })) fun z4 => Yes (k (z4, (w64 ((i : Int) + (1 : Int))))) Q := fun a ha => by
        have hw : w64 (((2 ^ (1 + r).toNat : Nat) : Int) - 1) = ((2 ^ (1 + r).toNat - 1 : Nat) : Int) := by rw [tw64 (by omega) (by omega)]; omega
        refine bindv _ rfl (bindv _ hsh ?_)
        rw [hw, and64 ha (by rw [pow62]; omega), apnd8 (by omega)]
        refine bindv _ rfl (Yes.some (hy _ (by omega) ?_))
        have := Nat.and_le_right (n := a) (m := 2 ^ (1 + r).toNat - 1)
        rw [hp]; omega
      refine Yes.bind ?_
      by_cases hx : i < x.Rows.length
      · have e : (bif (decide ((i : Int) < (((x).Rows).length : Int))) then (idx ((x).Rows) (i : Int)).bind fun d7 => some (((d7).toNat : Int)) else some ((21 : Int))) = some ((x.Rows[i].toNat : Nat) : Int) := by
          rw [decide_eq_true (Int.ofNat_lt.2 hx), cond_true, tidx hx]; rfl
        rw [e]
        refine hand _ ?_
        have := x.Rows[i].toNat_lt
        rw [pow62]; omega
      · have e : (bif (decide ((i : Int) < (((x).Rows).length : Int))) then (idx ((x).Rows) (i : Int)).bind fun d7 => some (((d7).toNat : Int)) else some ((21 : Int))) = some (((21 : Nat) : Nat) : Int) := by
          rw [decide_eq_false (by omega)]; rfl
        rw [e]
        exact hand 21 (by decide)
    have hnext : ∀ y : Int, 0 ≤ y → y ≤ 2 ^ (1 + r).toNat - 1 → _ := fun y hy1 hy2 => hk { h with Rows := h.Rows ++ [y] } ⟨h1, by simp [h2], fun w hw => by
      rcases List.mem_append.1 hw with hw | hw
      · exact h3 w hw
      · rw [List.mem_singleton.1 hw]; exact ⟨hy1, hy2⟩⟩
    by_cases h0 : i = 0
    · subst h0
      refine bindv true rfl (take rfl ?_)
      exact hgo hnext
    · by_cases hx : i < x.Rows.length
      · refine bindv true ?_ (take rfl ?_)
        · have : ((i : Int) == 0) = false := by rw [beq_eq_false_iff_ne]; omega
          rw [this, decide_eq_true (Int.ofNat_lt.2 hx), decide_eq_true (show (i : Int) < 10 by omega)]; rfl
        · exact hgo hnext
      · refine bindv false ?_ (skip rfl (Yes.some (Yes.some ⟨h1, by omega, by omega, fun w hw => by rw [h1]; exact h3 w hw⟩)))
        have : ((i : Int) == 0) = false := by rw [beq_eq_false_iff_ne]; omega
        rw [this, decide_eq_false (show ¬ (i : Int) < (x.Rows.length : Int) by omega)]; rfl
  · obtain ⟨h1, h2, h3⟩ := hI
    refine Yes.jn (bindv false ?_ (skip rfl (Yes.some (Yes.some ⟨h1, by omega, by omega, fun w hw => by rw [h1]; exact h3 w hw⟩))))
    cases decide (((10 : Nat) : Int) < (x.Rows.length : Int)) <;> rfl
theorem arm_is (x : Loom) : Yes (f7 x) Arm := by
 unfold f7
 refine Yes.bind (Yes.mono (arm_harness x) fun h hh => Yes.bind (Yes.mono (arm_design x) fun d hd => Yes.some ?_))
 obtain ⟨a1, a2, a3, a4⟩ := hh
 obtain ⟨b1, b2, b3, b4⟩ := hd
 have hr0 : 0 ≤ ((x.Hooks.toNat : Nat) : Int) % 12 ∧ ((x.Hooks.toNat : Nat) : Int) % 12 < 12 := ⟨Int.emod_nonneg _ (by omega), Int.emod_lt_of_pos _ (by omega)⟩
 refine ⟨?_, b3, b2, a2, a3, by simp only; omega, by simp only; omega, by simp only; omega⟩
 have t : tieE h = 0 := by
  unfold tieE
  rw [if_pos (by simp [btw]; omega), if_neg (by omega), if_neg (by omega), if_pos]
  exact List.all_eq_true.2 fun w hw => by have := a4 w hw; simp [btw]; omega
 have e : desE d = 0 := by
  unfold desE
  rw [if_pos (by simp [btw]; omega), if_neg (by omega), if_neg (by omega), if_pos]
  exact List.all_eq_true.2 fun w hw => by have := b4 w hw; simp [btw]; omega
 unfold loomE
 simp only [t, e]
 rw [if_neg (fun h => h rfl), if_neg (fun h => h rfl), if_neg (by omega)]
theorem copy_is (l : FaultLoom) (h1 : l.Harness.Warps.length ≤ 1000) (h2 : l.Design.Rows.length ≤ 1000) : f14 l = some l := by
 have ha : ∀ xs : List Int, xs.length ≤ 1000 → f11 xs = some xs := fun xs h => by
  unfold f11
  exact Yes.eq (Yes.bind (Yes.apnd (by simp; omega) (by simp; omega) (Yes.some (by simp))))
 unfold f14 f10 f12
 rw [ha _ h1, ha _ h2]
 rfl
/-! ### Places that are wrong, pick by pick -/
theorem mem_rowFrom {d : Nat → Bool} {i m : Nat} {q : Int × Int} : ∀ k, k ≤ m → (q ∈ rowFrom d i m k ↔ ∃ w, m - k ≤ w ∧ w < m ∧ d w = true ∧ q = ((i : Int), (w : Int)))
 | 0, _ => by simp [rowFrom]; omega
 | k + 1, h => by
  rw [rowFrom, List.mem_append, mem_rowFrom k (by omega)]
  constructor
  ·rintro (h1 | ⟨w, h1, h2, h3, h4⟩)
   ·by_cases hd : d (m - (k + 1)) = true
    ·rw [if_pos hd, List.mem_singleton] at h1
     exact ⟨m - (k + 1), Nat.le_refl _, by omega, hd, h1⟩
    ·rw [if_neg hd] at h1; cases h1
   ·exact ⟨w, by omega, h2, h3, h4⟩
  ·rintro ⟨w, h1, h2, h3, h4⟩
   by_cases hw : w = m - (k + 1)
   ·subst hw
    left
    rw [if_pos h3, List.mem_singleton]; exact h4
   ·exact .inr ⟨w, by omega, h2, h3, h4⟩
theorem mem_pl {d : Nat → Nat → Bool} {n m : Nat} {q : Int × Int} : q ∈ pl n m d ↔ ∃ p w, p < n ∧ w < m ∧ d p w = true ∧ q = ((p : Int), (w : Int)) := by
 rw [pl_range, List.mem_flatMap]
 constructor
 ·rintro ⟨p, hp, hq⟩
  obtain ⟨w, _, h2, h3, h4⟩ := (mem_rowFrom m (Nat.le_refl _)).1 hq
  exact ⟨p, w, List.mem_range.1 hp, h2, h3, h4⟩
 ·rintro ⟨p, w, hp, hw, hd, hq⟩
  exact ⟨p, List.mem_range.2 hp, (mem_rowFrom m (Nat.le_refl _)).2 ⟨w, by omega, hw, hd, hq⟩⟩
theorem pl_up {d : Nat → Nat → Bool} {n m : Nat} : (pl n m d).Pairwise fun a b => a.1 ≤ b.1 := by
 rw [pl_range, List.pairwise_flatMap]
 refine ⟨fun i _ => ?_, ?_⟩
 ·refine List.Pairwise.imp_of_mem (R := fun _ _ => True) (fun {a b} ha hb _ => ?_) (List.pairwise_of_forall (fun _ _ => trivial))
  obtain ⟨_, _, _, _, h1⟩ := (mem_rowFrom m (Nat.le_refl _)).1 ha
  obtain ⟨_, _, _, _, h2⟩ := (mem_rowFrom m (Nat.le_refl _)).1 hb
  rw [h1, h2]; exact Int.le_refl _
 ·refine List.Pairwise.imp (fun {a b} hab x hx y hy => ?_) List.pairwise_lt_range
  obtain ⟨_, _, _, _, h1⟩ := (mem_rowFrom m (Nat.le_refl _)).1 hx
  obtain ⟨_, _, _, _, h2⟩ := (mem_rowFrom m (Nat.le_refl _)).1 hy
  rw [h1, h2]; simp only; omega
theorem bad_loop {W : List FaultSight} {n : Int} (hn : n ≤ 10) (hW : W.length ≤ 100000) (hup : W.Pairwise fun a b => a.Pick ≤ b.Pick) (hin : ∀ x ∈ W, 0 ≤ x.Pick ∧ x.Pick < n) :
    Yes (lp (σ := (List Int) × Int) (fun rO (z4, i6) =>
    jn (σ := Unit) (fun _ =>
     Option.bind (α := (List Int)) (
      (idx W i6).bind fun n9 =>
      Option.bind (α := Bool) (
       bif (((z4).length : Int) == (0 : Int)) then
        some (true)
       else
        (idx z4 (w64 (((z4).length : Int) - (1 : Int)))).bind fun qG =>
        some ((decide (qG < (n9).Pick)))
       ) fun a9 =>
      bif a9 then
       (apnd 8 z4 (([(n9).Pick] : List Int))).bind fun sO =>
       some (sO)
      else
       some (z4)
      ) fun u9 =>
     rO (u9, (w64 (i6 + (1 : Int))))
     ) fun tO =>
    bif (decide (i6 < ((W).length : Int))) then
     tO ()
    else
     some (z4)
    ) big (([] : List Int), (0 : Int))) fun z => z.length ≤ 10 ∧ (∀ b ∈ z, 0 ≤ b ∧ b < n) ∧ z.Pairwise (· < ·) ∧ ∀ x ∈ W, x.Pick ∈ z := by
  have hlen : ∀ z : List Int, (∀ b ∈ z, 0 ≤ b ∧ b < n) → z.Pairwise (· < ·) → z.length ≤ 10 := fun z h1 h2 => by
    have key : ∀ (i : Nat) (h : i < z.length), (i : Int) ≤ z[i] := fun i => by
      induction i with
      | zero => intro h; have := (h1 _ (List.getElem_mem h)).1; simpa using this
      | succ i ih =>
        intro h
        have := ih (by omega)
        have := List.pairwise_iff_getElem.1 h2 i (i + 1) (by omega) h (by omega)
        omega
    by_cases h : z.length ≤ 10
    · exact h
    · have h3 := key 10 (by omega)
      have h4 := (h1 z[10] (List.getElem_mem (by omega))).2
      omega
  refine Yes.upto (σ := List Int) W.length (by omega) (fun i z => (∀ b ∈ z, 0 ≤ b ∧ b < n) ∧ z.Pairwise (· < ·) ∧ (∀ j (h : j < W.length), j < i → W[j].Pick ∈ z) ∧ (z.length = 0 → i = 0) ∧ ∀ (h : 0 < z.length), ∃ j, ∃ h' : j < W.length, j < i ∧ z[z.length - 1]'(by omega) = W[j].Pick ∧ ∀ b ∈ z, b ≤ W[j].Pick) ⟨fun b hb => (by cases hb), List.Pairwise.nil, fun j _ h => absurd h (Nat.not_lt_zero _), fun _ => rfl, fun h => absurd h (by simp)⟩ (fun i z k hi hI hk => ?_) (fun z k hI => ?_)
  · obtain ⟨h1, h2, h3, h4, h5⟩ := hI
    have hz := hlen z h1 h2
    have hwi := hin W[i] (List.getElem_mem hi)
    refine Yes.jn (take (decide_eq_true (Int.ofNat_lt.2 hi)) (Yes.bind (bindv _ (tidx hi) ?_)))
    have hadd : (∀ b ∈ z, b < W[i].Pick) → _ := fun hlt => hk (z ++ [W[i].Pick]) ⟨fun b hb => by
        rcases List.mem_append.1 hb with hb | hb
        · exact h1 b hb
        · rw [List.mem_singleton.1 hb]; exact hwi,
      List.pairwise_append.2 ⟨h2, List.pairwise_singleton _ _, fun a ha b hb => by rw [List.mem_singleton.1 hb]; exact hlt a ha⟩,
      fun j hj hji => by
        rcases Nat.lt_succ_iff_lt_or_eq.1 hji with h | rfl
        · exact List.mem_append_left _ (h3 j hj h)
        · exact List.mem_append_right _ (by simp),
      fun h => by simp at h, fun h => ⟨i, hi, by omega, by simp, fun b hb => by
        rcases List.mem_append.1 hb with hb | hb
        · exact Int.le_of_lt (hlt b hb)
        · rw [List.mem_singleton.1 hb]; exact Int.le_refl _⟩⟩
    by_cases h0 : z.length = 0
    · refine bindv true ?_ (take rfl (bindv _ (apnd8 (by omega)) (Yes.some (hadd fun b hb => ?_))))
      · have : ((z.length : Int) == 0) = true := by simp [h0]
        rw [this]; rfl
      · rw [List.eq_nil_of_length_eq_zero h0] at hb; cases hb
    · obtain ⟨j, hj, hji, he, hm⟩ := h5 (by omega)
      have hji2 := List.pairwise_iff_getElem.1 hup j i hj hi hji
      refine bindv (decide (W[j].Pick < W[i].Pick)) ?_ ?_
      · have : ((z.length : Int) == 0) = false := by rw [beq_eq_false_iff_ne]; omega
        rw [this, cond_false, tw64 (by omega) (by omega), show (z.length : Int) - 1 = ((z.length - 1 : Nat) : Int) by omega, tidx (show z.length - 1 < z.length by omega), Option.bind_some, he]
      · by_cases hlt : W[j].Pick < W[i].Pick
        · exact take (decide_eq_true hlt) (bindv _ (apnd8 (by omega)) (Yes.some (hadd fun b hb => by have := hm b hb; omega)))
        · refine skip (decide_eq_false hlt) (Yes.some (hk z ⟨h1, h2, fun j' hj' hji' => ?_, fun h => absurd h h0, fun h => ⟨j, hj, by omega, he, hm⟩⟩))
          rcases Nat.lt_succ_iff_lt_or_eq.1 hji' with h | rfl
          · exact h3 j' hj' h
          · have e : W[j'].Pick = W[j].Pick := by omega
            rw [e]; exact h3 j hj hji
  · obtain ⟨h1, h2, h3, h4, h5⟩ := hI
    refine Yes.jn (skip (by simp) (Yes.some ⟨hlen z h1 h2, h1, h2, fun x hx => ?_⟩))
    obtain ⟨j, hj, rfl⟩ := List.getElem_of_mem hx
    exact h3 j hj hj
end Go.Proofs.Ytdkgoipaohacgaa
