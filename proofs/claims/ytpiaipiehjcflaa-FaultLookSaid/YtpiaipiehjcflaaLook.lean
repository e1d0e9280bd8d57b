/- FaultLook as a plain function: it returns true. -/
import Derived.Test.YtpiaipiehjcflaaDoes
set_option maxRecDepth 8000
namespace Go.Proofs.Ytpiaipiehjcflaa
open Go.RowKit

/-- Behind the first row the best place is one that was looked at. -/
def AtL (V : Nat → Nat → Int) (m i : Nat) (s : Int × Int × Int) : Prop := ∃ p w : Nat, p < i ∧ w < m ∧ s = ((p : Int), (w : Int), V p w)
theorem rowL_at {V : Nat → Nat → Int} {m p : Nat} {s : Int × Int × Int} (h : AtL V m (p + 1) s ∨ V p 0 < s.2.2) : ∀ k, 0 < k → k ≤ m → AtL V m (p + 1) (rowL V m p k s)
  | 1, _, hm => by
    rw [rowL_succ]
    show AtL V m (p + 1) (stepL V p s 0)
    unfold stepL
    split
    · exact ⟨p, 0, by omega, by omega, rfl⟩
    · rename_i h2
      rcases h with h | h
      · exact h
      · exact absurd h h2
  | k + 2, _, hm => by
    rw [rowL_succ]
    have ih := rowL_at h (k + 1) (by omega) (by omega)
    unfold stepL
    split
    · exact ⟨p, k + 1, by omega, by omega, rfl⟩
    · exact ih
theorem scanL_at {V : Nat → Nat → Int} {m : Nat} {s : Int × Int × Int} (hm : 0 < m) (h : V 0 0 < s.2.2) : ∀ i, 0 < i → AtL V m i (scanL V m s i)
  | 1, _ => rowL_at (.inr h) m hm (Nat.le_refl _)
  | i + 2, _ => by
    obtain ⟨p, w, h1, h2, h3⟩ := scanL_at hm h (i + 1) (by omega)
    exact rowL_at (.inl ⟨p, w, by omega, h2, h3⟩) m hm (Nat.le_refl _)
theorem worst_pos {N up : Nat} (h : 0 < N) : 1 ≤ worst N up := by unfold worst max64; split <;> omega
/-- A point of the picks of a cloth. -/
theorem at_cthN {l : FaultLoom} {ds : List FaultDamage} {k p w : Nat} (hp : p < k) (hw : w < l.Harness.Warps.length) {α : Type} {K : UInt8 → Option α} {Q : α → Prop} (h : Yes (K (mark (rc l ds (p % l.Design.Rows.length) w))) Q) :
    Yes ((idx (cthN l ds k) (p : Int)).bind fun y => (idx y.b (w : Int)).bind K) Q := by
  have h1 : p < (cthN l ds k).length := by rw [cthN_len]; exact hp
  refine Yes.bind (Yes.idx rfl h1 ?_)
  rw [show (cthN l ds k)[p] = line l.Harness.Warps.length (fun w => rc l ds (p % l.Design.Rows.length) w) from cloth_at (c := fun p w => rc l ds (p % l.Design.Rows.length) w) h1]
  refine Yes.bind (Yes.idx rfl (by rw [line_len]; exact hw) ?_)
  rw [line_at]; exact h
theorem s9 (x : Mill) (k : UInt8) (try_ : Vector UInt8 2) : f9 x k try_ = some true := by
  refine Yes.eq ?_
  unfold f9
  obtain ⟨l, hl, g, hH, hW, hR⟩ := s42 x
  refine Yes.bind (Yes.of hl (Yes.bind (Yes.of (rem_nat (by decide : 0 < 12)) (Yes.bind ((s43 g x (by decide) (by decide)).mono fun ds hds => ?_)))))
  obtain ⟨⟨hd1, hd2⟩, hall⟩ := hds
  have hr0 := g.r0
  have hw0 := g.w0
  have hkl : k.toNat % 12 < 12 := Nat.mod_lt _ (by decide)
  rw [w64_id (n := 1 + ((k.toNat % 12 : Nat) : Int)) (by omega) (by omega)]
  generalize hK : 1 + k.toNat % 12 = K
  have hKe : 1 + ((k.toNat % 12 : Nat) : Int) = (K : Int) := by omega
  rw [hKe]
  have hK1 : 1 ≤ K ∧ K ≤ 12 := by omega
  have hc : chkE l ds = 0 := chk_ok (loom_ok g) (by omega) hall
  have ho : openE l ds (K : Int) = 0 := open_ok hc (by omega) (by omega)
  refine Yes.bind (Yes.of (s44 l (by omega) (by omega)) (Yes.bind (Yes.of (s17 ds (by omega)) (Yes.bind (Yes.of (s41 l ds K) ?_)))))
  rw [if_neg (fun h => h ho), if_neg (by omega), Int.toNat_natCast]
  have hle0 := look_le l ds 0 0
  obtain ⟨p, w, hp, hw, hs⟩ := scanL_at (V := look l ds) (m := l.Harness.Warps.length) (s := (0, 0, (ds.length : Int) + 1)) hw0 (by simp only; omega) (min K l.Design.Rows.length) (by omega)
  have hmin := (scanL_le (look l ds) l.Harness.Warps.length (0, 0, (ds.length : Int) + 1) (min K l.Design.Rows.length)).2
  have hlk : lookR l ds K = ((p : Int), (w : Int), look l ds p w) := hs
  rw [show scanL (look l ds) l.Harness.Warps.length (0, 0, (ds.length : Int) + 1) (min K l.Design.Rows.length) = ((p : Int), (w : Int), look l ds p w) from hs] at hmin
  rw [hlk]
  simp only at hmin ⊢
  have hlp := look_le l ds p w
  have hl1 : 1 ≤ look l ds p w := worst_pos (by omega)
  refine Yes.jn (Yes.bind (Yes.mono (Q' := fun b => b = false) ?_ fun b hb => ?_))
  · refine Yes.cond (fun h => nomatch h) (fun _ => Yes.cond (fun h => absurd h (by simp)) (fun _ => Yes.cond (fun h => absurd h (by simp; omega)) (fun _ => Yes.cond (fun h => absurd h (by simp)) (fun _ => Yes.cond (fun h => absurd h (by simp; omega)) (fun _ => Yes.cond (fun h => absurd h (by simp; omega)) (fun _ => Yes.some ?_))))))
    simp; omega
  subst hb
  refine Yes.cond (fun h => nomatch h) (fun _ => Yes.jn ?_)
  refine Yes.upto0 2 (by decide) (fun _ => True) trivial (fun q k1 hq _ hk1 => ?_) (fun k1 _ => Yes.jn (Yes.cond (fun h => absurd h (by simp)) (fun _ => Yes.bind (Yes.of known_ok (Yes.some rfl)))))
  refine Yes.jn (Yes.cond (fun _ => Yes.jn ?_) (fun h => absurd h (by simp; omega)))
  refine Yes.bind (Yes.mono (Q' := fun s => ∃ a b : Nat, s = ((a : Int), (b : Int)) ∧ a < K ∧ b < l.Harness.Warps.length ∧ (q = 0 → a = p ∧ b = w)) ?_ fun s hs2 => ?_)
  · refine Yes.cond (fun h1 => ?_) (fun h1 => Yes.some ⟨p, w, rfl, by omega, hw, fun _ => ⟨rfl, rfl⟩⟩)
    have hq1 : q = 1 := by have := beq_iff_eq.1 h1; omega
    refine vidx (j := 0) rfl (by decide) (Yes.bind (Yes.of (rem_nat (by omega)) (vidx (j := 1) rfl (by decide) (Yes.bind (Yes.of (rem_nat hw0) (Yes.some ⟨_, _, rfl, Nat.mod_lt _ (by omega), Nat.mod_lt _ hw0, fun h => by omega⟩))))))
  obtain ⟨a, b, rfl, ha, hb, hab⟩ := hs2
  refine Yes.jn ?_
  refine Yes.upto ds.length (by omega) (fun i up => up = ((ups l (ds.take i) (a % l.Design.Rows.length) b : Nat) : Int)) rfl (fun i up k2 hi hI hk2 => ?_) (fun up k2 hI => ?_)
  · subst hI
    have hdi := hall ds[i] (List.getElem_mem hi)
    have hul := ups_le l (ds.take i) (a % l.Design.Rows.length) b
    rw [List.length_take] at hul
    rw [ups_take hi] at hk2
    refine Yes.jn (Yes.cond (fun _ => Yes.jn (Yes.bind (Yes.idx rfl hi (Yes.bind (Yes.of (s45_one g hdi (by omega) (by omega)) ?_))))) (fun h => absurd h (by simp; omega)))
    rw [Int.toNat_natCast]
    refine Yes.jn (Yes.cond (fun h => nomatch h) (fun _ => at_cthN ha hb ?_))
    rw [mark_x]
    refine Yes.cond (fun hu => ?_) (fun hu => ?_)
    · rw [w64_id (n := ((ups l (ds.take i) (a % l.Design.Rows.length) b : Nat) : Int) + 1) (by omega) (by omega)]
      exact hk2 _ (by rw [hu]; simp)
    · exact hk2 _ (by rw [hu]; simp)
  · rw [List.take_length] at hI
    subst hI
    have hul := ups_le l ds (a % l.Design.Rows.length) b
    refine Yes.jn (Yes.cond (fun h => absurd h (by simp)) (fun _ => Yes.bind ?_))
    rw [w64_id (n := (ds.length : Int) - _) (by omega) (by omega)]
    have hv : max64 ((ups l ds (a % l.Design.Rows.length) b : Nat) : Int) ((ds.length : Int) - ((ups l ds (a % l.Design.Rows.length) b : Nat) : Int)) = look l ds (a % l.Design.Rows.length) b := rfl
    rw [hv]
    have hge : look l ds p w ≤ look l ds (a % l.Design.Rows.length) b := by
      refine hmin _ _ ?_ hb
      have h1 : a % l.Design.Rows.length < l.Design.Rows.length := Nat.mod_lt _ hr0
      have h2 : a % l.Design.Rows.length ≤ a := Nat.mod_le _ _
      omega
    have heq : q = 0 → look l ds (a % l.Design.Rows.length) b = look l ds p w := fun h => by
      obtain ⟨rfl, rfl⟩ := hab h
      rw [Nat.mod_eq_of_lt (by omega)]
    refine Yes.mono (Q' := fun b => b = false) ?_ fun b hb => ?_
    · refine Yes.cond (fun h0 => Yes.cond (fun h => ?_) (fun _ => Yes.some ?_)) (fun _ => Yes.some ?_)
      · have hq0 : q = 0 := by have := beq_iff_eq.1 h0; omega
        rw [heq hq0] at h
        simp at h
      · simp; omega
      · simp; omega
    · subst hb
      exact Yes.cond (fun h => nomatch h) (fun _ => hk1 trivial)
end Go.Proofs.Ytpiaipiehjcflaa
