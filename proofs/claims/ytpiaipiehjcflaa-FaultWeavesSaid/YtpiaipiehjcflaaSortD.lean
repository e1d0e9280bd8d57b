/- Stable sorting by a key: blocks, and the whole. -/
import Derived.Test.YtpiaipiehjcflaaSortC
set_option maxRecDepth 8000
namespace Go.Proofs.Ytpiaipiehjcflaa
open Go.RowKit
section
variable {key : El → Int} {φ : El → El → Option Int}
/-- Sorted parts of one length. -/
def Blk (key : El → Int) (k : Nat) (cs : List (List El)) : Prop := ∀ c ∈ cs, c.length = k ∧ Srt key c
theorem blk_len {k : Nat} : ∀ {cs : List (List El)}, Blk key k cs → cs.flatten.length = cs.length * k
  | [], _ => by simp
  | c :: cs, h => by
    rw [List.flatten_cons, List.length_append, blk_len (cs := cs) fun d hd => h d (List.mem_cons_of_mem _ hd), (h c (List.mem_cons_self ..)).1, List.length_cons, Nat.succ_mul]; omega
theorem blk_snoc {k : Nat} {cs : List (List El)} {c : List El} (h : Blk key k cs) (h1 : c.length = k) (h2 : Srt key c) : Blk key k (cs ++ [c]) := fun d hd => by
  rcases List.mem_append.1 hd with hd | hd
  · exact h d hd
  · rw [List.mem_singleton.1 hd]; exact ⟨h1, h2⟩
theorem blk_tail {k : Nat} {cs : List (List El)} {c : List El} (h : Blk key k (c :: cs)) : Blk key k cs := fun d hd => h d (List.mem_cons_of_mem _ hd)
/-- Parts of k make parts of 2 k, or nearly so. -/
theorem s96 (hφ : ∀ x y, φ x y = some (key x - key y)) {xs : List El} (hs : xs.length < 1000000) : Yes (f96 xs (xs.length : Int) φ) fun r => Stab key xs r ∧ Srt key r := by
  unfold f96
  refine Yes.bind (Yes.lp (fun s => ∃ (cs : List (List El)) (Z : List El), s.1 = cs.flatten ++ Z ∧ Blk key 20 cs ∧ s.2.1 = ((cs.flatten.length : Nat) : Int) ∧ s.2.2 = ((cs.flatten.length + 20 : Nat) : Int) ∧ Stab key xs s.1) (fun s => xs.length + 21 - s.2.2.toNat)
    ⟨[], xs, rfl, (fun c hc => by cases hc), rfl, rfl, Stab.refl _⟩ (by simp only; omega) ?_)
  rintro ⟨r, i, j⟩ k ⟨cs, Z, h1, h2, h3, h4, h5⟩ hk
  simp only at h1 h3 h4 h5 hk
  have hl := h5.len (Nat.le_refl _)
  have hl2 : xs.length = cs.flatten.length + Z.length := by rw [hl, h1, List.length_append]
  subst h3; subst h4
  refine Yes.jn (Yes.cond (fun hle => ?_) (fun hgt => Yes.some ?_))
  · have hle := of_decide_eq_true hle
    have hle : 20 ≤ Z.length := by omega
    refine Yes.bind (Yes.mono (s107 hφ (P := cs.flatten) (X := Z.take 20) (S := Z.drop 20) (by rw [h1]; simp) rfl (by rw [List.length_take]; omega) (by omega)) ?_)
    rintro _ ⟨Y, rfl, a1, b1⟩
    have lY : Y.length = 20 := by have := a1.len (Nat.le_refl _); simp at this; omega
    rw [w64_id (by omega) (by omega)]
    have lf : (cs ++ [Y]).flatten.length = cs.flatten.length + 20 := by simp [lY]
    refine hk _ ⟨cs ++ [Y], Z.drop 20, by simp, blk_snoc h2 lY b1, by simp only [lf], by simp only [lf]; omega, ?_⟩ (by simp only; omega)
    refine h5.trans ?_
    have e : r = cs.flatten ++ Z.take 20 ++ Z.drop 20 := by rw [h1]; simp
    simp only
    rw [e]
    exact a1.mid
  · have hgt := of_decide_eq_false hgt
    have hlt : Z.length < 20 := by omega
    refine Yes.bind (Yes.mono (s107 hφ (P := cs.flatten) (X := Z) (S := []) (by rw [h1]; simp) rfl (by omega) (by omega)) ?_)
    rintro _ ⟨Y, rfl, a1, b1⟩
    have lY : Y.length = Z.length := (a1.len (Nat.le_refl _)).symm
    have h6 : Stab key xs (cs.flatten ++ Y) := by
      refine h5.trans ?_
      rw [h1]
      exact (Stab.refl _).app a1
    rw [List.append_nil]
    refine Yes.lp (fun s => ∃ (k : Nat) (cs : List (List El)) (Y : List El), s.1 = cs.flatten ++ Y ∧ s.2 = (k : Int) ∧ 20 ≤ k ∧ k ≤ 2 * xs.length + 20 ∧ Blk key k cs ∧ Y.length ≤ k ∧ Srt key Y ∧ Stab key xs s.1) (fun s => 2 * xs.length + 40 - s.2.toNat)
      ⟨20, cs, Y, rfl, rfl, by omega, by omega, h2, by omega, b1, h6⟩ (by simp only; omega) ?_
    rintro ⟨r, i⟩ g ⟨k, cs, Y, h1, h2, h3, h4, h5, h6, h7, h8⟩ hg
    simp only at h1 h2 h8 hg
    subst h2
    have hlr := h8.len (Nat.le_refl _)
    refine Yes.jn (Yes.cond (fun hlt => ?_) (fun hge => Yes.some ⟨h8, ?_⟩))
    rotate_left
    · have hge := of_decide_eq_false hge
      have hge : xs.length ≤ k := by omega
      have hc := blk_len h5
      rw [h1, List.length_append, hc] at hlr
      match cs, h5 with
      | [], _ => rw [h1]; simpa using h7
      | [c], h5 =>
        have : Y = [] := List.length_eq_zero_iff.1 (by simp at hlr; omega)
        rw [h1, this]; simpa using (h5 c (by simp)).2
      | c :: d :: cs, _ =>
        exfalso
        simp only [List.length_cons, Nat.succ_mul] at hlr
        omega
    have hlt := of_decide_eq_true hlt
    have hlt : k < xs.length := by omega
    rw [show w64 (2 * (k : Int)) = ((2 * k : Nat) : Int) by rw [w64_id (by omega) (by omega)]; omega]
    refine Yes.bind (Yes.lp (fun s => ∃ (ds cs : List (List El)) (Y : List El), s.1 = ds.flatten ++ (cs.flatten ++ Y) ∧ Blk key (2 * k) ds ∧ Blk key k cs ∧ Y.length ≤ k ∧ Srt key Y ∧ s.2.1 = ((ds.flatten.length : Nat) : Int) ∧ s.2.2 = ((ds.flatten.length + 2 * k : Nat) : Int) ∧ Stab key xs s.1) (fun s => xs.length + 2 * k + 1 - s.2.2.toNat)
      ⟨[], cs, Y, by simpa using h1, (fun c hc => by cases hc), h5, h6, h7, rfl, (by simp only [List.flatten_nil, List.length_nil, Nat.zero_add]), h8⟩ (by simp only; omega) ?_)
    rintro ⟨r, i, j⟩ g2 ⟨ds, cs, Y, h1, h2, h5, h6, h7, h9, h10, h8⟩ hg2
    simp only at h1 h9 h10 h8 hg2
    subst h9; subst h10
    have hlr := h8.len (Nat.le_refl _)
    have hlr2 := hlr
    rw [h1, List.length_append, List.length_append] at hlr2
    have hcl := blk_len h5
    have hw : w64 (((ds.flatten.length : Nat) : Int) + (k : Int)) = ((ds.flatten.length + k : Nat) : Int) := by rw [w64_id (by omega) (by omega)]; omega
    refine Yes.jn (Yes.cond (fun hle => ?_) (fun hgt => Yes.some ?_))
    · have hle := of_decide_eq_true hle
      have hle : ds.flatten.length + 2 * k ≤ xs.length := by omega
      rw [hw, w64_id (n := ((ds.flatten.length + 2 * k : Nat) : Int) + _) (by omega) (by omega)]
      obtain ⟨c, d, cs', Y', e1, e2, e3, e4, e5, e6⟩ : ∃ (c d : List El) (cs' : List (List El)) (Y' : List El), cs.flatten ++ Y = c ++ d ++ (cs'.flatten ++ Y') ∧ (c.length = k ∧ Srt key c) ∧ (d.length = k ∧ Srt key d) ∧ Blk key k cs' ∧ Y'.length ≤ k ∧ Srt key Y' := by
        match cs, h5, hcl with
        | [], _, hcl => exfalso; rw [List.length_nil, Nat.zero_mul] at hcl; omega
        | [c], h5, hcl =>
          have hY : Y.length = k := by rw [List.length_singleton, Nat.one_mul] at hcl; omega
          exact ⟨c, Y, [], [], by simp, h5 c (by simp), ⟨hY, h7⟩, (fun c hc => by cases hc), by simp, List.Pairwise.nil⟩
        | c :: d :: cs', h5, _ => exact ⟨c, d, cs', Y, by simp, h5 c (by simp), h5 d (by simp), blk_tail (blk_tail h5), h6, h7⟩
      have e0 : r = ds.flatten ++ c ++ d ++ (cs'.flatten ++ Y') := by rw [h1, e1]; simp
      refine Yes.bind (Yes.mono (s108 hφ big e0 rfl (by rw [e2.1]) (by rw [e2.1, e3.1]; omega) (by omega) (by omega) e2.2 e3.2 (Nat.le_of_lt (big_pos _ (by omega))) (by omega)) ?_)
      rintro _ ⟨M, rfl, a1, b1⟩
      have lM : M.length = 2 * k := by have := a1.len (Nat.le_refl _); simp at this; omega
      have lf : (ds ++ [M]).flatten.length = ds.flatten.length + 2 * k := by simp [lM]
      refine hg2 _ ⟨ds ++ [M], cs', Y', by simp, blk_snoc h2 lM b1, e4, e5, e6, by simp only [lf], by simp only [lf]; omega, ?_⟩ (by simp only; omega)
      refine h8.trans ?_
      rw [e0, List.append_assoc ds.flatten]
      exact a1.mid
    · have hgt := of_decide_eq_false hgt
      have hgt : xs.length < ds.flatten.length + 2 * k := by omega
      dsimp only
      rw [hw]
      have fin : ∀ {r' W : List El}, r' = ds.flatten ++ W → W.length ≤ 2 * k → Srt key W → Stab key xs r' → Yes (g (r', w64 ((k : Int) * 2))) fun r => Stab key xs r ∧ Srt key r := fun q1 q2 q3 q4 => by
        rw [w64_id (by omega) (by omega)]
        exact hg _ ⟨2 * k, ds, _, q1, by simp only; omega, by omega, by omega, h2, q2, q3, q4⟩ (by simp only; omega)
      have hc2 : cs = [] ∨ ∃ c, cs = [c] := by
        match cs, hcl with
        | [], _ => exact .inl rfl
        | [c], _ => exact .inr ⟨c, rfl⟩
        | c :: d :: cs', hcl =>
          exfalso
          simp only [List.length_cons, Nat.succ_mul] at hcl
          omega
      refine Yes.bind (Yes.cond (fun hlt2 => ?_) (fun hge2 => Yes.some ?_))
      · have hlt2 := of_decide_eq_true hlt2
        have hlt2 : ds.flatten.length + k < xs.length := by omega
        rcases hc2 with rfl | ⟨c, rfl⟩
        · exfalso; simp only [List.flatten_nil, List.length_nil, Nat.zero_add] at hlr2; omega
        have hc := h5 c (by simp)
        have hcf : [c].flatten = c := by simp
        rw [hcf] at hlr2 h1
        have e0 : r = ds.flatten ++ c ++ Y ++ [] := by rw [h1]; simp
        refine Yes.bind (Yes.mono (s108 hφ big e0 rfl (by rw [hc.1]) (by omega) (by omega) (by omega) hc.2 h7 (Nat.le_of_lt (big_pos _ (by omega))) (by omega)) ?_)
        rintro _ ⟨M, rfl, a1, b1⟩
        have lM : M.length ≤ 2 * k := by have := a1.len (Nat.le_refl _); simp at this; omega
        refine Yes.some (fin (W := M) (by simp) lM b1 (h8.trans ?_))
        rw [e0, List.append_assoc ds.flatten]
        exact a1.mid
      · have hge2 := of_decide_eq_false hge2
        have hge2 : xs.length ≤ ds.flatten.length + k := by omega
        rcases hc2 with rfl | ⟨c, rfl⟩
        · exact fin (W := Y) (by rw [h1]; simp) (by omega) h7 h8
        · have hc := h5 c (by simp)
          have hcf : [c].flatten = c := by simp
          rw [hcf] at hlr2 h1
          have : Y = [] := List.length_eq_zero_iff.1 (by omega)
          subst this
          exact fin (W := c) (by rw [h1]; simp) (by omega) hc.2 h8
theorem s78 (hφ : ∀ x y, φ x y = some (key x - key y)) {xs : List El} (hs : xs.length < 1000000) : ∃ ys, f78 xs φ = some ys ∧ Stab key xs ys ∧ Srt key ys := by
  obtain ⟨ys, h, q⟩ := s96 hφ hs
  exact ⟨ys, by unfold f78; rw [h]; rfl, q⟩
end
end Go.Proofs.Ytpiaipiehjcflaa
