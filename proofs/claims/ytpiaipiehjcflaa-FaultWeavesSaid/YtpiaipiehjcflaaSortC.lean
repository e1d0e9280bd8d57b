/- Stable sorting by a key: two sorted parts are merged. -/
import Derived.Test.YtpiaipiehjcflaaSortB
set_option maxRecDepth 8000
namespace Go.Proofs.Ytpiaipiehjcflaa
open Go.RowKit
section
variable {key : El → Int} {φ : El → El → Option Int}
theorem len_filter {α : Type} (p : α → Bool) : ∀ l : List α, l.length = (l.filter p).length + (l.filter fun x => !p x).length
  | [] => rfl
  | x :: l => by
    have := len_filter p l
    cases h : p x <;> simp [h] <;> omega
theorem Stab.len : ∀ {n : Nat} {A B : List El}, A.length ≤ n → Stab key A B → A.length = B.length
  | n, [], B, _, h => by
    cases B with
    | nil => rfl
    | cons b B => cases h.mem (List.mem_cons_self ..)
  | 0, x :: A, B, hn, _ => absurd hn (by simp)
  | n + 1, x :: A, B, hn, h => by
    have h2 : Stab key ((x :: A).filter (fun y => !(key y == key x))) (B.filter (fun y => !(key y == key x))) := fun v => by
      have hv := h v
      have e : ∀ l : List El, (l.filter (fun y => !(key y == key x))).filter (fun y => key y == v) = (l.filter (fun y => key y == v)).filter (fun y => !(key y == key x)) := fun l => by
        rw [List.filter_filter, List.filter_filter]; congr 1; funext y; exact Bool.and_comm _ _
      rw [e, e, hv]
    have e1 := len_filter (fun y => key y == key x) (x :: A)
    have e2 := len_filter (fun y => key y == key x) B
    have e3 : ((x :: A).filter (fun y => !(key y == key x))).length ≤ A.length := by
      rw [List.filter_cons_of_neg (by simp)]; exact List.length_filter_le _ _
    have e4 := h2.len (n := n) (by simp at hn; omega)
    rw [h (key x)] at e1
    omega
theorem get_in {α : Type} {P R S : List α} {i h : Nat} (hi : i = P.length + h) (hh : h < R.length) (hl : i < (P ++ R ++ S).length) : (P ++ R ++ S)[i] = R[h] := by
  subst hi
  rw [List.getElem_append_left (by simp; omega), List.getElem_append_right (by omega)]
  congr 1; omega
theorem srt_take {R : List El} (hs : Srt key R) {i : Nat} (hi : i < R.length) {y : El} (hy : y ∈ R.take (i + 1)) : key y ≤ key R[i] := by
  rw [List.take_succ_eq_append_getElem hi] at hy
  have h2 : Srt key (R.take (i + 1)) := List.Pairwise.sublist (List.take_sublist _ _) hs
  rw [List.take_succ_eq_append_getElem hi] at h2
  rcases List.mem_append.1 hy with h | h
  · exact (srt_app.1 h2).2.2 y h _ (by simp)
  · rw [List.mem_singleton.1 h]; omega
theorem srt_drop {R : List El} (hs : Srt key R) {i : Nat} (hi : i < R.length) {y : El} (hy : y ∈ R.drop i) : key R[i] ≤ key y := by
  have h2 : Srt key (R.drop i) := List.Pairwise.sublist (List.drop_sublist _ _) hs
  rw [List.drop_eq_getElem_cons hi] at hy h2
  rcases List.mem_cons.1 hy with h | h
  · rw [h]; omega
  · exact (List.pairwise_cons.1 h2).1 y h
/-- One element before a sorted part. -/
theorem s108a (x : El) {R : List El} (hR : Srt key R) {u : Nat} (h1 : ∀ y ∈ R.take u, key y < key x) (h2 : ∀ y ∈ R.drop u, key x ≤ key y) : Stab key ([x] ++ R) (R.take u ++ x :: R.drop u) ∧ Srt key (R.take u ++ x :: R.drop u) := by
  constructor
  · have e1 : Stab key ([x] ++ R.take u) (R.take u ++ [x]) := Stab.swap fun z hz y hy => by rw [List.mem_singleton.1 hz]; exact h1 y hy
    have e2 := e1.app (Stab.refl (R.drop u))
    rw [List.append_assoc, List.take_append_drop, List.append_assoc] at e2
    exact e2
  · rw [← List.take_append_drop u R] at hR
    obtain ⟨a, b, c⟩ := srt_app.1 hR
    refine srt_app.2 ⟨a, List.pairwise_cons.2 ⟨h2, b⟩, fun y hy z hz => ?_⟩
    rcases List.mem_cons.1 hz with rfl | hz
    · have := h1 y hy; omega
    · exact c y hy z hz
/-- One element after a sorted part. -/
theorem s108b (y : El) {L : List El} (hL : Srt key L) {u : Nat} (h1 : ∀ z ∈ L.take u, key z ≤ key y) (h2 : ∀ z ∈ L.drop u, key y < key z) : Stab key (L ++ [y]) (L.take u ++ y :: L.drop u) ∧ Srt key (L.take u ++ y :: L.drop u) := by
  constructor
  · have e1 : Stab key (L.drop u ++ [y]) ([y] ++ L.drop u) := Stab.swap fun z hz q hq => by rw [List.mem_singleton.1 hq]; exact h2 z hz
    have e2 := (Stab.refl (key := key) (L.take u)).app e1
    rw [← List.append_assoc, List.take_append_drop] at e2
    exact e2
  · rw [← List.take_append_drop u L] at hL
    obtain ⟨a, b, c⟩ := srt_app.1 hL
    refine srt_app.2 ⟨a, List.pairwise_cons.2 ⟨fun z hz => by have := h2 z hz; omega, b⟩, fun z hz q hq => ?_⟩
    rcases List.mem_cons.1 hq with rfl | hq
    · exact h1 z hz
    · exact c z hz q hq
/-- Two parts cut so that what goes before is not greater. -/
theorem s108c {L1 L2 R1 R2 M1 M2 : List El} (hL : Srt key (L1 ++ L2)) (hR : Srt key (R1 ++ R2)) (h1 : ∀ x ∈ L1, ∀ y ∈ R2, key x ≤ key y) (h2 : ∀ x ∈ L2, ∀ y ∈ R1, key y < key x)
    (a1 : Stab key (L1 ++ R1) M1) (a2 : Stab key (L2 ++ R2) M2) (b1 : Srt key M1) (b2 : Srt key M2) : Stab key ((L1 ++ L2) ++ (R1 ++ R2)) (M1 ++ M2) ∧ Srt key (M1 ++ M2) := by
  constructor
  · have e1 : Stab key (L1 ++ (L2 ++ R1) ++ R2) (L1 ++ (R1 ++ L2) ++ R2) := (Stab.swap h2).mid
    have e2 := a1.app a2
    have e3 : L1 ++ (R1 ++ L2) ++ R2 = L1 ++ R1 ++ (L2 ++ R2) := by simp
    have e4 : L1 ++ (L2 ++ R1) ++ R2 = (L1 ++ L2) ++ (R1 ++ R2) := by simp
    rw [e3, e4] at e1
    exact e1.trans e2
  · obtain ⟨_, _, hL⟩ := srt_app.1 hL
    obtain ⟨_, _, hR⟩ := srt_app.1 hR
    refine srt_app.2 ⟨b1, b2, fun x hx y hy => ?_⟩
    rcases List.mem_append.1 (a1.mem hx) with hx | hx <;> rcases List.mem_append.1 (a2.mem hy) with hy | hy
    · exact hL x hx y hy
    · exact h1 x hx y hy
    · have := h2 y hy x hx; omega
    · exact hR x hx y hy
/-- Two sorted parts are merged. -/
theorem s108 (hφ : ∀ x y, φ x y = some (key x - key y)) : ∀ (n : Nat) {xs P L R S : List El} {a m b : Int} (_ : xs = P ++ L ++ R ++ S) (_ : a = P.length) (_ : m = ((P.length + L.length : Nat) : Int)) (_ : b = ((P.length + L.length + R.length : Nat) : Int)) (_ : 0 < L.length) (_ : 0 < R.length) (_ : Srt key L) (_ : Srt key R) (_ : L.length + R.length ≤ n) (_ : xs.length < 1000000),
    Yes (f108 n xs a m b φ) fun r => ∃ M, r = P ++ M ++ S ∧ Stab key (L ++ R) M ∧ Srt key M
  | 0, _, _, _, _, _, _, _, _, _, _, _, _, h, _, _, _, hn, _ => absurd hn (by omega)
  | n + 1, xs, P, L, R, S, a, m, b, hm, ha, hmm, hb, hL0, hR0, hL, hR, hn, hs => by
    have hlen : P.length + L.length + R.length + S.length < 1000000 := by rw [hm] at hs; simp at hs; omega
    have hxl : xs.length = P.length + L.length + R.length + S.length := by rw [hm]; simp; omega
    rw [f108]
    subst ha; subst hmm; subst hb
    refine Yes.jn (Yes.cond (fun c1 => ?_) (fun c1 => Yes.jn (Yes.cond (fun c2 => ?_) (fun c2 => ?_))))
    · rw [w64_id (by omega) (by omega)] at c1
      obtain ⟨x, rfl⟩ : ∃ x, L = [x] := List.length_eq_one_iff.1 (by simp at c1; omega)
      simp only [List.length_singleton] at hxl hlen hn ⊢
      have e : xs = (P ++ [x]) ++ R ++ S := by rw [hm]
      have e0 : xs = P ++ x :: (R ++ S) := by rw [hm]; simp
      refine Yes.bind (Yes.lp (fun s => ∃ u v : Nat, s.1 = ((P.length + 1 + u : Nat) : Int) ∧ s.2 = ((P.length + 1 + v : Nat) : Int) ∧ u ≤ v ∧ v ≤ R.length ∧ (∀ y ∈ R.take u, key y < key x) ∧ (∀ y ∈ R.drop v, key x ≤ key y)) (fun s => (s.2 - s.1).toNat)
        ⟨0, R.length, rfl, rfl, Nat.zero_le _, Nat.le_refl _, fun y hy => by simp at hy, fun y hy => by simp at hy⟩ (by simp only; omega) ?_)
      rintro ⟨i, j⟩ k ⟨u, v, h1, h2, huv, hv, i1, i2⟩ hk
      simp only at h1 h2 hk
      subst h1; subst h2
      refine Yes.jn (Yes.cond (fun hlt => half_is (a := P.length + 1 + u) (b := P.length + 1 + v) (by omega) ?_) (fun hge => Yes.some ?_))
      · have hlt : u < v := by simp at hlt; omega
        obtain ⟨h, hh⟩ : ∃ h, (P.length + 1 + u + (P.length + 1 + v)) / 2 = P.length + 1 + h := ⟨(P.length + 1 + u + (P.length + 1 + v)) / 2 - (P.length + 1), by omega⟩
        have hu : u ≤ h := by omega
        have hv' : h < v := by omega
        have hhR : h < R.length := by omega
        rw [hh, w64_nat (by omega)]
        refine Yes.bind (Yes.idx (n := P.length + 1 + h) rfl (by omega) (Yes.bind (Yes.idx (n := P.length) rfl (by omega) ?_)))
        have g1 : xs[P.length + 1 + h]'(by omega) = R[h] := by simp only [e]; exact get_in (by simp) hhR _
        have g2 : xs[P.length]'(by omega) = x := by simp only [e0]; exact get_at rfl _
        rw [g1, g2]
        refine Yes.bind (Yes.of (hφ _ _) (Yes.cond (fun hc => ?_) (fun hc => ?_)))
        · have hc : key R[h] < key x := by simp at hc; omega
          rw [w64_id (by omega) (by omega)]
          exact hk _ ⟨h + 1, v, by simp only; omega, rfl, by omega, hv, fun y hy => by have := srt_take hR hhR hy; omega, i2⟩ (by simp only; omega)
        · have hc : key x ≤ key R[h] := by simp at hc; omega
          exact hk _ ⟨u, h, rfl, rfl, hu, by omega, i1, fun y hy => by have := srt_drop hR hhR hy; omega⟩ (by simp only; omega)
      · have : u = v := by simp at hge; omega
        subst this
        have hd : w64 (((P.length + 1 + u : Nat) : Int) - 1) = ((P.length + u : Nat) : Int) := by rw [w64_id (by omega) (by omega)]; omega
        rw [hd]
        refine Yes.bind (Yes.lp (fun s => ∃ R1 R2 : List El, R.take u = R1 ++ R2 ∧ s.1 = P ++ R1 ++ x :: (R2 ++ R.drop u ++ S) ∧ s.2 = ((P.length + R1.length : Nat) : Int)) (fun s => xs.length - s.2.toNat)
          ⟨[], R.take u, rfl, by rw [List.take_append_drop, e0]; simp, rfl⟩ (by simp only; omega) ?_)
        rintro ⟨r, j⟩ k2 ⟨R1, R2, h1, h2, h3⟩ hk2
        simp only at h2 h3 hk2
        subst h3
        have hl12 : R1.length + R2.length = u := by have := congrArg List.length h1; simp at this; omega
        refine Yes.jn (Yes.cond (fun hlt => ?_) (fun hge => Yes.some (Yes.some ?_)))
        · have hlt : R1.length < u := by simp at hlt; omega
          obtain ⟨y, R2', rfl⟩ := List.exists_cons_of_ne_nil (l := R2) (List.length_pos_iff.1 (by omega))
          simp only [List.length_cons] at hl12
          have e2 : r = (P ++ R1) ++ x :: ([] ++ y :: (R2' ++ R.drop u ++ S)) := by rw [h2]; simp
          rw [w64_id (by omega) (by omega)]
          refine Yes.bind (swapLo e2 (by simp) (by simp) (Yes.some ?_))
          exact hk2 _ ⟨R1 ++ [y], R2', by rw [h1]; simp, by simp, by simp only [List.length_append, List.length_singleton]; omega⟩ (by simp only; omega)
        · have : R2 = [] := List.length_eq_zero_iff.1 (by simp at hge; omega)
          subst this
          rw [List.append_nil] at h1
          obtain ⟨q1, q2⟩ := s108a x hR i1 i2
          exact ⟨R.take u ++ x :: R.drop u, by rw [h2, h1]; simp, q1, q2⟩
    · rw [w64_id (by omega) (by omega)] at c2
      obtain ⟨y, rfl⟩ : ∃ y, R = [y] := List.length_eq_one_iff.1 (by simp at c2; omega)
      simp only [List.length_singleton] at hxl hlen hn ⊢
      have e : xs = P ++ L ++ (y :: S) := by rw [hm]; simp
      refine Yes.bind (Yes.lp (fun s => ∃ u v : Nat, s.1 = ((P.length + u : Nat) : Int) ∧ s.2 = ((P.length + v : Nat) : Int) ∧ u ≤ v ∧ v ≤ L.length ∧ (∀ z ∈ L.take u, key z ≤ key y) ∧ (∀ z ∈ L.drop v, key y < key z)) (fun s => (s.2 - s.1).toNat)
        ⟨0, L.length, rfl, rfl, Nat.zero_le _, Nat.le_refl _, fun y hy => by simp at hy, fun y hy => by simp at hy⟩ (by simp only; omega) ?_)
      rintro ⟨i, j⟩ k ⟨u, v, h1, h2, huv, hv, i1, i2⟩ hk
      simp only at h1 h2 hk
      subst h1; subst h2
      refine Yes.jn (Yes.cond (fun hlt => half_is (a := P.length + u) (b := P.length + v) (by omega) ?_) (fun hge => Yes.some ?_))
      · have hlt : u < v := by simp at hlt; omega
        obtain ⟨h, hh⟩ : ∃ h, (P.length + u + (P.length + v)) / 2 = P.length + h := ⟨(P.length + u + (P.length + v)) / 2 - P.length, by omega⟩
        have hu : u ≤ h := by omega
        have hv' : h < v := by omega
        have hhL : h < L.length := by omega
        rw [hh, w64_nat (by omega)]
        refine Yes.bind (Yes.idx (n := P.length + L.length) rfl (by omega) (Yes.bind (Yes.idx (n := P.length + h) rfl (by omega) ?_)))
        have g1 : xs[P.length + h]'(by omega) = L[h] := by simp only [e]; exact get_in rfl hhL _
        have g2 : xs[P.length + L.length]'(by omega) = y := by simp only [e]; exact get_at (by simp) _
        rw [g1, g2]
        refine Yes.bind (Yes.of (hφ _ _) (Yes.cond (fun hc => ?_) (fun hc => ?_)))
        · have hc : key L[h] ≤ key y := by simp at hc; omega
          rw [w64_id (by omega) (by omega)]
          exact hk _ ⟨h + 1, v, by simp only; omega, rfl, by omega, hv, fun y hy => by have := srt_take hL hhL hy; omega, i2⟩ (by simp only; omega)
        · have hc : key y < key L[h] := by simp at hc; omega
          exact hk _ ⟨u, h, rfl, rfl, hu, by omega, i1, fun y hy => by have := srt_drop hL hhL hy; omega⟩ (by simp only; omega)
      · have : u = v := by simp at hge; omega
        subst this
        refine Yes.bind (Yes.lp (fun s => ∃ L1 L2 : List El, L.drop u = L1 ++ L2 ∧ s.1 = P ++ L.take u ++ L1 ++ y :: (L2 ++ S) ∧ s.2 = ((P.length + u + L1.length : Nat) : Int)) (fun s => s.2.toNat)
          ⟨L.drop u, [], by simp, by rw [List.append_assoc P, List.take_append_drop, e]; simp, by simp only [List.length_drop]; omega⟩ (by simp only; omega) ?_)
        rintro ⟨r, j⟩ k2 ⟨L1, L2, h1, h2, h3⟩ hk2
        simp only at h2 h3 hk2
        subst h3
        have hl12 : L1.length + L2.length = L.length - u := by have := congrArg List.length h1; simp at this; omega
        refine Yes.jn (Yes.cond (fun hgt => ?_) (fun hge => Yes.some (Yes.some ?_)))
        · have hgt : 0 < L1.length := by simp at hgt; omega
          obtain ⟨z, L1', rfl⟩ : ∃ z L1', L1 = L1' ++ [z] := by
            have hne : L1 ≠ [] := List.length_pos_iff.1 hgt
            exact ⟨L1.getLast hne, L1.dropLast, (List.dropLast_concat_getLast hne).symm⟩
          simp only [List.length_append, List.length_singleton] at hl12 hk2 ⊢
          have e2 : r = (P ++ L.take u ++ L1') ++ z :: ([] ++ y :: (L2 ++ S)) := by rw [h2]; simp
          rw [w64_id (by omega) (by omega)]
          refine Yes.bind (swapHi e2 (by simp; omega) (by simp; omega) (Yes.some ?_))
          exact hk2 _ ⟨L1', z :: L2, by rw [h1]; simp, by simp, by simp only; omega⟩ (by simp only; omega)
        · have : L1 = [] := List.length_eq_zero_iff.1 (by simp at hge; omega)
          subst this
          rw [List.nil_append] at h1
          obtain ⟨q1, q2⟩ := s108b y hL i1 i2
          exact ⟨L.take u ++ y :: L.drop u, by rw [h2, ← h1]; simp, q1, q2⟩
    · rw [w64_id (by omega) (by omega)] at c1 c2
      have c1 : L.length ≠ 1 := by simp at c1; omega
      have c2 : R.length ≠ 1 := by simp at c2; omega
      have go : ∀ {r P' X Y S' : List El} {a' m' b' : Int}, r = P' ++ X ++ Y ++ S' → a' = P'.length → m' = ((P'.length + X.length : Nat) : Int) → b' = ((P'.length + X.length + Y.length : Nat) : Int) → Srt key X → Srt key Y → X.length + Y.length ≤ n → r.length < 1000000 →
          Yes (Option.bind (bif (decide (a' < m')) then some (decide (m' < b')) else some false) fun s => bif s then (f108 n r a' m' b' φ).bind fun y => some y else some r) fun r' => ∃ M, r' = P' ++ M ++ S' ∧ Stab key (X ++ Y) M ∧ Srt key M := by
        intro r P' X Y S' a' m' b' h1 h2 h3 h4 h5 h6 h7 h8
        refine Yes.bind (Yes.cond (fun x1 => Yes.some (Yes.cond (fun x2 => ?_) (fun x2 => Yes.some ?_))) (fun x1 => Yes.some (Yes.some ?_)))
        · refine Yes.bind (Yes.mono (s108 hφ n h1 h2 h3 h4 (by simp at x1; omega) (by simp at x2; omega) h5 h6 h7 h8) fun r' hr => Yes.some hr)
        · have : Y = [] := List.length_eq_zero_iff.1 (by simp at x2; omega)
          subst this
          exact ⟨X, by rw [h1]; simp, by rw [List.append_nil]; exact Stab.refl X, h5⟩
        · have : X = [] := List.length_eq_zero_iff.1 (by simp at x1; omega)
          subst this
          exact ⟨Y, by rw [h1]; simp, Stab.refl Y, h6⟩
      refine half_is (a := P.length) (b := P.length + L.length + R.length) (by omega) ?_
      obtain ⟨D, hD⟩ : ∃ D, D = (L.length + R.length) / 2 := ⟨_, rfl⟩
      rw [show (P.length + (P.length + L.length + R.length)) / 2 = P.length + D by omega, w64_nat (n := P.length + D) (by omega),
        show w64 (((P.length + D : Nat) : Int) + ((P.length + L.length : Nat) : Int)) = ((2 * P.length + D + L.length : Nat) : Int) by rw [w64_id (by omega) (by omega)]; omega,
        show w64 (((2 * P.length + D + L.length : Nat) : Int) - 1) = ((2 * P.length + D + L.length - 1 : Nat) : Int) by rw [w64_id (by omega) (by omega)]; omega]
      refine Yes.bind (Yes.mono (Q' := fun s => s = (((P.length + (D - R.length) : Nat) : Int), ((P.length + min L.length D : Nat) : Int))) (Yes.cond (fun hgt => Yes.some ?_) (fun hle => Yes.some ?_)) ?_)
      · have : D < L.length := by simp at hgt; omega
        rw [w64_id (by omega) (by omega)]
        refine Prod.ext (by simp only; omega) (by simp only; omega)
      · have : L.length ≤ D := by simp at hle; omega
        refine Prod.ext (by simp only; omega) (by simp only; omega)
      rintro _ rfl
      refine Yes.bind (Yes.lp (fun s => ∃ u v : Nat, s.1 = ((P.length + u : Nat) : Int) ∧ s.2 = ((P.length + v : Nat) : Int) ∧ u ≤ v ∧ v ≤ L.length ∧ v ≤ D ∧ D ≤ u + R.length ∧ (∀ x ∈ L.take u, ∀ y ∈ R.drop (D - u), key x ≤ key y) ∧ (∀ x ∈ L.drop v, ∀ y ∈ R.take (D - v), key y < key x)) (fun s => (s.2 - s.1).toNat)
        ⟨D - R.length, min L.length D, rfl, rfl, by omega, by omega, by omega, by omega, fun x hx y hy => ?_, fun x hx y hy => ?_⟩ (by simp only; omega) ?_)
      · exfalso
        by_cases hc : R.length ≤ D
        · rw [List.drop_of_length_le (by omega)] at hy; cases hy
        · rw [show D - R.length = 0 by omega] at hx; cases hx
      · exfalso
        by_cases hc : L.length ≤ D
        · rw [List.drop_of_length_le (by omega)] at hx; cases hx
        · rw [show D - min L.length D = 0 by omega] at hy; cases hy
      rintro ⟨i, j⟩ k ⟨u, v, h1, h2, huv, hv, hvD, huR, i1, i2⟩ hk
      simp only at h1 h2 hk
      subst h1; subst h2
      refine Yes.jn (Yes.cond (fun hlt => half_is (a := P.length + u) (b := P.length + v) (by omega) ?_) (fun hge => Yes.some ?_))
      · have hlt : u < v := by simp at hlt; omega
        obtain ⟨h, hh⟩ : ∃ h, (P.length + u + (P.length + v)) / 2 = P.length + h := ⟨(P.length + u + (P.length + v)) / 2 - P.length, by omega⟩
        have hu : u ≤ h := by omega
        have hv' : h < v := by omega
        have hhL : h < L.length := by omega
        have hhR : D - 1 - h < R.length := by omega
        rw [hh, w64_nat (n := P.length + h) (by omega), show w64 (((2 * P.length + D + L.length - 1 : Nat) : Int) - ((P.length + h : Nat) : Int)) = ((P.length + L.length + (D - 1 - h) : Nat) : Int) by rw [w64_id (by omega) (by omega)]; omega]
        refine Yes.bind (Yes.idx (n := P.length + L.length + (D - 1 - h)) rfl (by omega) (Yes.bind (Yes.idx (n := P.length + h) rfl (by omega) ?_)))
        have g1 : xs[P.length + L.length + (D - 1 - h)]'(by omega) = R[D - 1 - h] := by simp only [hm]; exact get_in (by simp) hhR _
        have e2 : xs = P ++ L ++ (R ++ S) := by rw [hm]; simp
        have g2 : xs[P.length + h]'(by omega) = L[h] := by simp only [e2]; exact get_in rfl hhL _
        rw [g1, g2]
        refine Yes.bind (Yes.of (hφ _ _) (Yes.cond (fun hc => ?_) (fun hc => ?_)))
        · have hc : key L[h] ≤ key R[D - 1 - h] := by simp at hc; omega
          rw [w64_id (by omega) (by omega)]
          refine hk _ ⟨h + 1, v, by simp only; omega, rfl, by omega, hv, hvD, by omega, fun x hx y hy => ?_, i2⟩ (by simp only; omega)
          have q1 := srt_take hL hhL hx
          rw [show D - (h + 1) = D - 1 - h by omega] at hy
          have q2 := srt_drop hR hhR hy
          omega
        · have hc : key R[D - 1 - h] < key L[h] := by simp at hc; omega
          refine hk _ ⟨u, h, rfl, rfl, hu, by omega, by omega, huR, i1, fun x hx y hy => ?_⟩ (by simp only; omega)
          have q1 := srt_drop hL hhL hx
          rw [show D - h = D - 1 - h + 1 by omega] at hy
          have q2 := srt_take hR hhR hy
          omega
      · have : u = v := by simp at hge; omega
        subst this
        rw [show w64 (((2 * P.length + D + L.length : Nat) : Int) - ((P.length + u : Nat) : Int)) = ((P.length + L.length + (D - u) : Nat) : Int) by rw [w64_id (by omega) (by omega)]; omega]
        obtain ⟨L1, L2, hL1, hL2⟩ : ∃ L1 L2, L1 = L.take u ∧ L2 = L.drop u := ⟨_, _, rfl, rfl⟩
        obtain ⟨R1, R2, hR1, hR2⟩ : ∃ R1 R2, R1 = R.take (D - u) ∧ R2 = R.drop (D - u) := ⟨_, _, rfl, rfl⟩
        rw [← hL1, ← hR2] at i1
        rw [← hL2, ← hR1] at i2
        have l1 : L1.length = u := by rw [hL1]; simp; omega
        have l2 : L2.length = L.length - u := by rw [hL2]; simp
        have l3 : R1.length = D - u := by rw [hR1]; simp; omega
        have l4 : R2.length = R.length - (D - u) := by rw [hR2]; simp
        have hLe : L = L1 ++ L2 := by rw [hL1, hL2, List.take_append_drop]
        have hRe : R = R1 ++ R2 := by rw [hR1, hR2, List.take_append_drop]
        have exs : xs = (P ++ L1) ++ L2 ++ R1 ++ (R2 ++ S) := by rw [hm, hLe, hRe]; simp
        refine Yes.bind (Yes.mono (Q' := fun r => r = P ++ L1 ++ R1 ++ (L2 ++ R2 ++ S)) (Yes.bind (Yes.cond (fun x1 => Yes.some (Yes.cond (fun x2 => ?_) (fun x2 => Yes.some ?_))) (fun x1 => Yes.some (Yes.some ?_)))) ?_)
        · have hs1 := s113 φ exs (a := ((P.length + u : Nat) : Int)) (m := ((P.length + L.length : Nat) : Int)) (b := ((P.length + L.length + (D - u) : Nat) : Int)) (by simp; omega) (by simp; omega) (by simp; omega) (by simp at x1; omega) (by simp at x2; omega) hs
          refine Yes.bind (Yes.of hs1 (Yes.some ?_))
          simp
        · have : R1 = [] := List.length_eq_zero_iff.1 (by simp at x2; omega)
          rw [exs, this]; simp
        · have : L2 = [] := List.length_eq_zero_iff.1 (by simp at x1; omega)
          rw [exs, this]; simp
        rintro _ rfl
        have sL := hL; have sR := hR
        rw [hLe] at sL; rw [hRe] at sR
        obtain ⟨sL1, sL2, _⟩ := srt_app.1 sL
        obtain ⟨sR1, sR2, _⟩ := srt_app.1 sR
        refine Yes.bind (Yes.mono (go (P' := P) (X := L1) (Y := R1) (S' := L2 ++ R2 ++ S) rfl rfl (by rw [l1]) (by rw [l1, l3]; omega) sL1 sR1 (by omega) (by simp; omega)) ?_)
        rintro _ ⟨M1, rfl, a1, b1⟩
        have lM : M1.length = D := by
          have := a1.len (Nat.le_refl _)
          simp at this; omega
        refine Yes.mono (go (P' := P ++ M1) (X := L2) (Y := R2) (S' := S) (by simp) (by simp; omega) (by simp; omega) (by simp; omega) sL2 sR2 (by omega) (by simp; omega)) ?_
        rintro _ ⟨M2, rfl, a2, b2⟩
        obtain ⟨q1, q2⟩ := s108c sL sR i1 i2 a1 a2 b1 b2
        exact ⟨M1 ++ M2, by simp, by rw [hLe, hRe]; exact q1, q2⟩
end
end Go.Proofs.Ytpiaipiehjcflaa
