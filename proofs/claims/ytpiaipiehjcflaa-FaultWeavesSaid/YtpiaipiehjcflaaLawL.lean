/- Plain laws: how many picks tell damages apart; groups. -/
import Derived.Test.YtpiaipiehjcflaaLawJ
set_option maxRecDepth 8000
namespace Go.Proofs.Ytpiaipiehjcflaa
open Go.RowKit

/-- The pick behind the first place. -/
def fp (ps : List (Int × Int)) : Int := match ps with
  | [] => 0
  | (p, _) :: _ => p + 1
theorem rowFrom_fst {d : Nat → Bool} {i m : Nat} : ∀ {k : Nat} {q : Int × Int}, q ∈ rowFrom d i m k → q.1 = (i : Int)
  | 0, _, h => by cases h
  | k + 1, q, h => by
    unfold rowFrom at h
    rcases List.mem_append.1 h with h | h
    · split at h
      · rw [List.mem_singleton.1 h]
      · cases h
    · exact rowFrom_fst h
theorem rowFrom_none {d : Nat → Bool} {i m : Nat} (h : ∀ w, w < m → d w = false) : ∀ k, 0 < m → rowFrom d i m k = []
  | 0, _ => rfl
  | k + 1, hm => by unfold rowFrom; rw [h _ (by omega), rowFrom_none h k hm]; rfl
theorem rowFrom_some {d : Nat → Bool} {i m w : Nat} (hd : d w = true) (hw : w < m) : ∀ k, m - w ≤ k → k ≤ m → rowFrom d i m k ≠ []
  | 0, h, _ => by omega
  | k + 1, h, hk => by
    unfold rowFrom
    by_cases e : m - (k + 1) = w
    · rw [e, hd]; simp
    · intro hh
      exact rowFrom_some hd hw k (by omega) (by omega) (List.append_eq_nil_iff.1 hh).2
theorem mark_inj {a b : Bool} (h : mark a = mark b) : a = b := by cases a <;> cases b <;> first | rfl | cases h
theorem line_eq {m : Nat} {c c' : Nat → Bool} : line m c = line m c' ↔ ∀ w, w < m → c w = c' w := by
  constructor
  · intro h w hw
    have h1 : (line m c).b[w]'(by rw [line_len]; exact hw) = (line m c').b[w]'(by rw [line_len]; exact hw) := by simp only [h]
    rw [line_at, line_at] at h1
    exact mark_inj h1
  · intro h
    unfold line
    congr 1
    exact List.map_congr_left fun w hw => by rw [h w (List.mem_range.1 hw)]
theorem row_nil {m i : Nat} {c c' : Nat → Bool} (hm : 0 < m) : rowFrom (fun w => c w != c' w) i m m = [] ↔ line m c = line m c' := by
  rw [line_eq]
  constructor
  · intro h w hw
    by_cases e : c w = c' w
    · exact e
    · exact absurd h (rowFrom_some (d := fun w => c w != c' w) (by simpa using e) hw m (by omega) (Nat.le_refl _))
  · intro h
    exact rowFrom_none (fun w hw => by simpa using h w hw) m hm
theorem plFrom_mem {d : Nat → Nat → Bool} {n m : Nat} : ∀ {k : Nat}, k ≤ n → ∀ {q : Int × Int}, q ∈ plFrom d n m k → 0 ≤ q.1 ∧ q.1 < n
  | 0, _, _, h => by cases h
  | k + 1, hk, q, h => by
    unfold plFrom at h
    rcases List.mem_append.1 h with h | h
    · rw [rowFrom_fst h]; omega
    · exact plFrom_mem (by omega) h
theorem fp_range (n m : Nat) (d : Nat → Nat → Bool) : 0 ≤ fp (pl n m d) ∧ fp (pl n m d) ≤ n := by
  unfold fp
  split
  · omega
  · rename_i p w t h
    have := plFrom_mem (Nat.le_refl n) (q := (p, w)) (by show (p, w) ∈ pl n m d; rw [h]; exact List.mem_cons_self)
    simp only at this
    omega
theorem cloth_eq {n m : Nat} {c c' : Nat → Nat → Bool} : clothOf n m c = clothOf n m c' ↔ ∀ p, p < n → line m (c p) = line m (c' p) := by
  constructor
  · intro h p hp
    have h1 : (clothOf n m c)[p]'(by rw [cloth_len]; exact hp) = (clothOf n m c')[p]'(by rw [cloth_len]; exact hp) := by simp only [h]
    rwa [cloth_at, cloth_at] at h1
  · intro h
    unfold clothOf
    exact List.map_congr_left fun p hp => h p (List.mem_range.1 hp)
theorem plFrom_nil {n m : Nat} {c c' : Nat → Nat → Bool} (hm : 0 < m) : ∀ k, k ≤ n → (plFrom (fun p w => c p w != c' p w) n m k = [] ↔ ∀ p, n - k ≤ p → p < n → line m (c p) = line m (c' p))
  | 0, _ => by simp [plFrom]; omega
  | k + 1, hk => by
    unfold plFrom
    rw [List.append_eq_nil_iff, row_nil hm, plFrom_nil hm k (by omega)]
    constructor
    · rintro ⟨h1, h2⟩ p hp hpn
      by_cases e : p = n - (k + 1)
      · subst e; exact h1
      · exact h2 p (by omega) hpn
    · intro h
      exact ⟨h _ (Nat.le_refl _) (by omega), fun p hp hpn => h p (by omega) hpn⟩
theorem fp_zero {n m : Nat} (hm : 0 < m) {c c' : Nat → Nat → Bool} : fp (pl n m fun p w => c p w != c' p w) = 0 ↔ clothOf n m c = clothOf n m c' := by
  rw [cloth_eq]
  have h := plFrom_nil (n := n) (m := m) (c := c) (c' := c') hm n (Nat.le_refl _)
  have : (∀ p, n - n ≤ p → p < n → line m (c p) = line m (c' p)) ↔ ∀ p, p < n → line m (c p) = line m (c' p) := ⟨fun h p hp => h p (by omega) hp, fun h p _ hp => h p hp⟩
  rw [this] at h
  rw [← h]
  have hr := fun q (hq : q ∈ plFrom (fun p w => c p w != c' p w) n m n) => plFrom_mem (Nat.le_refl n) hq
  unfold pl fp
  generalize plFrom (fun p w => c p w != c' p w) n m n = ps at *
  cases ps with
  | nil => simp
  | cons q qs =>
    have := hr q List.mem_cons_self
    obtain ⟨p, w⟩ := q
    simp only at this ⊢
    simp; omega
theorem fp_sym (n m : Nat) (c c' : Nat → Nat → Bool) : (pl n m fun p w => c p w != c' p w) = pl n m fun p w => c' p w != c p w := by
  congr 1
  funext p w
  exact bne_comm
theorem s40 {n m : Nat} (hn : n ≤ 1000) (hm : 0 < m) (c c' : Nat → Nat → Bool) : f40 (clothOf n m c) (clothOf n m c') = some (fp (pl n m fun p w => c p w != c' p w)) := by
  refine Yes.eq ?_
  unfold f40
  refine Yes.jn (Yes.upto0 n (by omega) (fun i => fp (pl n m fun p w => c p w != c' p w) = fp (plFrom (fun p w => c p w != c' p w) n m (n - i))) rfl (fun i k hi hI hk => ?_) (fun k hI => ?_))
  · rw [plFrom_step hi] at hI
    refine Yes.jn (Yes.cond (fun _ => Yes.jn (Yes.bind (Yes.idx rfl (by rw [cloth_len]; exact hi) (Yes.bind (Yes.idx rfl (by rw [cloth_len]; exact hi) ?_))))) (fun h => absurd h (by rw [cloth_len]; simp; omega)))
    rw [cloth_at, cloth_at, str_ne]
    refine Yes.cond (fun h => Yes.some ?_) (fun h => hk ?_)
    · have hne : line m (c i) ≠ line m (c' i) := by simpa using h
      have hr : rowFrom (fun w => c i w != c' i w) i m m ≠ [] := fun hh => hne ((row_nil hm).1 hh)
      have hfst := fun q (hq : q ∈ rowFrom (fun w => c i w != c' i w) i m m) => rowFrom_fst hq
      rw [hI]
      generalize rowFrom (fun w => c i w != c' i w) i m m = rs at *
      cases rs with
      | nil => exact absurd rfl hr
      | cons q qs =>
        have := hfst q List.mem_cons_self
        obtain ⟨p, w⟩ := q
        simp only at this
        subst this
        rw [w64_id (by omega) (by omega)]
        rfl
    · have he : line m (c i) = line m (c' i) := by simpa using h
      rw [hI, (row_nil hm).2 he, List.nil_append]
  · rw [Nat.sub_self] at hI
    exact Yes.jn (Yes.cond (fun h => absurd h (by rw [cloth_len]; simp)) (fun _ => Yes.some hI.symm))

/-! ### Apart -/
theorem s68 {l : FaultLoom} (g : Good l) {ds : List FaultDamage} (hl : ds.length ≤ 1000) (hd : ∀ d ∈ ds, dmg l d = true) : f68 ⟨l⟩ ds = some (ds.map fun d => rnd l [d]) := by
  refine Yes.eq ?_
  unfold f68
  refine Yes.bind (Yes.upto ds.length (by omega) (fun i r => r = (ds.take i).map fun d => rnd l [d]) rfl (fun i r k hi hI hk => ?_) (fun r k hI => ?_))
  · subst hI
    refine Yes.cond (fun _ => Yes.bind (Yes.bind (Yes.idx rfl hi (Yes.bind (Yes.of (s55_one g (hd _ (List.getElem_mem hi))) (Yes.bind (Yes.apnd (by simp; omega) (by simp; omega) (Yes.some (hk _ ?_))))))))) (fun h => absurd h (by simp; omega))
    rw [List.take_succ_eq_append_getElem hi, List.map_append]; rfl
  · subst hI
    rw [List.take_length]
    exact Yes.cond (fun h => absurd h (by simp)) (fun _ => Yes.some (Yes.some rfl))
/-- The greatest of some numbers, or 0. -/
structure Top (F : Nat → Nat → Int) (S : Nat → Nat → Prop) (r : Int) : Prop where
  le : ∀ i k, S i k → F i k ≤ r
  pos : 0 ≤ r
  at_ : r = 0 ∨ ∃ i k, S i k ∧ F i k = r
theorem Top.none {F : Nat → Nat → Int} {S : Nat → Nat → Prop} (h : ∀ i k, ¬ S i k) : Top F S 0 := ⟨fun i k hs => absurd hs (h i k), Int.le_refl _, .inl rfl⟩
theorem Top.same {F : Nat → Nat → Int} {S S' : Nat → Nat → Prop} {r : Int} (h : Top F S r) (e : ∀ i k, S' i k ↔ S i k) : Top F S' r :=
  ⟨fun i k hs => h.le i k ((e i k).1 hs), h.pos, h.at_.imp id fun ⟨i, k, hs, hf⟩ => ⟨i, k, (e i k).2 hs, hf⟩⟩
theorem Top.add {F : Nat → Nat → Int} {S S' : Nat → Nat → Prop} {r : Int} {a b : Nat} (h : Top F S r) (h0 : 0 ≤ F a b) (e : ∀ i k, S' i k ↔ S i k ∨ (i = a ∧ k = b)) : Top F S' (max64 r (F a b)) := by
  unfold max64
  split
  · rename_i hgt
    refine ⟨fun i k hs => ?_, by omega, .inr ⟨a, b, (e a b).2 (.inr ⟨rfl, rfl⟩), rfl⟩⟩
    rcases (e i k).1 hs with hs | ⟨rfl, rfl⟩
    · have := h.le i k hs; omega
    · omega
  · rename_i hle
    refine ⟨fun i k hs => ?_, h.pos, h.at_.imp id fun ⟨i, k, hs, hf⟩ => ⟨i, k, (e i k).2 (.inl hs), hf⟩⟩
    rcases (e i k).1 hs with hs | ⟨rfl, rfl⟩
    · exact h.le i k hs
    · omega
theorem Top.half {F : Nat → Nat → Int} {N : Nat} {r r' : Int} (h : Top F (fun i k => i < N ∧ k < i) r) (h' : Top F (fun i k => i < N ∧ k < N) r') (hs : ∀ i k, F i k = F k i) (h0 : ∀ i, F i i = 0) : r = r' := by
  have p := h.pos
  have p' := h'.pos
  have a1 : r ≤ r' := by
    rcases h.at_ with e | ⟨i, k, ⟨hi, hk⟩, e⟩
    · omega
    · have := h'.le i k ⟨hi, by omega⟩; omega
  have a2 : r' ≤ r := by
    rcases h'.at_ with e | ⟨i, k, ⟨hi, hk⟩, e⟩
    · omega
    · rcases Nat.lt_trichotomy i k with hlt | rfl | hlt
      · have := h.le k i ⟨hk, hlt⟩; rw [hs] at this; omega
      · rw [h0] at e; omega
      · have := h.le i k ⟨hi, hlt⟩; omega
  omega
/-- How many picks tell damages i and k apart. -/
def dd (ds : List FaultDamage) (i : Nat) : FaultDamage := (ds[i]?).getD ⟨0, 0, 0, 0, false⟩
theorem dd_at {ds : List FaultDamage} {i : Nat} (h : i < ds.length) : ds[i] = dd ds i := by unfold dd; rw [List.getElem?_eq_getElem h]; rfl
def ap (l : FaultLoom) (ds : List FaultDamage) (i k : Nat) : Int := fp (apl l [dd ds i] [dd ds k])
theorem ap_sym (l : FaultLoom) (ds : List FaultDamage) (i k : Nat) : ap l ds i k = ap l ds k i := by unfold ap apl; rw [fp_sym]
theorem ap_range (l : FaultLoom) (ds : List FaultDamage) (i k : Nat) : 0 ≤ ap l ds i k ∧ ap l ds i k ≤ l.Design.Rows.length := fp_range _ _ _
theorem ap_zero {l : FaultLoom} (g : Good l) (ds : List FaultDamage) (i k : Nat) : ap l ds i k = 0 ↔ rnd l [dd ds i] = rnd l [dd ds k] := by
  rw [rnd_is, rnd_is]; exact fp_zero g.w0
theorem cut_take {α : Type} {xs : List α} {i : Nat} (h : i ≤ xs.length) : cut xs 0 (i : Int) = some (xs.take i) := by
  unfold cut
  rw [if_pos (by omega)]
  simp
theorem s38 (l : FaultLoom) (ds : List FaultDamage) : Yes (f38 l ds) fun r => if chkE l ds = 0 then Top (ap l ds) (fun i k => i < ds.length ∧ k < i) r.1 ∧ r.2 = 0 else r = (0, chkE l ds) := by
  unfold f38
  refine Yes.jn (Yes.bind (Yes.of (s18 _ _) (Yes.cond (fun h => Yes.some ?_) (fun h => ?_))))
  · have h : chkE l ds ≠ 0 := by simpa using h
    rw [if_neg h]
  have h : chkE l ds = 0 := by simpa using h
  refine Yes.mono (Q' := fun r => Top (ap l ds) (fun i k => i < ds.length ∧ k < i) r.1 ∧ r.2 = 0) ?_ fun r hr => by rw [if_pos h]; exact hr
  obtain ⟨g, hlen, hd⟩ : Good l ∧ ds.length ≤ 100 ∧ ∀ d ∈ ds, dmg l d = true := by
    unfold chkE at h
    split at h
    · rename_i h1; exact absurd h h1
    rename_i h1
    split at h
    · cases h
    split at h
    · rename_i h2 h3; exact ⟨good_of (Decidable.not_not.1 h1), by omega, List.all_eq_true.1 h3⟩
    · cases h
  have hr1 := g.r1
  have hw1 := g.w1
  refine Yes.jn (Yes.bind (Yes.of (s68 g (by omega) hd) (Yes.bind ?_)))
  generalize hX : (ds.map fun d => rnd l [d]) = X
  have hXl : X.length = ds.length := by rw [← hX]; simp
  have hXa : ∀ i (hi : i < X.length), X[i] = rnd l [dd ds i] := fun i hi => by subst hX; rw [List.getElem_map, dd_at]
  rw [hXl]
  refine Yes.upto ds.length (by omega) (fun i r => Top (ap l ds) (fun a b => a < i ∧ b < a) r) (Top.none fun i k h => by omega) (fun i r k hi hI hk => ?_) (fun r k hI => ?_)
  · refine Yes.cond (fun _ => Yes.bind (Yes.bind (Yes.idx rfl (by omega) (Yes.bind (Yes.of (cut_take (by omega)) ?_))))) (fun h => absurd h (by simp; omega))
    have htl : (X.take i).length = i := by rw [List.length_take]; omega
    rw [htl]
    refine Yes.upto i (by omega) (fun j r => Top (ap l ds) (fun a b => (a < i ∧ b < a) ∨ (a = i ∧ b < j)) r) (hI.same fun a b => by omega) (fun j r k2 hj hJ hk2 => ?_) (fun r k2 hJ => ?_)
    · refine Yes.cond (fun _ => Yes.bind (Yes.bind (Yes.idx rfl (by omega) (Yes.bind ?_)))) (fun h => absurd h (by simp; omega))
      rw [List.getElem_take, hXa, hXa]
      have hadd : Top (ap l ds) (fun a b => (a < i ∧ b < a) ∨ (a = i ∧ b < j + 1)) (max64 r (ap l ds i j)) := hJ.add (ap_range l ds i j).1 fun a b => by omega
      have hrange := ap_range l ds i j
      rw [rnd_is, rnd_is]
      unfold ap at hadd hrange
      have hpos := hJ.pos
      cases hp : apl l [dd ds i] [dd ds j] with
      | nil =>
        rw [hp] at hadd
        refine Yes.of (s83 (by omega) (by omega) (rc l [dd ds i]) (rc l [dd ds j]) (t := (0, r)) ?_) ?_
        · have : pl l.Design.Rows.length l.Harness.Warps.length (fun p w => rc l [dd ds i] p w != rc l [dd ds j] p w) = [] := hp
          rw [this]; rfl
        · refine Yes.some (hk2 _ ?_)
          have : max64 r (fp []) = r := by unfold max64; rw [show fp [] = 0 from rfl, if_neg (by omega)]
          rwa [this] at hadd
      | cons x xs =>
        obtain ⟨p, w⟩ := x
        rw [hp] at hadd hrange
        have e : w64 (p + 1) = p + 1 := by simp only [fp] at hrange; exact w64_id (by omega) (by omega)
        refine Yes.of (s83 (by omega) (by omega) (rc l [dd ds i]) (rc l [dd ds j]) (t := (1, max64 r (p + 1))) ?_) ?_
        · have : pl l.Design.Rows.length l.Harness.Warps.length (fun p w => rc l [dd ds i] p w != rc l [dd ds j] p w) = (p, w) :: xs := hp
          rw [this]
          simp only [feed, guardC, e]
          rfl
        · exact Yes.some (hk2 _ hadd)
    · exact Yes.cond (fun h => absurd h (by simp)) (fun _ => Yes.some (hk _ (hJ.same fun a b => by omega)))
  · exact Yes.cond (fun h => absurd h (by simp)) (fun _ => Yes.some (Yes.some ⟨hI, rfl⟩))
end Go.Proofs.Ytpiaipiehjcflaa
