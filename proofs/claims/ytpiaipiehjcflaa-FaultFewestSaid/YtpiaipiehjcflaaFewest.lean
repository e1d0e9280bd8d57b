/- FaultFewest as a plain function: it returns true. -/
import Derived.Test.YtpiaipiehjcflaaLawQ
set_option maxRecDepth 8000
namespace Go.Proofs.Ytpiaipiehjcflaa
open Go.RowKit

/-! ### Groups -/
def tot (g : List (List Int)) : Nat := (g.map List.length).sum
theorem sum_set {xs : List Nat} {j v : Nat} (h : j < xs.length) (hv : v = xs[j] + 1) : (xs.set j v).sum = xs.sum + 1 := by
  induction xs generalizing j with
  | nil => simp at h
  | cons x xs ih =>
    cases j with
    | zero => simp at hv; subst hv; simp; omega
    | succ j =>
      simp at h hv
      simp only [List.set_cons_succ, List.sum_cons]
      rw [ih h hv]; omega
theorem tot_grp {e : Nat → Nat → Bool} (E : Equi e) : ∀ i, tot (grp e i) = i
  | 0 => rfl
  | i + 1 => by
    have ih := tot_grp E i
    by_cases h : ∀ f ∈ firsts e i, e f i = false
    · rw [grp_new E h]
      unfold tot at ih ⊢
      rw [List.map_append, List.sum_append, ih]; simp
    · obtain ⟨f, hf⟩ := Classical.not_forall.1 h
      obtain ⟨hm, hef⟩ := Classical.not_imp.1 hf
      obtain ⟨j, hj, rfl⟩ := List.getElem_of_mem hm
      have hef : e (firsts e i)[j] i = true := by simpa using hef
      rw [grp_old E hj hef]
      unfold tot at ih ⊢
      rw [List.map_set, sum_set (by simpa [grp] using hj), ih]
      simp [grp]
theorem tot_take (g : List (List Int)) {i : Nat} (h : i < g.length) : tot (g.take (i + 1)) = tot (g.take i) + g[i].length := by
  unfold tot
  rw [List.take_succ_eq_append_getElem h, List.map_append, List.sum_append]; simp
theorem grp_at {e : Nat → Nat → Bool} {N j : Nat} (h : j < (grp e N).length) : ∃ h' : j < (firsts e N).length, (grp e N)[j] = cl e N (firsts e N)[j] := by
  have h' : j < (firsts e N).length := by simpa [grp] using h
  exact ⟨h', by simp [grp]⟩
theorem cl_at {e : Nat → Nat → Bool} {N f k : Nat} (h : k < (cl e N f).length) : ∃ (h' : k < (clN e N f).length), (cl e N f)[k] = (((clN e N f)[k] : Nat) : Int) ∧ (clN e N f)[k] < N ∧ e f (clN e N f)[k] = true := by
  have h' : k < (clN e N f).length := by simpa [cl] using h
  refine ⟨h', by simp [cl], ?_⟩
  have := List.getElem_mem h'
  unfold clN at this
  rw [List.mem_filter, List.mem_range] at this
  exact this
theorem clN_lt {e : Nat → Nat → Bool} {N f a b : Nat} (hab : a < b) (hb : b < (clN e N f).length) : (clN e N f)[a] < (clN e N f)[b] := by
  have : List.Pairwise (· < ·) (clN e N f) := List.Pairwise.sublist List.filter_sublist List.pairwise_lt_range
  exact List.pairwise_iff_getElem.1 this a b (by omega) hb hab
theorem firsts_lt {e : Nat → Nat → Bool} {N a b : Nat} (hab : a < b) (hb : b < (firsts e N).length) : (firsts e N)[a] < (firsts e N)[b] := by
  have : List.Pairwise (· < ·) (firsts e N) := List.Pairwise.sublist List.filter_sublist List.pairwise_lt_range
  exact List.pairwise_iff_getElem.1 this a b (by omega) hb hab
theorem cl_zero {e : Nat → Nat → Bool} (E : Equi e) {N j : Nat} (h : j < (firsts e N).length) : ∃ h0 : 0 < (cl e N (firsts e N)[j]).length, (cl e N (firsts e N)[j])[0] = (((firsts e N)[j] : Nat) : Int) := by
  obtain ⟨hlt, hff⟩ := mem_firsts.1 (List.getElem_mem h)
  obtain ⟨t, ht⟩ := cl_head E hlt hff
  have : cl e N (firsts e N)[j] = (((firsts e N)[j] : Nat) : Int) :: t.map (fun (k : Nat) => (k : Int)) := by unfold cl; rw [ht]; rfl
  rw [this]
  exact ⟨by simp, rfl⟩
/-- In which group a damage is. -/
theorem grp_of {e : Nat → Nat → Bool} (E : Equi e) {N a : Nat} (ha : a < N) : ∃ j, ∃ h : j < (firsts e N).length, e (firsts e N)[j] a = true := by
  obtain ⟨f, hf, h1, h2⟩ := rep E a
  obtain ⟨j, hj, rfl⟩ := List.getElem_of_mem (mem_firsts.2 ⟨by omega, h1⟩ : f ∈ firsts e N)
  exact ⟨j, hj, h2⟩
theorem grp_uniq {e : Nat → Nat → Bool} (E : Equi e) {N a i j : Nat} (hi : i < (firsts e N).length) (hj : j < (firsts e N).length) (h1 : e (firsts e N)[i] a = true) (h2 : e (firsts e N)[j] a = true) : i = j := by
  have := rep_one E (mem_firsts.1 (List.getElem_mem hi)).2 (mem_firsts.1 (List.getElem_mem hj)).2 h1 h2
  exact (List.getElem_inj (firsts_nodup N)).1 this
/-! ### The first place -/
theorem rowFrom_head {d : Nat → Bool} {i m : Nat} : ∀ {k : Nat}, k ≤ m → ∀ {P W : Int} {t : List (Int × Int)}, rowFrom d i m k = (P, W) :: t → ∃ w : Nat, P = (i : Int) ∧ W = (w : Int) ∧ m - k ≤ w ∧ w < m ∧ d w = true ∧ ∀ w', m - k ≤ w' → w' < w → d w' = false
  | 0, _, _, _, _, h => by cases h
  | k + 1, hk, P, W, t, h => by
    unfold rowFrom at h
    cases hd : d (m - (k + 1)) with
    | true =>
      rw [hd] at h
      simp at h
      obtain ⟨⟨rfl, rfl⟩, _⟩ := h
      exact ⟨m - (k + 1), rfl, rfl, Nat.le_refl _, by omega, hd, fun w' h1 h2 => by omega⟩
    | false =>
      rw [hd] at h
      simp at h
      obtain ⟨w, h1, h2, h3, h4, h5, h6⟩ := rowFrom_head (by omega) h
      refine ⟨w, h1, h2, by omega, h4, h5, fun w' ha hb => ?_⟩
      by_cases e : w' = m - (k + 1)
      · rw [e]; exact hd
      · exact h6 w' (by omega) hb
theorem rowFrom_all {d : Nat → Bool} {i m : Nat} (h : rowFrom d i m m = []) : ∀ w, w < m → d w = false := fun w hw => by
  cases hd : d w with
  | false => rfl
  | true => exact absurd h (rowFrom_some hd hw m (by omega) (Nat.le_refl _))
theorem plFrom_head {d : Nat → Nat → Bool} {n m : Nat} : ∀ {k : Nat}, k ≤ n → ∀ {P W : Int} {t : List (Int × Int)}, plFrom d n m k = (P, W) :: t → ∃ p w : Nat, P = (p : Int) ∧ W = (w : Int) ∧ n - k ≤ p ∧ p < n ∧ w < m ∧ d p w = true ∧ (∀ w', w' < w → d p w' = false) ∧ ∀ p', n - k ≤ p' → p' < p → ∀ w', w' < m → d p' w' = false
  | 0, _, _, _, _, h => by cases h
  | k + 1, hk, P, W, t, h => by
    unfold plFrom at h
    cases hr : rowFrom (d (n - (k + 1))) (n - (k + 1)) m m with
    | nil =>
      rw [hr, List.nil_append] at h
      obtain ⟨p, w, h1, h2, h3, h4, h5, h6, h7, h8⟩ := plFrom_head (by omega) h
      refine ⟨p, w, h1, h2, by omega, h4, h5, h6, h7, fun p' ha hb => ?_⟩
      by_cases e : p' = n - (k + 1)
      · rw [e]; exact rowFrom_all hr
      · exact h8 p' (by omega) hb
    | cons q qs =>
      rw [hr] at h
      obtain ⟨P', W'⟩ := q
      simp at h
      obtain ⟨⟨rfl, rfl⟩, _⟩ := h
      obtain ⟨w, h1, h2, h3, h4, h5, h6⟩ := rowFrom_head (Nat.le_refl m) hr
      exact ⟨n - (k + 1), w, h1, h2, Nat.le_refl _, by omega, h4, h5, fun w' hw' => h6 w' (by omega) hw', fun p' ha hb => by omega⟩
theorem cthN_rows (l : FaultLoom) (ds : List FaultDamage) : cthN l ds l.Design.Rows.length = rnd l ds := by
  rw [rnd_is]
  unfold cthN
  exact clothOf_congr fun p w hp _ => by rw [Nat.mod_eq_of_lt hp]
theorem cut_to {α : Type} {xs : List α} {i : Nat} (h : i ≤ xs.length) {β : Type} {K : List α → Option β} {Q : β → Prop} (hk : Yes (K (xs.take i)) Q) : Yes ((cut xs 0 (i : Int)).bind K) Q := Yes.bind (Yes.of (cut_take h) hk)
theorem mark_neq {a b : Bool} (h : a ≠ b) : (mark a == mark b) = false := by cases a <;> cases b <;> first | rfl | exact absurd rfl h
set_option maxHeartbeats 2000000 in
theorem s8 (x : Mill) : f8 x = some true := by
  refine Yes.eq ?_
  unfold f8
  obtain ⟨l, hl, g, hH, hW, hR⟩ := s42 x
  refine Yes.bind (Yes.of hl (Yes.bind ((s43 g x (by decide) (by decide)).mono fun ds hds => ?_)))
  obtain ⟨⟨hd1, hd2⟩, hall⟩ := hds
  have hr0 := g.r0
  have hw0 := g.w0
  have ck := s44 l (by omega) (by omega)
  have co := s17 ds (by omega)
  have hc : chkE l ds = 0 := chk_ok (loom_ok g) (by omega) hall
  have hgr := s39 l ds
  rw [if_pos hc] at hgr
  refine Yes.bind (Yes.of ck (Yes.bind (Yes.of co (Yes.bind ((s38 l ds).mono fun ra hra => ?_)))))
  rw [if_pos hc] at hra
  obtain ⟨hT, hra2⟩ := hra
  obtain ⟨n, e0⟩ := ra
  simp only at hT hra2
  subst hra2
  refine Yes.bind (Yes.of ck (Yes.bind (Yes.of co (Yes.bind (Yes.of hgr ?_)))))
  have E := like_equi l ds
  have hnr : 0 ≤ n ∧ n ≤ l.Design.Rows.length := by
    refine ⟨hT.pos, ?_⟩
    rcases hT.at_ with h | ⟨i, k, _, h⟩
    · omega
    · have := ap_range l ds i k; omega
  have hck2 : ∀ i k (hi : i < ds.length) (hk : k < ds.length), chkE l [ds[i], ds[k]] = 0 := fun i k hi hk => chk_ok (loom_ok g) (by simp) fun y hy => by
    simp at hy
    rcases hy with rfl | rfl
    · exact hall _ (List.getElem_mem hi)
    · exact hall _ (List.getElem_mem hk)
  refine Yes.jn (Yes.bind (Yes.mono (Q' := fun b => b = false) ?_ fun b hb => ?_))
  · exact Yes.cond (fun h => nomatch h) (fun _ => Yes.cond (fun h => nomatch h) (fun _ => Yes.cond (fun h => absurd h (by simp; omega)) (fun _ => Yes.some (by simp; omega))))
  subst hb
  refine Yes.cond (fun h => nomatch h) (fun _ => ?_)
  have hgl := grp_len (e := like l ds) ds.length
  have htot := tot_grp E ds.length
  obtain ⟨N, hN⟩ : ∃ N, ds.length = N := ⟨_, rfl⟩
  rw [hN] at hgl htot hT hd1 hd2 ⊢
  have hmk : mks 8 (0 : Int) (N : Int) = some (List.replicate N 0) := by
    unfold mks
    rw [if_pos (by omega)]
    simp
  refine Yes.bind (Yes.of hmk (Yes.jn ?_))
  -- the groups
  have hin : ∀ j k (hj : j < (grp (like l ds) N).length) (hk : k < (grp (like l ds) N)[j].length), ∃ q : Nat, (grp (like l ds) N)[j][k] = (q : Int) ∧ q < N ∧ ∃ h' : j < (firsts (like l ds) N).length, like l ds (firsts (like l ds) N)[j] q = true := fun j k hj hk => by
    obtain ⟨h', he⟩ := grp_at hj
    simp only [he] at hk ⊢
    obtain ⟨h2, h3, h4, h5⟩ := cl_at hk
    exact ⟨_, h3, h4, h', h5⟩
  refine Yes.lp (fun s => ∃ i : Nat, s.2.2 = i ∧ i ≤ (grp (like l ds) N).length ∧ s.1.length = N ∧ s.2.1 = ((tot ((grp (like l ds) N).take i) : Nat) : Int) ∧ ∀ j a (hj : j < (firsts (like l ds) N).length) (ha : a < s.1.length), j < i → like l ds (firsts (like l ds) N)[j] a = true → s.1[a] = (j : Int) + 1) (fun s => (grp (like l ds) N).length - s.2.2.toNat)
    ⟨0, rfl, Nat.zero_le _, by simp, rfl, fun j a hj ha h => by omega⟩ (by simp only; omega) ?_
  rintro ⟨of_, used, jj⟩ k1 ⟨i, hi, hle, hol, hus, hof⟩ hk1
  simp only at hi hol hus hof hk1
  subst hi; subst hus
  refine Yes.jn (Yes.cond (fun hlt => Yes.jn ?_) (fun hge => ?_))
  · -- one group
    have hlt : i < (grp (like l ds) N).length := by simpa using hlt
    obtain ⟨hif, hge⟩ := grp_at hlt
    obtain ⟨h0, hz⟩ := cl_zero E hif
    have hgil : (grp (like l ds) N)[i].length ≤ N := by rw [hge]; exact cl_len _ _
    have htk : tot ((grp (like l ds) N).take i) ≤ N := by
      have : tot (grp (like l ds) N) = tot ((grp (like l ds) N).take i) + tot ((grp (like l ds) N).drop i) := by
        unfold tot
        rw [← List.sum_append, ← List.map_append, List.take_append_drop]
      omega
    refine Yes.lp (fun s => ∃ k : Nat, s.2.2 = k ∧ k ≤ (grp (like l ds) N)[i].length ∧ s.1.length = N ∧ s.2.1 = ((tot ((grp (like l ds) N).take i) + k : Nat) : Int) ∧ (∀ j a (hj : j < (firsts (like l ds) N).length) (ha : a < s.1.length), j < i → like l ds (firsts (like l ds) N)[j] a = true → s.1[a] = (j : Int) + 1) ∧ ∀ q (hq : q < (clN (like l ds) N (firsts (like l ds) N)[i]).length) (ha : (clN (like l ds) N (firsts (like l ds) N)[i])[q] < s.1.length), q < k → s.1[(clN (like l ds) N (firsts (like l ds) N)[i])[q]] = (i : Int) + 1) (fun s => (grp (like l ds) N)[i].length - s.2.2.toNat)
      ⟨0, rfl, Nat.zero_le _, hol, by simp, hof, fun q hq ha h => by omega⟩ (by simp only; omega) ?_
    rintro ⟨of2, used, kk⟩ k2 ⟨k, hk, hkle, hol2, hus2, hofa, hofb⟩ hk2
    simp only at hk hol2 hus2 hofa hofb hk2
    subst hk; subst hus2
    refine Yes.jn (Yes.bind (Yes.idx rfl hlt (Yes.cond (fun hkl => Yes.jn ?_) (fun hkg => Yes.bind (Yes.idx rfl hlt (Yes.cond (fun h => ?_) (fun _ => ?_)))))))
    rotate_left
    · simp at h
      rw [hge] at h
      rw [h] at h0; simp at h0
    · have hkN0 : ¬ k < (grp (like l ds) N)[i].length := by simpa using hkg
      have hkN : k = (grp (like l ds) N)[i].length := by omega
      rw [w64_id (by omega) (by omega)]
      refine hk1 _ ⟨i + 1, by simp, hlt, hol2, by rw [tot_take _ hlt, hkN], fun j a hj ha hji he => ?_⟩ (by simp only; omega)
      by_cases hji2 : j < i
      · exact hofa j a hj ha hji2 he
      · obtain rfl : j = i := by omega
        have hac : a ∈ clN (like l ds) N (firsts (like l ds) N)[j] := by unfold clN; rw [List.mem_filter, List.mem_range]; exact ⟨by have : a < of2.length := ha; omega, he⟩
        obtain ⟨q, hq, rfl⟩ := List.getElem_of_mem hac
        refine hofb q hq ha ?_
        rw [hkN, hge]
        simpa [cl] using hq
    have hkl : k < (grp (like l ds) N)[i].length := by simpa using hkl
    have hkc : k < (cl (like l ds) N (firsts (like l ds) N)[i]).length := by rw [← hge]; exact hkl
    obtain ⟨hkn, hkv, hkN, hke⟩ := cl_at hkc
    have hgk : (grp (like l ds) N)[i][k] = (((clN (like l ds) N (firsts (like l ds) N)[i])[k] : Nat) : Int) := by simp only [hge]; exact hkv
    refine Yes.bind (Yes.idx rfl hlt (Yes.bind (Yes.idx rfl hkl ?_)))
    rw [hgk]
    refine Yes.jn (Yes.bind (Yes.mono (Q' := fun b => b = false) ?_ fun b hb => ?_))
    · have tail : Yes (bif ((k : Int) == (0 : Int)) then bif decide ((i : Int) > (0 : Int)) then (idx (grp (like l ds) N) (w64 ((i : Int) - (1 : Int)))).bind fun y2072 => (idx y2072 (0 : Int)).bind fun y2075 => some (decide ((((clN (like l ds) N (firsts (like l ds) N)[i])[k] : Nat) : Int) ≤ y2075)) else some false else some false) (fun b => b = false) := by
        refine Yes.cond (fun hk0 => Yes.cond (fun hi0 => ?_) (fun _ => Yes.some rfl)) (fun _ => Yes.some rfl)
        have hk0 : k = 0 := by have := beq_iff_eq.1 hk0; omega
        have hi0 : 0 < i := by simp at hi0; omega
        subst hk0
        rw [w64_id (by omega) (by omega)]
        obtain ⟨hpf, hpe⟩ := grp_at (show i - 1 < (grp (like l ds) N).length by omega)
        obtain ⟨hp0, hpz⟩ := cl_zero E hpf
        refine Yes.bind (Yes.idx (n := i - 1) (by omega) (by omega) ?_)
        rw [hpe]
        refine Yes.bind (Yes.idx (n := 0) rfl hp0 (Yes.some ?_))
        rw [hpz]
        have hlt2 := firsts_lt (e := like l ds) (N := N) (show i - 1 < i by omega) hif
        have hkv0 : (clN (like l ds) N (firsts (like l ds) N)[i])[0] = (firsts (like l ds) N)[i] := by
          rw [hkv] at hz; exact Int.ofNat_inj.1 hz
        rw [hkv0]
        simp; omega
      refine Yes.cond (fun h => absurd h (by simp)) (fun _ => Yes.cond (fun h => absurd h (by simp; omega)) (fun _ => Yes.cond (fun hk0 => ?_) (fun _ => tail)))
      have hk0 : 0 < k := by simp at hk0; omega
      rw [w64_id (by omega) (by omega)]
      refine Yes.bind (Yes.idx rfl hlt (Yes.bind (Yes.idx (n := k - 1) (by omega) (show k - 1 < (grp (like l ds) N)[i].length by omega) ?_)))
      have hkc1 : k - 1 < (cl (like l ds) N (firsts (like l ds) N)[i]).length := by omega
      obtain ⟨hkn1, hkv1, _, _⟩ := cl_at hkc1
      have hgk1 : (grp (like l ds) N)[i][k - 1]'(by omega) = (((clN (like l ds) N (firsts (like l ds) N)[i])[k - 1] : Nat) : Int) := by simp only [hge]; exact hkv1
      rw [hgk1]
      have hlt2 := clN_lt (e := like l ds) (N := N) (f := (firsts (like l ds) N)[i]) (show k - 1 < k by omega) hkn
      refine Yes.cond (fun h => absurd h (by simp; omega)) (fun _ => ?_)
      refine Yes.cond (fun h => absurd h (by simp; omega)) (fun _ => Yes.some rfl)
    · subst hb
      refine Yes.cond (fun h => nomatch h) (fun _ => Yes.jn (Yes.bind (Yes.idx (n := (clN (like l ds) N (firsts (like l ds) N)[i])[k]) rfl (by omega) ?_)))
      rw [Int.toNat_natCast, w64_id (n := (i : Int) + 1) (by omega) (by omega), w64_id (n := ((tot ((grp (like l ds) N).take i) + k : Nat) : Int) + 1) (by omega) (by omega), w64_id (n := (k : Int) + 1) (by omega) (by omega)]
      refine hk2 _ ⟨k + 1, by simp, hkl, by rw [List.length_set]; exact hol2, by simp only; omega, fun j a hj ha hji he => ?_, fun q hq ha hqk => ?_⟩ (by simp only; omega)
      · have hne : (clN (like l ds) N (firsts (like l ds) N)[i])[k] ≠ a := fun hea => by
          have := grp_uniq E hif hj hke (hea ▸ he)
          omega
        simp only
        rw [List.getElem_set_ne hne]
        exact hofa j a hj (by simpa using ha) hji he
      · simp only
        by_cases hqk2 : q = k
        · subst hqk2
          rw [List.getElem_set_self]
        · have hne : (clN (like l ds) N (firsts (like l ds) N)[i])[k] ≠ (clN (like l ds) N (firsts (like l ds) N)[i])[q] := by
            have := clN_lt (e := like l ds) (N := N) (f := (firsts (like l ds) N)[i]) (show q < k by omega) hkn
            omega
          rw [List.getElem_set_ne hne]
          exact hofb q hq (by simpa using ha) (by omega)
  -- behind the groups
  have hi0 : ¬ i < (grp (like l ds) N).length := by simpa using hge
  have hi : i = (grp (like l ds) N).length := by omega
  subst hi
  rw [List.take_length, htot]
  have hgf : (grp (like l ds) N).length = (firsts (like l ds) N).length := by simp [grp]
  have hofe : ∀ a b (ha : a < of_.length) (hb : b < of_.length), (of_[a] == of_[b]) = like l ds a b := fun a b ha hb => by
    obtain ⟨ja, hja, hea⟩ := grp_of E (show a < N by omega)
    obtain ⟨jb, hjb, heb⟩ := grp_of E (show b < N by omega)
    rw [hof ja a hja ha (by omega) hea, hof jb b hjb hb (by omega) heb]
    rw [Bool.eq_iff_iff, beq_iff_eq]
    constructor
    · intro h
      have : ja = jb := by omega
      subst this
      exact E.trans (E.symm hea) heb
    · intro h
      have := grp_uniq E hja hjb (E.trans hea h) heb
      omega
  refine Yes.jn ?_
  refine Yes.lp (fun s => ∃ i : Nat, s.2 = i ∧ i ≤ N ∧ Top (ap l ds) (fun a b => a < i ∧ b < a) s.1) (fun s => N - s.2.toNat) ⟨0, rfl, Nat.zero_le _, Top.none fun i k h => by omega⟩ (by simp only; omega) ?_
  rintro ⟨most, jj⟩ k2 ⟨i, hi, hle2, hTi⟩ hk2
  simp only at hi hTi hk2
  subst hi
  refine Yes.jn (Yes.cond (fun hlt => Yes.jn ?_) (fun hge => ?_))
  rotate_left
  · have : i = N := by have : ¬ i < N := by simpa using hge
                       omega
    subst this
    have : n = most := by
      have a1 := hT.pos
      have a2 := hTi.pos
      have b1 : n ≤ most := by
        rcases hT.at_ with h | ⟨a, b, h1, h2⟩
        · omega
        · have := hTi.le a b h1; omega
      have b2 : most ≤ n := by
        rcases hTi.at_ with h | ⟨a, b, h1, h2⟩
        · omega
        · have := hT.le a b h1; omega
      omega
    subst this
    exact Yes.bind (Yes.cond (fun _ => Yes.cond (fun _ => Yes.bind (Yes.of known_ok (Yes.some (Yes.some rfl)))) (fun h => absurd h (by simp))) (fun h => absurd h (by simp)))
  have hlt : i < N := by simpa using hlt
  refine Yes.lp (fun s => ∃ k : Nat, s.2 = k ∧ k ≤ i ∧ Top (ap l ds) (fun a b => (a < i ∧ b < a) ∨ (a = i ∧ b < k)) s.1) (fun s => i - s.2.toNat) ⟨0, rfl, Nat.zero_le _, hTi.same fun a b => by omega⟩ (by simp only; omega) ?_
  rintro ⟨most, jj⟩ k3 ⟨k, hk, hkle, hTk⟩ hk3
  simp only at hk hTk hk3
  subst hk
  refine Yes.jn (Yes.cond (fun hkl => Yes.jn ?_) (fun hkg => ?_))
  rotate_left
  · have : k = i := by have : ¬ k < i := by simpa using hkg
                       omega
    subst this
    rw [w64_id (by omega) (by omega)]
    exact hk2 _ ⟨k + 1, by simp, hlt, hTk.same fun a b => by omega⟩ (by simp only; omega)
  have hkl : k < i := by simpa using hkl
  have hdi := hall ds[i] (List.getElem_mem (by omega))
  have hdk := hall ds[k] (List.getElem_mem (by omega))
  have hkc := hck2 i k (by omega) (by omega)
  have ai := s45_one g hdi (k := (l.Design.Rows.length : Int)) (by omega) (by omega)
  have ak := s45_one g hdk (k := (l.Design.Rows.length : Int)) (by omega) (by omega)
  rw [Int.toNat_natCast, cthN_rows] at ai ak
  have htell := s37 l ds[i] ds[k]
  rw [if_pos hkc] at htell
  refine Yes.bind (Yes.of ck (Yes.bind (Yes.idx rfl (by omega) (Yes.bind (Yes.idx rfl (by omega) (Yes.bind (Yes.of htell ?_)))))))
  refine Yes.bind (Yes.idx rfl (by omega) (Yes.bind (Yes.of ai (Yes.bind (Yes.idx rfl (by omega) (Yes.bind (Yes.of ak (Yes.jn ?_))))))))
  have hsym : ∀ a b, ap l ds a b = ap l ds b a := ap_sym l ds
  have hapl : ap l ds i k = fp (apl l [ds[i]] [ds[k]]) := by unfold ap; rw [dd_at, dd_at]
  have hlk : like l ds i k = decide (rnd l [ds[i]] = rnd l [ds[k]]) := by unfold like; rw [dd_at, dd_at]
  have hapz := ap_zero g ds i k
  have hrange := ap_range l ds i k
  have hadd : Top (ap l ds) (fun a b => (a < i ∧ b < a) ∨ (a = i ∧ b < k + 1)) (max64 most (ap l ds i k)) := hTk.add hrange.1 fun a b => by omega
  rw [← dd_at (show i < ds.length by omega), ← dd_at (show k < ds.length by omega)] at hapz
  have hnext : ∀ m', m' = max64 most (ap l ds i k) → Yes (k3 (m', w64 ((k : Int) + 1))) (fun r => r = true) := fun m' hm => by
    rw [w64_id (by omega) (by omega)]
    exact hk3 _ ⟨k + 1, by simp, hkl, by rw [hm]; exact hadd⟩ (by simp only; omega)
  have hrl : ∀ d : FaultDamage, (rnd l [d]).length = l.Design.Rows.length := fun d => rnd_len l [d]
  have hof2 := hofe i k (by omega) (by omega)
  refine Yes.bind (Yes.mono (Q' := fun b => b = false) ?_ fun b hb => ?_)
  · refine Yes.cond (fun h => nomatch h) (fun _ => Yes.cond (fun h => nomatch h) (fun _ => Yes.bind (Yes.idx rfl (by omega) (Yes.bind (Yes.idx rfl (by omega) ?_)))))
    rw [hof2, hlk]
    have hg7 : ((told (apl l [ds[i]] [ds[k]])).2.2 == (7 : Int)) = decide (rnd l [ds[i]] = rnd l [ds[k]]) := by
      rw [hapl] at hapz
      rw [Bool.eq_iff_iff, decide_eq_true_eq, ← hapz]
      cases hp : apl l [ds[i]] [ds[k]] with
      | nil => simp [told, fp]
      | cons q qs =>
        obtain ⟨P, W⟩ := q
        obtain ⟨p, w, rfl, _⟩ := plFrom_head (Nat.le_refl _) hp
        simp [told, fp]; omega
    rw [hg7]
    refine Yes.cond (fun h => absurd h (by simp)) (fun _ => Yes.bind (Yes.of (s46 _ _ (by show (rnd l [ds[i]]).length < _; rw [hrl]; omega)) (Yes.cond (fun h => absurd h (by simp)) (fun _ => Yes.cond (fun h => Yes.some ?_) (fun _ => Yes.some rfl)))))
    cases hp : apl l [ds[i]] [ds[k]] with
    | nil => simp [told]
    | cons q qs => obtain ⟨P, W⟩ := q; rw [hp] at h; simp [told] at h
  subst hb
  refine Yes.cond (fun h => nomatch h) (fun _ => Yes.jn ?_)
  cases hp : apl l [ds[i]] [ds[k]] with
  | nil =>
    refine Yes.cond (fun _ => ?_) (fun h => nomatch h)
    refine hnext _ ?_
    rw [hapl, hp]
    exact (max64_0 hTk.pos).symm
  | cons q qs =>
    obtain ⟨P, W⟩ := q
    obtain ⟨p, w, rfl, rfl, _, hpn, hwm, hd, hrow, hpre⟩ := plFrom_head (Nat.le_refl _) hp
    have hap : ap l ds i k = (p : Int) + 1 := by rw [hapl, hp]; rfl
    refine Yes.cond (fun h => nomatch h) (fun _ => Yes.jn ?_)
    simp only [told]
    have hri : ∀ p' (h : p' < (rnd l [ds[i]]).length), (rnd l [ds[i]])[p'] = line l.Harness.Warps.length (rc l [ds[i]] p') := fun p' h => cloth_at (c := rc l [ds[i]]) h
    have hrk : ∀ p' (h : p' < (rnd l [ds[k]]).length), (rnd l [ds[k]])[p'] = line l.Harness.Warps.length (rc l [ds[k]] p') := fun p' h => cloth_at (c := rc l [ds[k]]) h
    refine Yes.bind (Yes.mono (Q' := fun b => b = false) ?_ fun b hb => ?_)
    · refine Yes.cond (fun h => absurd (of_decide_eq_true h) (show ¬ ((p : Int) < 0) by omega)) (fun _ => Yes.cond (fun h => absurd (of_decide_eq_true h) (show ¬ ((p : Int) ≥ ((rnd l [ds[i]]).length : Int)) by rw [hrl]; omega)) (fun _ => Yes.cond (fun h => absurd (of_decide_eq_true h) (show ¬ ((w : Int) < 0) by omega)) (fun _ => ?_)))
      refine Yes.bind (Yes.idx (n := 0) rfl (by rw [hrl]; omega) ?_)
      rw [hri, line_len]
      refine Yes.cond (fun h => absurd (of_decide_eq_true h) (show ¬ ((w : Int) ≥ (l.Harness.Warps.length : Int)) by omega)) (fun _ => cut_to (by rw [hrl]; omega) (cut_to (by rw [hrl]; omega) ?_))
      have heq : (rnd l [ds[i]]).take p = (rnd l [ds[k]]).take p := by
        refine List.ext_getElem (by simp [hrl]) fun p' h1 h2 => ?_
        rw [List.length_take, hrl] at h1
        rw [List.getElem_take, List.getElem_take, hri, hrk, line_eq]
        intro w' hw'
        have := hpre p' (by omega) (by omega) w' hw'
        simpa using this
      refine Yes.bind (Yes.of (s46 _ _ (by rw [List.length_take]; omega)) ?_)
      rw [heq]
      refine Yes.cond (fun h => absurd h (by simp)) (fun _ => Yes.bind (Yes.idx rfl (by rw [hrl]; exact hpn) ?_))
      rw [hri]
      refine cut_to (by rw [line_len]; omega) (Yes.bind (Yes.idx rfl (by rw [hrl]; exact hpn) ?_))
      rw [hrk]
      refine cut_to (by rw [line_len]; omega) ?_
      have heq2 : (line l.Harness.Warps.length (rc l [ds[i]] p)).b.take w = (line l.Harness.Warps.length (rc l [ds[k]] p)).b.take w := by
        refine List.ext_getElem (by simp [line_len]) fun w' h1 h2 => ?_
        rw [List.length_take, line_len] at h1
        rw [List.getElem_take, List.getElem_take, line_at, line_at]
        have := hrow w' (by omega)
        congr 1
        simpa using this
      rw [heq2]
      refine Yes.cond (fun h => absurd h (by simp)) (fun _ => Yes.bind (Yes.idx rfl (by rw [hrl]; exact hpn) ?_))
      rw [hri]
      refine Yes.bind (Yes.idx rfl (by rw [line_len]; exact hwm) (Yes.bind (Yes.idx rfl (by rw [hrl]; exact hpn) ?_)))
      rw [hrk]
      refine Yes.bind (Yes.idx rfl (by rw [line_len]; exact hwm) (Yes.some ?_))
      rw [line_at, line_at]
      have hne : rc l [ds[i]] p w ≠ rc l [ds[k]] p w := by simpa using hd
      exact mark_neq hne
    · subst hb
      refine Yes.cond (fun h => nomatch h) (fun _ => hnext _ ?_)
      rw [w64_id (by omega) (by omega), hap]
end Go.Proofs.Ytpiaipiehjcflaa
