/- Plain laws: price lists and pieces out of numbers; fines. -/
import Derived.Test.YtkmbkaoolacofaaGreatLawB
set_option maxRecDepth 8000
namespace Go.Proofs.YtkmbkaoolacofaaGreat
open Go.RowKit
open Classical

theorem qrem {a b : Int} (ha : 0 ≤ a) (hb : 0 < b) : ∃ r, rem64 a b = some r ∧ 0 ≤ r ∧ r < b := by
 unfold rem64
 rw [if_neg (by omega)]
 exact ⟨_, rfl, Int.tmod_nonneg b ha, Int.tmod_lt_of_pos a hb⟩
theorem qu8 (c : UInt8) : 0 ≤ ((c.toNat : Nat) : Int) ∧ ((c.toNat : Nat) : Int) ≤ 255 := by have := c.toNat_lt; omega
theorem qu16 (c : UInt16) : 0 ≤ ((c.toNat : Nat) : Int) ∧ ((c.toNat : Nat) : Int) ≤ 65535 := by have := c.toNat_lt; omega
theorem qu32 (c : UInt32) : 0 ≤ ((c.toNat : Nat) : Int) ∧ ((c.toNat : Nat) : Int) ≤ 4294967295 := by have := c.toNat_lt; omega
theorem okRates_snoc {rs : List PayRate} {r : PayRate} (h : okRates rs) (h1 : btw 0 1000 r.From = true) (h2 : btw 0 10000 r.Rate = true) (h3 : rs.length = 0 → r.From = 0) (h4 : ∀ h : 0 < rs.length, (rs[rs.length - 1]'(by omega)).From < r.From) : okRates (rs ++ [r]) := by
 intro i hi
 simp only [List.length_append, List.length_cons, List.length_nil] at hi
 rcases Nat.lt_succ_iff_lt_or_eq.1 (show i < rs.length + 1 by omega) with hlt | heq
 ·have := h i hlt
  unfold okAt at this ⊢
  simp only [List.getElem_append_left hlt]
  refine ⟨this.1, this.2.1, this.2.2.1, fun h0 => ?_⟩
  rw [List.getElem_append_left (by omega)]
  exact this.2.2.2 h0
 ·subst heq
  unfold okAt
  simp only [List.getElem_append_right (Nat.le_refl _), Nat.sub_self, List.getElem_cons_zero]
  refine ⟨h1, h2, h3, fun h0 => ?_⟩
  rw [List.getElem_append_left (by omega)]
  exact h4 h0
structure Part1 (n : Nat) (fine cap from_ : Int) (l : PayList) : Prop where
 ok : okRates l.Rates
 len : l.Rates.length = n
 ex : l.Extras = []
 fine : l.Fine = fine
 cap : l.Cap = cap
 z : n = 0 → from_ = 0
 p : ∀ h : 0 < l.Rates.length, from_ = (l.Rates[l.Rates.length - 1]'(by omega)).From
 b : 0 ≤ from_ ∧ from_ ≤ 150 * n
theorem prices_ok (x : Prices) : Yes (f38 x) LOk := by
  unfold f38
  have hf := qu8 x.Fine
  have hc := qu8 x.Cap
  rw [qw64 (n := (4 : Int) * ((x.Cap.toNat : Nat) : Int)) (by omega) (by omega)]
  obtain ⟨cap, hcap, hc0, hc1⟩ := qrem (a := (4 : Int) * ((x.Cap.toNat : Nat) : Int)) (b := 1001) (by omega) (by omega)
  refine qbind _ hcap ?_
  refine Yes.bind (Yes.mono (Q' := fun l => ∃ n, 1 ≤ n ∧ n ≤ 6 ∧ ∃ f, Part1 n ((x.Fine.toNat : Nat) : Int) cap f l) ?_ fun l hl => ?_)
  · refine Yes.lp (fun s => ∃ n : Nat, s.2.2 = n ∧ n ≤ 6 ∧ Part1 n ((x.Fine.toNat : Nat) : Int) cap s.2.1 s.1) (fun s => 6 - s.2.2.toNat) ⟨0, rfl, by omega, ?_⟩ (by simp) ?_
    · exact ⟨fun i hi => absurd hi (by simp), rfl, rfl, rfl, rfl, fun _ => rfl, fun h => absurd h (by simp), by simp⟩
    rintro ⟨l, from_, i⟩ k ⟨n, hi, hn, hp⟩ hk
    simp only at hi hp
    subst hi
    refine Yes.jn ?_
    have body : n < 6 → Yes (Option.bind (α := PayList × Int) (
          Option.bind (α := Int) (
            bif (decide ((n : Int) < (((x).Rates).length : Int))) then
              (idx ((x).Rates) (n : Int)).bind fun y227 =>
              (idx (y227).toList (1 : Int)).bind fun y229 =>
              (rem64 ((y229).toNat : Int) (10001 : Int)).bind fun y232 =>
              some (y232)
            else
              some ((25 : Int))
            ) fun s6_233 =>
          Option.bind (α := Int) (
            bif (decide ((n : Int) > (0 : Int))) then
              (idx ((x).Rates) (n : Int)).bind fun y246 =>
              (idx (y246).toList (0 : Int)).bind fun y248 =>
              (rem64 ((y248).toNat : Int) (150 : Int)).bind fun y251 =>
              some ((w64 (from_ + (w64 ((1 : Int) + y251)))))
            else
              some (from_)
            ) fun s4_252 =>
          (apnd 16 ((l).Rates) (([(⟨s4_252, s6_233⟩ : PayRate)] : List PayRate))).bind fun y258 =>
          some ({ l with Rates := y258 }, s4_252)
          ) fun (m3_261, s4_261) =>
        k (m3_261, s4_261, (w64 ((n : Int) + (1 : Int))))) (fun l => ∃ n, 1 ≤ n ∧ n ≤ 6 ∧ ∃ f, Part1 n ((x.Fine.toNat : Nat) : Int) cap f l) ∨ (0 < n ∧ ¬ n < x.Rates.length) := fun h6 => by
      by_cases hin : 0 < n ∧ ¬ n < x.Rates.length
      · exact .inr hin
      refine .inl ?_
      refine Yes.bind (Yes.bind (Yes.mono (Q' := fun r => btw 0 10000 r = true) ?_ fun rate hrate => ?_))
      · refine Yes.cond (fun h => ?_) (fun _ => Yes.some rfl)
        have hl : n < x.Rates.length := by simp at h; omega
        refine Yes.bind (Yes.idx rfl hl (Yes.bind (Yes.idx (n := 1) rfl (by simp) ?_)))
        have hq := qu16 ((x.Rates[n]).toList[1]'(by simp))
        obtain ⟨r, hr, hr0, hr1⟩ := qrem (a := ((((x.Rates[n]).toList[1]'(by simp)).toNat : Nat) : Int)) (b := 10001) hq.1 (by omega)
        exact qbind _ hr (Yes.some (btw_iff.2 ⟨hr0, by omega⟩))
      · refine Yes.bind (Yes.mono (Q' := fun f => (n = 0 → f = 0) ∧ (0 < n → from_ < f) ∧ 0 ≤ f ∧ f ≤ from_ + 150) ?_ fun f hf => ?_)
        · refine Yes.cond (fun h => ?_) (fun h => Yes.some ?_)
          · have h0 : 0 < n := by simpa using h
            have hl : n < x.Rates.length := by
              rcases Nat.lt_or_ge n x.Rates.length with h | h
              · exact h
              · exact absurd ⟨h0, by omega⟩ hin
            refine Yes.bind (Yes.idx rfl hl (Yes.bind (Yes.idx (n := 0) rfl (by simp) ?_)))
            have hq := qu16 ((x.Rates[n]).toList[0]'(by simp))
            obtain ⟨r, hr, hr0, hr1⟩ := qrem (a := ((((x.Rates[n]).toList[0]'(by simp)).toNat : Nat) : Int)) (b := 150) hq.1 (by omega)
            refine qbind _ hr (Yes.some ?_)
            have hb := hp.b
            rw [qw64 (n := (1 : Int) + r) (by omega) (by omega), qw64 (by omega) (by omega)]
            exact ⟨fun h => absurd h (by omega), fun _ => by omega, by omega, by omega⟩
          · have h0 : n = 0 := by simp at h; omega
            have := hp.z h0; have := hp.b
            exact ⟨fun _ => by omega, fun h => absurd h (by omega), by omega, by omega⟩
        · have hlen := hp.len
          refine Yes.bind (Yes.apnd (by simp; omega) (by simp; omega) (Yes.some ?_))
          rw [qw64 (n := (n : Int) + 1) (by omega) (by omega)]
          have hb := hp.b
          refine hk _ ⟨n + 1, by simp, by omega, ⟨?_, by simp [hlen], hp.ex, hp.fine, hp.cap, fun h => absurd h (by omega), fun _ => by simp, by simp only; omega⟩⟩ (by simp; omega)
          refine okRates_snoc hp.ok (btw_iff.2 (by simp only; omega)) hrate (fun h => hf.1 (by omega)) fun h => ?_
          have := hp.p h
          have := hf.2.1 (by omega)
          simp only; omega
    have stop : 0 < n → Yes (some l) (fun l => ∃ n, 1 ≤ n ∧ n ≤ 6 ∧ ∃ f, Part1 n ((x.Fine.toNat : Nat) : Int) cap f l) := fun h => Yes.some ⟨n, h, hn, _, hp⟩
    refine Yes.bind (Yes.cond (fun h => Yes.some (qtake rfl ?_)) (fun h => ?_))
    · have h0 : n = 0 := by simp at h; omega
      rcases body (by omega) with hb | hb
      · exact hb
      · exact absurd hb.1 (by omega)
    · have h0 : 0 < n := by simp at h; omega
      refine Yes.cond (fun h2 => Yes.some (Yes.cond (fun h3 => ?_) (fun _ => stop h0))) (fun _ => Yes.some (qskip rfl (stop h0)))
      have h6 : n < 6 := by simp at h3; omega
      rcases body h6 with hb | hb
      · exact hb
      · have : n < x.Rates.length := by simp at h2; omega
        exact absurd this hb.2
  · obtain ⟨n, hn1, hn6, f, hp⟩ := hl
    refine Yes.bind (Yes.mono (Q' := LOk) ?_ fun l hl => Yes.some hl)
    refine Yes.lp (fun s => ∃ m : Nat, s.2 = m ∧ m ≤ 8 ∧ s.1.Extras.length = m ∧ (∀ x ∈ s.1.Extras, btw 0 1000 x = true) ∧ s.1.Rates = l.Rates ∧ s.1.Fine = l.Fine ∧ s.1.Cap = l.Cap) (fun s => 8 - s.2.toNat) ⟨0, rfl, by omega, by rw [hp.ex]; rfl, by rw [hp.ex]; simp, rfl, rfl, rfl⟩ (by simp) ?_
    rintro ⟨q, i⟩ k ⟨m, hi, hm, hlen, hall, e1, e2, e3⟩ hk
    simp only at hi hlen hall e1 e2 e3
    subst hi
    have stop : Yes (some q) LOk := Yes.some ⟨⟨by rw [e1]; exact hp.ok, hall, by rw [e1, hp.len]; omega, by rw [e2, hp.fine]; exact btw_iff.2 ⟨hf.1, by omega⟩, by rw [e3, hp.cap]; exact btw_iff.2 ⟨hc0, by omega⟩⟩, by rw [e1, hp.len]; exact hn6, by omega⟩
    refine Yes.jn (Yes.bind (Yes.cond (fun h => Yes.some (Yes.cond (fun h8 => ?_) (fun _ => stop))) (fun _ => Yes.some (qskip rfl stop))))
    have hl : m < x.Extras.length := by simp at h; omega
    have h8 : m < 8 := by simp at h8; omega
    refine Yes.bind (Yes.bind (Yes.idx rfl hl (Yes.bind (Yes.apnd (by simp; omega) (by simp; omega) (Yes.some ?_)))))
    have hq := qu8 x.Extras[m]
    rw [qw64 (n := (m : Int) + 1) (by omega) (by omega), qw64 (n := (3 : Int) * _) (by omega) (by omega)]
    refine hk _ ⟨m + 1, by simp, by omega, by simp [hlen], fun y hy => ?_, e1, e2, e3⟩ (by simp; omega)
    rcases List.mem_append.1 hy with h | h
    · exact hall y h
    · rw [List.mem_singleton.1 h]; exact btw_iff.2 ⟨by omega, by omega⟩
theorem asc_snoc {xs : List Int} {y : Int} (h : asc xs) (hy : ∀ x ∈ xs, x < y) : asc (xs ++ [y]) := by
 intro i hi
 simp only [List.length_append, List.length_cons, List.length_nil] at hi
 rw [List.getElem_append_left (by omega)]
 rcases Nat.lt_or_ge (i + 1) xs.length with h1 | h1
 ·rw [List.getElem_append_left h1]; exact h i h1
 ·have : i + 1 = xs.length := by omega
  rw [List.getElem_append_right (by omega)]
  simp only [this, Nat.sub_self, List.getElem_cons_zero]
  exact hy _ (List.getElem_mem _)
theorem piece_ok (c : Cut) {l : PayList} (hl : LOk l) : Yes (f39 c l) fun p => okPiece l p ∧ p.Extras.length ≤ 8 := by
 unfold f39
 obtain ⟨r1, h1, a1, b1⟩ := qrem (a := ((c.Weaver.toNat : Nat) : Int)) (b := 51) (qu8 _).1 (by omega)
 obtain ⟨r2, h2, a2, b2⟩ := qrem (a := ((c.Dense.toNat : Nat) : Int)) (b := 1001) (qu16 _).1 (by omega)
 obtain ⟨r3, h3, a3, b3⟩ := qrem (a := ((c.Picks.toNat : Nat) : Int)) (b := 1000001) (qu32 _).1 (by omega)
 obtain ⟨r4, h4, a4, b4⟩ := qrem (a := ((c.Faults.toNat : Nat) : Int)) (b := 101) (qu8 _).1 (by omega)
 refine qbind _ h1 (qbind _ h2 (qbind _ h3 (qbind _ h4 (Yes.bind ?_))))
 have h8 := hl.e8
 refine Yes.mono (Q' := fun p : PayPiece => okPiece l p ∧ p.Extras.length ≤ 8) ?_ fun p hp => Yes.some hp
 refine Yes.upto l.Extras.length (by omega) (fun i (p : PayPiece) => p.Weaver = r1 ∧ p.Dense = r2 ∧ p.Picks = r3 ∧ p.Faults = r4 ∧ asc p.Extras ∧ (∀ x ∈ p.Extras, 0 ≤ x ∧ x < (i : Int)) ∧ p.Extras.length ≤ i) ⟨rfl, rfl, rfl, rfl, (fun i hi => absurd hi (by simp)), (fun x hx => by cases hx), by simp⟩ (fun i p k hi hI hk => ?_) (fun p k hI => ?_)
 ·obtain ⟨e1, e2, e3, e4, has, hin, hlen⟩ := hI
  refine Yes.jn (qtake (by simp; omega) (Yes.bind ?_))
  rw [wu64_id (n := (i : Int)) (by omega) (by omega)]
  refine qbind _ (show u8shr c.Extras (i : Int) = some _ by unfold u8shr; rw [if_neg (by omega)]) ?_
  refine Yes.cond (fun _ => ?_) (fun _ => Yes.some (hk _ ⟨e1, e2, e3, e4, has, fun x hx => by have := hin x hx; omega, by omega⟩))
  refine Yes.bind (Yes.apnd (by simp; omega) (by simp; omega) (Yes.some (hk _ ⟨e1, e2, e3, e4, asc_snoc has fun x hx => (hin x hx).2, fun x hx => ?_, by simp; omega⟩)))
  rcases List.mem_append.1 hx with h | h
  ·have := hin x h; omega
  ·rw [List.mem_singleton.1 h]; omega
 ·obtain ⟨e1, e2, e3, e4, has, hin, hlen⟩ := hI
  exact Yes.jn (qskip (by simp) (Yes.some ⟨⟨btw_iff.2 (by omega), btw_iff.2 (by omega), btw_iff.2 (by omega), btw_iff.2 (by omega), hin, has⟩, by omega⟩))
theorem known_ok : f12 = some true := by unfold f12; rfl
end Go.Proofs.YtkmbkaoolacofaaGreat
/- Plain laws: PayWages. -/
set_option maxRecDepth 8000
namespace Go.Proofs.YtkmbkaoolacofaaGreat
open Go.RowKit
open Classical

def pNum (p : PayPiece) : Prop := btw 0 50 p.Weaver = true ∧ btw 0 1000 p.Dense = true ∧ btw 0 1000000 p.Picks = true ∧ btw 0 100 p.Faults = true
def pEx (l : PayList) (p : PayPiece) : Prop := ∀ x ∈ p.Extras, 0 ≤ x ∧ x < (l.Extras.length : Int)
noncomputable def chkP (l : PayList) (p : PayPiece) : Int := if ¬ pNum p then 2 else if ¬ pEx l p then 7 else if ¬ asc p.Extras then 4 else 0
theorem chkP_ok {l : PayList} {p : PayPiece} (h : chkP l p = 0) : okPiece l p := by
 unfold chkP at h
 split at h
 ·cases h
 split at h
 ·cases h
 split at h
 ·cases h
 rename_i h1 h2 h3
 have h1 := Classical.not_not.1 h1
 exact ⟨h1.1, h1.2.1, h1.2.2.1, h1.2.2.2, Classical.not_not.1 h2, Classical.not_not.1 h3⟩
theorem s79g {l : PayList} {p : PayPiece} (h1 : p.Extras.length ≤ 1000) (h2 : l.Extras.length ≤ 1000) : f79 ⟨l⟩ p = some (chkP l p) := by
 refine Yes.eq ?_
 unfold f79
 refine Yes.jn (Yes.bind (Yes.mono (Q' := fun r => r = !decide (pNum p)) ?_ fun r hr => ?_))
 ·simp only [s54_one, Option.bind_some]
  unfold pNum
  cases h3 : btw 0 50 p.Weaver <;> cases h4 : btw 0 1000 p.Dense <;> cases h5 : btw 0 1000000 p.Picks <;> cases h6 : btw 0 100 p.Faults <;> simp <;> exact Yes.some rfl
 ·subst hr
  unfold chkP
  refine Yes.cond (fun h => Yes.some ?_) (fun h => ?_)
  ·have : ¬ pNum p := by simpa using h
   rw [if_pos this]
  have hn : pNum p := by simpa using h
  rw [if_neg (by simpa using hn)]
  dsimp only
  rw [qw64 (n := (l.Extras.length : Int) - 1) (by omega) (by omega), s54 _ _ _ (by omega)]
  refine Yes.bind (Yes.some (Yes.cond (fun h => Yes.some ?_) (fun h => ?_)))
  ·have : ¬ pEx l p := fun he => by
    have hall : p.Extras.all (btw 0 ((l.Extras.length : Int) - 1)) = true := List.all_eq_true.2 fun x hx => btw_iff.2 (by have := he x hx; omega)
    rw [hall] at h; cases h
   rw [if_pos this]
  have he : pEx l p := fun x hx => by
   have hall : p.Extras.all (btw 0 ((l.Extras.length : Int) - 1)) = true := by simpa using h
   have := btw_iff.1 (List.all_eq_true.1 hall x hx); omega
  rw [if_neg (by simpa using he)]
  refine qbind _ (s102g (by omega)) (Yes.cond (fun h => Yes.some ?_) (fun h => Yes.some ?_))
  ·have : ¬ asc p.Extras := by simpa using h
   rw [if_pos this]
  ·have : asc p.Extras := by simpa using h
   rw [if_neg (by simpa using this)]
noncomputable def errW (l : PayList) (p : PayPiece) : Int := if chkL l ≠ 0 then chkL l else chkP l p
theorem s55g {l : PayList} {p : PayPiece} (h1 : p.Extras.length ≤ 1000) (h2 : l.Extras.length ≤ 1000) (h3 : l.Rates.length ≤ 1000) : f55 l p = some (⟨l⟩, errW l p) := by
 refine Yes.eq ?_
 unfold f55 errW
 refine Yes.jn (qbind _ (s15 l h3 h2) (Yes.cond (fun h => Yes.some ?_) (fun h => qbind _ (s79g h1 h2) (Yes.some ?_))))
 ·rw [if_pos (by simpa using h)]
 ·rw [if_neg (by simpa using h)]
end Go.Proofs.YtkmbkaoolacofaaGreat
