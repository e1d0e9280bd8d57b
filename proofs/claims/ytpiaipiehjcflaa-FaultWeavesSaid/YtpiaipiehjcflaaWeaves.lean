/- FaultWeaves as a plain function: it returns true. -/
import Derived.Test.YtpiaipiehjcflaaSortD
import Derived.Test.YtpiaipiehjcflaaLawQ
import Derived.Test.YtpiaipiehjcflaaCans
set_option maxRecDepth 8000
namespace Go.Proofs.Ytpiaipiehjcflaa
open Go.RowKit

def kd (d : FaultDamage) : Int := trn d.Kind
theorem srt_split {α : Type} {key : α → Int} : ∀ {ys : List α}, Srt key ys → (∀ y, 0 ≤ key y ∧ key y ≤ 2) → ys = ys.filter (fun x => key x == 0) ++ ys.filter (fun x => key x == 1) ++ ys.filter (fun x => key x == 2)
  | [], _, _ => rfl
  | y :: ys, h, hr => by
    obtain ⟨h1, h2⟩ := List.pairwise_cons.1 h
    have ih := srt_split h2 hr
    have none : ∀ v : Int, v < key y → ys.filter (fun x => key x == v) = [] := fun v hv => List.filter_eq_nil_iff.2 fun x hx hk => by
      have := h1 x hx
      simp at hk; omega
    obtain ⟨a, b⟩ := hr y
    rcases (show key y = 0 ∨ key y = 1 ∨ key y = 2 by omega) with e | e | e
    · simp only [List.filter_cons, e]
      simpa using ih
    · have n0 := none 0 (by omega)
      rw [n0, List.nil_append] at ih
      simp only [List.filter_cons, e, n0]
      simpa using ih
    · have n0 := none 0 (by omega)
      have n1 := none 1 (by omega)
      rw [n0, n1, List.nil_append, List.nil_append] at ih
      simp only [List.filter_cons, e, n0, n1]
      simpa using ih
theorem fold_congr {α β : Type} {f g : β → α → β} : ∀ {ds : List α} {b : β}, (∀ d ∈ ds, ∀ b, f b d = g b d) → ds.foldl f b = ds.foldl g b
  | [], _, _ => rfl
  | d :: ds, b, h => by
    rw [List.foldl_cons, List.foldl_cons, h d (List.mem_cons_self ..)]
    exact fold_congr fun e he => h e (List.mem_cons_of_mem _ he)
theorem after_is (l : FaultLoom) : ∀ (ds : List FaultDamage) (s : (Nat → Nat → Bool) × (Nat → Bool)), ds.foldl (fun s d => (actT l d s.1, actB d s.2)) s = (ds.foldl (fun t d => actT l d t) s.1, ds.foldl (fun B d => actB d B) s.2)
  | [], _ => rfl
  | d :: ds, s => by rw [List.foldl_cons, after_is l ds]; rfl
theorem trn_is (k : Int) : (trn k = 0 ∧ k ≠ 2 ∧ k ≠ 5) ∨ (trn k = 1 ∧ k = 2) ∨ (trn k = 2 ∧ k = 5) := by
  unfold trn
  by_cases h2 : k = 2
  · exact .inr (.inl ⟨if_pos h2, h2⟩)
  · by_cases h5 : k = 5
    · exact .inr (.inr ⟨by rw [if_neg h2, if_pos h5], h5⟩)
    · exact .inl ⟨by rw [if_neg h2, if_neg h5], h2, h5⟩
/-- The cards first. -/
theorem fold0 (l : FaultLoom) (ds : List FaultDamage) (t : Nat → Nat → Bool) : (ds.filter fun x => kd x == 0).foldl (fun t d => actT l d t) t = ds.foldl (fun t d => actC l d t) t := by
  rw [List.foldl_filter]
  refine fold_congr fun d _ t => ?_
  unfold kd actT actC
  rcases trn_is d.Kind with ⟨e, h2, h5⟩ | ⟨e, h⟩ | ⟨e, h⟩
  · simp [e, h2]
  · rw [e]; simp [h]
  · rw [e]; simp [h]
/-- Then the needles. -/
theorem fold1 (l : FaultLoom) (p k : Nat) : ∀ (ds : List FaultDamage) (t : Nat → Nat → Bool), (∀ d ∈ ds, d.Kind = 2 → 0 ≤ d.Hook) → ((ds.filter fun x => kd x == 1).foldl (fun t d => actT l d t) t) p k = ndl ds k (t p k)
  | [], _, _ => rfl
  | d :: ds, t, h => by
    have ih := fun t => fold1 l p k ds t fun e he => h e (List.mem_cons_of_mem _ he)
    unfold ndl at ih ⊢
    rw [List.foldl_cons]
    rcases trn_is d.Kind with ⟨e, h2, _⟩ | ⟨e, h2⟩ | ⟨e, h5⟩
    · rw [List.filter_cons_of_neg (by simp [kd, e]), ih, if_neg (fun hh => h2 hh.1)]
    · rw [List.filter_cons_of_pos (by simp [kd, e]), List.foldl_cons, ih]
      have h0 := h d (List.mem_cons_self ..) h2
      have e2 : actT l d t p k = if d.Kind = 2 ∧ d.Hook = (k : Int) then d.Up else t p k := by
        unfold actT act2
        rw [if_neg (by omega), if_pos h2]
        by_cases hk : d.Hook = (k : Int)
        · rw [if_pos (show k = d.Hook.toNat by omega), if_pos (show d.Kind = 2 ∧ d.Hook = (k : Int) from ⟨h2, hk⟩)]
        · rw [if_neg (show ¬ k = d.Hook.toNat by omega), if_neg (show ¬ (d.Kind = 2 ∧ d.Hook = (k : Int)) from fun hh => hk hh.2)]
      rw [e2]
    · rw [List.filter_cons_of_neg (by simp [kd, e]), ih, if_neg (fun hh => by have := hh.1; omega)]
/-- Broken warps are no cards. -/
theorem fold2 (l : FaultLoom) (ds : List FaultDamage) (t : Nat → Nat → Bool) : (ds.filter fun x => kd x == 2).foldl (fun t d => actT l d t) t = t := by
  rw [List.foldl_filter]
  have : ds.foldl (fun t d => if (kd d == 2) = true then actT l d t else t) t = ds.foldl (fun t _ => t) t := fold_congr fun d _ t => by
    unfold kd actT
    rcases trn_is d.Kind with ⟨e, h2, h5⟩ | ⟨e, h⟩ | ⟨e, h⟩
    · simp [e]
    · simp [e]
    · simp [h]
  rw [this]
  clear this
  induction ds with
  | nil => rfl
  | cons d ds ih => exact ih
def brk (ds : List FaultDamage) (w : Nat) : Bool := ds.any fun d => decide (d.Kind = 5 ∧ d.Warp = (w : Int))
theorem foldB (w : Nat) : ∀ (ds : List FaultDamage) (B : Nat → Bool), (∀ d ∈ ds, d.Kind = 5 → 0 ≤ d.Warp) → (ds.foldl (fun B d => actB d B) B) w = (B w || brk ds w)
  | [], _, _ => by simp [brk]
  | d :: ds, B, h => by
    have ih := foldB w ds (actB d B) fun e he => h e (List.mem_cons_of_mem _ he)
    rw [List.foldl_cons, ih]
    unfold brk
    rw [List.any_cons]
    unfold actB
    by_cases h5 : d.Kind = 5
    · have h0 := h d (List.mem_cons_self ..) h5
      rw [if_pos h5]
      have : decide (w = d.Warp.toNat) = decide (d.Kind = 5 ∧ d.Warp = (w : Int)) := by
        rw [Bool.eq_iff_iff]; simp; omega
      rw [← this, Bool.or_comm (decide _) (B w), Bool.or_assoc]
    · rw [if_neg h5]
      have : decide (d.Kind = 5 ∧ d.Warp = (w : Int)) = false := by simp [h5]
      rw [this, Bool.false_or]
theorem thr_is (w : Nat) : ∀ (ds : List FaultDamage) (b : Bool), thr ds w b = (b && !brk ds w)
  | [], _ => by simp [brk, thr]
  | d :: ds, b => by
    have ih := thr_is w ds
    unfold thr at ih ⊢
    rw [List.foldl_cons, ih]
    unfold brk
    rw [List.any_cons]
    by_cases h : d.Kind = 5 ∧ d.Warp = (w : Int)
    · rw [if_pos h]; simp [h]
    · rw [if_neg h]
      have : decide (d.Kind = 5 ∧ d.Warp = (w : Int)) = false := decide_eq_false h
      rw [this, Bool.false_or]
/-- The sorted damages make the document's cloth. -/
theorem sorted_same {l : FaultLoom} {ds ds' : List FaultDamage} (hst : Stab kd ds ds') (hsr : Srt kd ds') (hd : ∀ d ∈ ds, dmg l d = true) : rc l ds' = rcl l ds := by
  funext p w
  have hd' : ∀ d ∈ ds', dmg l d = true := fun d h => hd d (hst.mem h)
  have hH : ∀ d ∈ ds, d.Kind = 2 → 0 ≤ d.Hook := fun d h k => by
    rcases dmg_is (hd d h) with ⟨e, _⟩ | ⟨_, e, _⟩ | ⟨e | e, _⟩ | ⟨e, _⟩ <;> omega
  have hW : ∀ d ∈ ds', d.Kind = 5 → 0 ≤ d.Warp := fun d h k => by
    rcases dmg_is (hd' d h) with ⟨e, _⟩ | ⟨e, _⟩ | ⟨e | e, _⟩ | ⟨_, e, _⟩ <;> omega
  have hbrk : brk ds' w = brk ds w := by
    rw [Bool.eq_iff_iff]
    unfold brk
    rw [List.any_eq_true, List.any_eq_true]
    exact ⟨fun ⟨d, h1, h2⟩ => ⟨d, hst.mem h1, h2⟩, fun ⟨d, h1, h2⟩ => ⟨d, Stab.mem (fun v => (hst v).symm) h1, h2⟩⟩
  unfold rc rcl after
  rw [after_is, thr_is]
  dsimp only
  rw [foldB w ds' _ hW, hbrk, Bool.false_or]
  congr 1
  rw [srt_split hsr fun y => by have := trn_is y.Kind; unfold kd; omega]
  rw [List.foldl_append, List.foldl_append, ← hst 0, ← hst 1, ← hst 2, fold0, fold2, fold1 l p (hk l w) ds _ hH]
  rfl
theorem nil_rc (l : FaultLoom) : rcl l [] = rc l [] := (sorted_same (Stab.refl []) List.Pairwise.nil fun d h => by cases h).symm
theorem s3 (l : FaultLoom) (ds : List FaultDamage) (k : Int) : f3 l ds k = some true := by
  refine Yes.eq ?_
  unfold f3
  refine Yes.jn (Yes.bind (Yes.bind (Yes.of (s14 l) (Yes.cond (fun h => Yes.some (Yes.cond (fun _ => Yes.bind (Yes.of known_ok (Yes.some rfl))) (fun h => nomatch h))) (fun h => Yes.some (Yes.cond (fun _ => Yes.bind (Yes.of known_ok (Yes.some rfl))) (fun h2 => ?_)))))))
  obtain ⟨hw, hr⟩ : l.Harness.Warps.length ≤ 110 ∧ l.Design.Rows.length ≤ 70 := by simp at h; omega
  have hds : ds.length ≤ 110 := by simp at h2; omega
  refine Yes.bind (Yes.of (s16 l (by omega) (by omega)) (Yes.bind (Yes.of (s17 ds (by omega)) (Yes.bind (Yes.of (s18 l ds) ?_)))))
  have tail : ∀ {a : List Str × Int} {b : List FaultSight × Int}, f19 l ds k = some a → f20 l ds k = some b →
      ((openE l ds k ≠ 0 ∧ a = ([], openE l ds k) ∧ b = ([], openE l ds k)) ∨ (openE l ds k = 0 ∧ ∃ ds', Stab kd ds ds' ∧ Srt kd ds' ∧ a = (cthN l ds' k.toNat, 0) ∧ b = (wrs (fun p w => rc l ds' (p % l.Design.Rows.length) w) (pl k.toNat l.Harness.Warps.length fun p w => rc l ds' (p % l.Design.Rows.length) w != rc l [] (p % l.Design.Rows.length) w), 0))) →
      Yes ((f19 l ds k).bind fun y40 => (f20 l ds k).bind fun y43 =>
        jn (σ := Unit) (fun (_ : Unit) => (f23 l ds).bind fun y80 =>
          jn (σ := Unit) (fun (_ : Unit) =>
            Option.bind (α := Int) (Option.bind (α := Bool) (bif (y80 == (0 : Int)) then (f24 k ((1 : Int)) ((120 : Int))).bind fun y98 => some ((!y98)) else some (false)) fun s68 => bif s68 then some ((3 : Int)) else some (y80)) fun s14 =>
            jn (σ := Unit) (fun (_ : Unit) =>
              (f26 l ds).bind fun y130 => (f25 y130 k).bind fun y132 => (f26 l ([])).bind fun y135 => (f25 y135 k).bind fun y137 =>
              Option.bind (α := Bool) (bif (y40.2 == (0 : Int)) then (f27 (y40.1) y132).bind fun y171 => bif y171 then bif (y43.2 == (0 : Int)) then (f29 y132 y137).bind fun y175 => (f28 (y43.1) y175).bind fun y177 => bif y177 then (f15).bind fun y180 => some (y180) else some (false) else some (false) else some (false) else some (false)) fun s6 => some (s6)) fun k114 =>
            bif (s14 != (0 : Int)) then Option.bind (α := Bool) (bif (y40.2 == s14) then bif (y43.2 == s14) then bif ((w64 (((y40.1).length : Int) + ((y43.1).length : Int))) == (0 : Int)) then (f15).bind fun y125 => some (y125) else some (false) else some (false) else some (false)) fun s6 => some (s6) else k114 ()) fun k82 =>
          bif (chkE l ds != y80) then some (false) else k82 ()) fun k60 =>
        Option.bind (α := Bool) ((f21 l l).bind fun y71 => bif (!y71) then some (true) else (f22 ds ds).bind fun y74 => some ((!y74))) fun s55 => bif s55 then some (false) else k60 ()) fun r => r = true := by
    intro a b ha hb hcase
    refine Yes.bind (Yes.of ha (Yes.bind (Yes.of hb (Yes.jn (Yes.bind (Yes.bind (Yes.of (s21 l l (by omega) (by omega)) (Yes.cond (fun h => absurd h (by simp)) (fun _ => Yes.bind (Yes.of (s22 ds ds (by omega)) (Yes.some (Yes.cond (fun h => absurd h (by simp)) (fun _ => ?_)))))))))))))
    refine Yes.bind (Yes.of (s23 l ds) (Yes.jn (Yes.cond (fun h => absurd h (by simp)) (fun _ => Yes.bind (Yes.mono (Q' := fun r => r = openE l ds k) (Yes.bind ?_) ?_)))))
    · refine Yes.cond (fun h0 => Yes.bind (Yes.of (s24 k 1 120) (Yes.some (Yes.cond (fun hn => Yes.some ?_) (fun hn => Yes.some ?_))))) (fun h0 => Yes.some (Yes.cond (fun h => nomatch h) (fun _ => Yes.some ?_)))
      · have h0 : chkE l ds = 0 := by simpa using h0
        have hn : ¬ (1 ≤ k ∧ k ≤ 120) := fun hb => by rw [decide_eq_true hb] at hn; cases hn
        unfold openE btw
        rw [if_neg (fun hh => hh h0), decide_eq_false hn]; rfl
      · have h0 : chkE l ds = 0 := by simpa using h0
        have hn : 1 ≤ k ∧ k ≤ 120 := Decidable.byContradiction fun hb => by rw [decide_eq_false hb] at hn; cases hn
        unfold openE btw
        rw [if_neg (fun hh => hh h0), decide_eq_true hn, h0]; rfl
      · have h0 : chkE l ds ≠ 0 := by simpa using h0
        unfold openE
        rw [if_pos h0]
    rintro _ rfl
    rcases hcase with ⟨hne, rfl, rfl⟩ | ⟨h0, ds', hst, hsr, rfl, rfl⟩
    · refine Yes.jn (Yes.cond (fun _ => Yes.bind (Yes.cond (fun _ => Yes.cond (fun _ => Yes.cond (fun _ => Yes.bind (Yes.of known_ok (Yes.some (Yes.some rfl)))) (fun h => nomatch h)) (fun h => absurd h (by simp))) (fun h => absurd h (by simp)))) (fun h => absurd (by simpa using h) hne))
    · have hc : chkE l ds = 0 := by
        unfold openE at h0
        split at h0
        · rename_i h1; exact absurd h0 h1
        · rename_i h1; exact Decidable.not_not.1 h1
      have hk : 1 ≤ k ∧ k ≤ 120 := by
        unfold openE at h0
        rw [if_neg (fun hh => hh hc)] at h0
        split at h0
        · rename_i hb; simpa [btw] using hb
        · cases h0
      obtain ⟨g, hlen, hd⟩ := chk_good hc
      have hr0 := g.r0
      refine Yes.jn (Yes.cond (fun h => absurd h (by rw [h0]; simp)) (fun _ => ?_))
      have e1 := sorted_same hst hsr hd
      refine Yes.bind (Yes.of (s26 g (by omega) hd) (Yes.bind ?_))
      refine Yes.of (s25 hr0 (rcl l ds) (by omega) (by omega)) (Yes.bind (Yes.of (s26 g (by simp) (fun x hx => by cases hx)) (Yes.bind ?_)))
      refine Yes.of (s25 hr0 (rcl l []) (by omega) (by omega)) (Yes.bind ?_)
      rw [← e1, nil_rc]
      have hk1 : k.toNat ≤ 120 := by omega
      refine Yes.cond (fun _ => Yes.bind (Yes.of (s27 _ _ (by unfold cthN clothOf; simp; omega)) (Yes.cond (fun _ => Yes.cond (fun _ => Yes.bind (Yes.of (s29 (by omega) (by omega) _ _) (Yes.bind ?_))) (fun h => nomatch h)) (fun h => absurd h (by simp [cthN]))))) (fun h => nomatch h)
      have hlp : (pl k.toNat l.Harness.Warps.length fun p w => rc l ds' (p % l.Design.Rows.length) w != rc l [] (p % l.Design.Rows.length) w).length < 9223372036854775807 := by
        have := plFrom_len (fun p w => rc l ds' (p % l.Design.Rows.length) w != rc l [] (p % l.Design.Rows.length) w) k.toNat l.Harness.Warps.length k.toNat
        have h3 : k.toNat * l.Harness.Warps.length ≤ 120 * 110 := Nat.mul_le_mul hk1 hw
        unfold pl
        omega
      exact Yes.of (s28 _ _ (by simpa [wrs] using hlp)) (Yes.cond (fun _ => Yes.bind (Yes.of known_ok (Yes.some (Yes.some rfl)))) (fun h => absurd h (by simp)))
  by_cases ho : openE l ds k = 0
  · have hc : chkE l ds = 0 := by
      unfold openE at ho
      split at ho
      · rename_i h1; exact absurd ho h1
      · rename_i h1; exact Decidable.not_not.1 h1
    have hk : 1 ≤ k ∧ k ≤ 120 := by
      unfold openE at ho
      rw [if_neg (fun hh => hh hc)] at ho
      split at ho
      · rename_i hb; simpa [btw] using hb
      · cases ho
    obtain ⟨g, hlen, hd⟩ := chk_good hc
    obtain ⟨ds', hs, hst, hsr⟩ := s78 (key := kd) (φ := fun a0 a1 => f79 a0 a1) (fun x y => s79 x y) (xs := ds) (by omega)
    have hl' : ds'.length ≤ 100 := by have := hst.len (Nat.le_refl _); omega
    have hd' : ∀ d ∈ ds', dmg l d = true := fun d h => hd d (hst.mem h)
    have ho0 : openE l [] k = 0 := open_ok (chk_ok (loom_ok g) (by simp) fun d h => by cases h) hk.1 hk.2
    obtain ⟨kn, rfl⟩ := Int.eq_ofNat_of_zero_le (show 0 ≤ k by omega)
    exact tail (s19 hs (by omega) hd' ho) (s20 hs (by omega) hd' ho ho0 g (by omega)) (.inr ⟨ho, ds', hst, hsr, rfl, rfl⟩)
  · have h19 : f19 l ds k = some ([], openE l ds k) := by
      refine Yes.eq ?_
      unfold f19
      exact Yes.jn (Yes.bind (Yes.of (s54 l ds k) (Yes.cond (fun _ => Yes.some rfl) (fun h => absurd (by simpa using h) ho))))
    have h20 : f20 l ds k = some ([], openE l ds k) := by
      refine Yes.eq ?_
      unfold f20
      exact Yes.bind (Yes.of h19 (Yes.jn (Yes.cond (fun _ => Yes.some rfl) (fun h => absurd (by simpa using h) ho))))
    exact tail h19 h20 (.inl ⟨ho, rfl, rfl⟩)
end Go.Proofs.Ytpiaipiehjcflaa
