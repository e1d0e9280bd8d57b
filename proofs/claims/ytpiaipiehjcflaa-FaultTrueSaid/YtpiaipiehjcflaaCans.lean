/- FaultCans as a plain function: it returns true. -/
import Derived.Test.YtpiaipiehjcflaaAlls
set_option maxRecDepth 8000
namespace Go.Proofs.Ytpiaipiehjcflaa
open Go.RowKit

def okS (l : FaultLoom) (s : FaultSight) : Bool := btw 0 119 s.Pick && btw 0 ((l.Harness.Warps.length : Int) - 1) s.Warp
def seenE (l : FaultLoom) (ss : List FaultSight) : Int := if loomE l ≠ 0 then loomE l else if ss.length > 60 then 5 else if ss.all (okS l) then 0 else 2
/-- Is a cloth as it was seen? -/
def fitB (n : Nat) (c : Nat → Nat → Bool) (ss : List FaultSight) : Bool := ss.all fun s => c (s.Pick.toNat % n) s.Warp.toNat == s.Lifted
theorem s63 (xs : List FaultSight) (φ : FaultSight → Option Bool) (p : FaultSight → Bool) (hl : xs.length < 9223372036854775807) (h : ∀ a ∈ xs, φ a = some (p a)) : f63 xs φ = some (xs.any p) :=
  Yes.eq (Yes.bind (Yes.mono (index_is xs φ p hl h) fun _ hr => Yes.some (index_any hr)))
theorem any_not' {α : Type} (xs : List α) (p : α → Bool) : (!(xs.any fun x => !p x)) = xs.all p := by induction xs <;> simp_all
theorem okS_is {l : FaultLoom} {s : FaultSight} (h : okS l s = true) : 0 ≤ s.Pick ∧ s.Pick ≤ 119 ∧ 0 ≤ s.Warp ∧ s.Warp < l.Harness.Warps.length := by
  unfold okS btw at h; simp at h; omega
theorem at_seen {n m : Nat} {c : Nat → Nat → Bool} (hn : 0 < n) {s : FaultSight} {α : Type} {Q : α → Prop} {K : UInt8 → Option α} (h1 : 0 ≤ s.Pick) (h2 : 0 ≤ s.Warp ∧ s.Warp < m) (hk : Yes (K (mark (c (s.Pick.toNat % n) s.Warp.toNat))) Q) :
    Yes ((rem64 s.Pick ((clothOf n m c).length : Int)).bind fun y => (idx (clothOf n m c) y).bind fun z => (idx z.b s.Warp).bind K) Q := by
  have e1 : rem64 s.Pick ((clothOf n m c).length : Int) = some ((s.Pick.toNat % n : Nat) : Int) := by
    rw [cloth_len, show s.Pick = ((s.Pick.toNat : Nat) : Int) by omega]
    exact rem_nat hn
  have hlt : s.Pick.toNat % n < n := Nat.mod_lt _ hn
  refine Yes.bind (Yes.of e1 (Yes.bind (Yes.idx rfl (by rw [cloth_len]; exact hlt) ?_)))
  rw [cloth_at]
  refine Yes.bind (Yes.idx (n := s.Warp.toNat) (by omega) (by rw [line_len]; omega) ?_)
  rw [line_at]
  exact hk
theorem s91 {n m : Nat} {c : Nat → Nat → Bool} (hn : 0 < n) {s : FaultSight} (h1 : 0 ≤ s.Pick) (h2 : 0 ≤ s.Warp ∧ s.Warp < m) : f91 s (clothOf n m c) = some (!(c (s.Pick.toNat % n) s.Warp.toNat == s.Lifted)) := by
  refine Yes.eq ?_
  unfold f91
  refine at_seen hn h1 h2 (Yes.some ?_)
  rw [mark_x]
theorem s65 {l : FaultLoom} (g : Good l) (c : Nat → Nat → Bool) {ss : List FaultSight} (hl : ss.length < 1000) (hall : ∀ s ∈ ss, okS l s = true) :
    f65 (clothOf l.Design.Rows.length l.Harness.Warps.length c) ss = some (fitB l.Design.Rows.length c ss) := by
  refine Yes.eq ?_
  unfold f65
  refine Yes.bind (Yes.of (s63 ss _ (fun s => !(c (s.Pick.toNat % l.Design.Rows.length) s.Warp.toNat == s.Lifted)) (by omega) fun s hs => ?_) (Yes.some ?_))
  · have := okS_is (hall s hs)
    exact s91 g.r0 (by omega) (by omega)
  · rw [any_not']; rfl
theorem s61 {l : FaultLoom} (hw : l.Harness.Warps.length ≤ 1000) (s : FaultSight) : f61 s l = some (!okS l s) := by
  refine Yes.eq ?_
  unfold f61
  rw [w64_id (n := (l.Harness.Warps.length : Int) - 1) (by omega) (by omega)]
  refine Yes.bind (Yes.bind (Yes.of (s62 0 119 [s.Pick] (by simp)) (Yes.cond (fun h => Yes.some (Yes.some ?_)) (fun h => Yes.bind (Yes.of (s62 0 _ [s.Warp] (by simp)) (Yes.some (Yes.some ?_)))))))
  · simp only [List.all_cons, List.all_nil, Bool.and_true, ← btw.eq_1] at h
    have h : btw 0 119 s.Pick = false := by simpa using h
    simp [okS, h]
  · simp only [List.all_cons, List.all_nil, Bool.and_true, ← btw.eq_1] at h ⊢
    have h : btw 0 119 s.Pick = true := by simpa using h
    simp [okS, h]
def cans (l : FaultLoom) (ss : List FaultSight) : List FaultDamage := (shows l).filter fun d => fitB l.Design.Rows.length (rc l [d]) ss
theorem flat_if {α β γ : Type} (g : α → β) (p : γ → Bool) (h : α → γ) (xs : List α) (u : α → γ × β) (hu : ∀ x, u x = (h x, g x)) : (xs.map u).flatMap (fun q => if p q.1 then [q.1] else []) = (xs.map h).filter p := by
  induction xs with
  | nil => rfl
  | cons x xs ih => rw [List.map_cons, List.flatMap_cons, ih, List.map_cons, hu]; cases hp : p (h x) <;> simp [hp]
theorem s32 (l : FaultLoom) (ss : List FaultSight) : f32 l ss = some (if seenE l ss = 0 then (cans l ss, fitB l.Design.Rows.length (rc l []) ss, 0) else ([], false, seenE l ss)) := by
  refine Yes.eq ?_
  unfold f32
  refine Yes.jn (Yes.bind (Yes.of (s50 l) (Yes.cond (fun h => Yes.some ?_) (fun h => Yes.cond (fun h2 => Yes.some ?_) (fun h2 => ?_)))))
  · have h : loomE l ≠ 0 := by simpa using h
    have : seenE l ss = loomE l := by unfold seenE; rw [if_pos h]
    rw [this, if_neg h]
  all_goals have h : loomE l = 0 := by simpa using h
  · have h2 : ss.length > 60 := by simp at h2; omega
    have : seenE l ss = 5 := by unfold seenE; rw [if_neg (fun hh => hh h), if_pos h2]
    rw [this]; rfl
  have h2 : ¬ ss.length > 60 := by simp at h2; omega
  have g := good_of h
  have hw1 := g.w1
  have hr0 := g.r0
  refine Yes.bind (Yes.of (s63 ss (fun a0 => f61 a0 l) (fun s => !okS l s) (by omega) fun s _ => s61 (by omega) s) (Yes.cond (fun h3 => Yes.some ?_) (fun h3 => ?_)))
  · have : ss.all (okS l) = false := by rw [← any_not' ss (okS l), h3]; rfl
    have : seenE l ss = 2 := by unfold seenE; rw [if_neg (fun hh => hh h), if_neg h2, this]; rfl
    rw [this]; rfl
  have h3 : ss.all (okS l) = true := by rw [← any_not' ss (okS l), h3]; rfl
  have he : seenE l ss = 0 := by unfold seenE; rw [if_neg (fun hh => hh h), if_neg h2, h3]; rfl
  have hok := List.all_eq_true.1 h3
  rw [if_pos he]
  refine Yes.jn (Yes.bind (Yes.bind ?_))
  have hl := shows_len g
  have hf := feed_app (cons := fun m4_92 (q : FaultDamage × List Str) => (f65 q.2 ss).bind fun y98 => bif y98 then (apnd 40 m4_92 (([q.1] : List FaultDamage))).bind fun y104 => some (true, (y104)) else some (true, (m4_92)))
    (fun q => if fitB l.Design.Rows.length (rc l [q.1]) ss then [q.1] else []) 3000 ((shows l).map fun d => (d, rnd l [d])) [] (fun q _ => by split <;> simp) (by simp; omega) (fun m x hx hm => by
      obtain ⟨d, _, rfl⟩ := List.mem_map.1 hx
      simp only
      rw [rnd_is, s65 g (rc l [d]) (by omega) hok]
      simp only [Option.bind_some]
      cases hb : fitB l.Design.Rows.length (rc l [d]) ss with
      | true =>
        have : apnd 40 m [d] = some (m ++ [d]) := Yes.eq (Yes.apnd (by simp; omega) (by simp; omega) rfl)
        simp only [this, cond_true, Option.bind_some, if_true]
      | false => simp)
  refine Yes.of (s64 g hf) (Yes.some (Yes.bind (Yes.of (s55_nil g) ?_)))
  rw [rnd_is]
  refine Yes.bind (Yes.of (s65 g (rc l []) (by omega) hok) (Yes.some ?_))
  have := flat_if (fun d => rnd l [d]) (fun d => fitB l.Design.Rows.length (rc l [d]) ss) (fun d : FaultDamage => d) (shows l) (fun d => (d, rnd l [d])) (fun _ => rfl)
  rw [List.nil_append, this, List.map_id']
  rfl
theorem s31 (ss : List FaultSight) (h : ss.length ≤ 1000000) : f31 ss = some ss := Yes.eq (Yes.bind (Yes.apnd (by simp; omega) (by simp; omega) (Yes.some (by simp))))
end Go.Proofs.Ytpiaipiehjcflaa
