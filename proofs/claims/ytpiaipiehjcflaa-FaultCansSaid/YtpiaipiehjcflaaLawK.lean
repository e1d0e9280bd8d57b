/- Plain laws: the reference's All. -/
import Derived.Test.YtpiaipiehjcflaaLawJ
set_option maxRecDepth 8000
namespace Go.Proofs.Ytpiaipiehjcflaa
open Go.RowKit

theorem only0 {α : Type} {f : Nat → List α} : ∀ {n : Nat}, 0 < n → (∀ i, 0 < i → i < n → f i = []) → (List.range n).flatMap f = f 0
  | 1, _, _ => by simp
  | n + 2, _, h => by rw [List.range_succ, List.flatMap_append, only0 (Nat.succ_pos n) (fun i h1 h2 => h i h1 (by omega))]; simp [h (n + 1) (by omega)]
theorem flatMap_congr' {α β : Type} {f g : α → List β} {xs : List α} (h : ∀ x ∈ xs, f x = g x) : xs.flatMap f = xs.flatMap g := by
  induction xs with
  | nil => rfl
  | cons x xs ih => rw [List.flatMap_cons, List.flatMap_cons, h x List.mem_cons_self, ih fun y hy => h y (List.mem_cons_of_mem _ hy)]
theorem flatMap_if {α β : Type} (f : α → β) (p : β → Bool) (xs : List α) : (xs.flatMap fun x => if p (f x) then [f x] else []) = (xs.map f).filter p := by
  induction xs with
  | nil => rfl
  | cons x xs ih => rw [List.flatMap_cons, ih, List.map_cons]; cases h : p (f x) <;> simp [h]
theorem filter_flatMap {α β : Type} (f : α → List β) (p : β → Bool) (xs : List α) : (xs.flatMap f).filter p = xs.flatMap fun x => (f x).filter p := by
  induction xs with
  | nil => rfl
  | cons x xs ih => rw [List.flatMap_cons, List.filter_append, ih, List.flatMap_cons]
/-- What the reference finds at one place of its loops. -/
def rAt (l : FaultLoom) (k p h w u : Nat) : List FaultDamage := if dmg l ⟨(k : Int), (p : Int), (h : Int), (w : Int), (u : Int) == 1⟩ && sh l ⟨(k : Int), (p : Int), (h : Int), (w : Int), (u : Int) == 1⟩ then [⟨(k : Int), (p : Int), (h : Int), (w : Int), (u : Int) == 1⟩] else []
def rW (l : FaultLoom) (k p h w : Nat) : List FaultDamage := rAt l k p h w 0 ++ rAt l k p h w 1
def rH (l : FaultLoom) (k p h : Nat) : List FaultDamage := (List.range l.Harness.Warps.length).flatMap (rW l k p h)
def rP (l : FaultLoom) (k p : Nat) : List FaultDamage := (List.range l.Design.Hooks.toNat).flatMap (rH l k p)
def rK (l : FaultLoom) (k : Nat) : List FaultDamage := (List.range l.Design.Rows.length).flatMap (rP l k)
theorem rAt_no {l : FaultLoom} {k p h w u : Nat} (hd : dmg l ⟨(k : Int), (p : Int), (h : Int), (w : Int), (u : Int) == 1⟩ = false) : rAt l k p h w u = [] := by
  unfold rAt; rw [hd]; rfl
theorem rAt_yes {l : FaultLoom} {k p h w u : Nat} (hd : dmg l ⟨(k : Int), (p : Int), (h : Int), (w : Int), (u : Int) == 1⟩ = true) : rAt l k p h w u = if sh l ⟨(k : Int), (p : Int), (h : Int), (w : Int), (u : Int) == 1⟩ then [⟨(k : Int), (p : Int), (h : Int), (w : Int), (u : Int) == 1⟩] else [] := by
  unfold rAt; rw [hd]; rfl
theorem rW_no {l : FaultLoom} {k p h w : Nat} (hd : ∀ b, dmg l ⟨(k : Int), (p : Int), (h : Int), (w : Int), b⟩ = false) : rW l k p h w = [] := by
  unfold rW; rw [rAt_no (hd _), rAt_no (hd _)]; rfl
theorem rW_down {l : FaultLoom} {k p h w : Nat} (h0 : dmg l ⟨(k : Int), (p : Int), (h : Int), (w : Int), false⟩ = true) (h1 : dmg l ⟨(k : Int), (p : Int), (h : Int), (w : Int), true⟩ = false) :
    rW l k p h w = if sh l ⟨(k : Int), (p : Int), (h : Int), (w : Int), false⟩ then [⟨(k : Int), (p : Int), (h : Int), (w : Int), false⟩] else [] := by
  unfold rW
  rw [rAt_no (u := 1) h1, List.append_nil]
  exact rAt_yes (u := 0) h0
theorem rW_both {l : FaultLoom} {k p h w : Nat} (h0 : dmg l ⟨(k : Int), (p : Int), (h : Int), (w : Int), false⟩ = true) (h1 : dmg l ⟨(k : Int), (p : Int), (h : Int), (w : Int), true⟩ = true) :
    rW l k p h w = [⟨(k : Int), (p : Int), (h : Int), (w : Int), false⟩, ⟨(k : Int), (p : Int), (h : Int), (w : Int), true⟩].filter (sh l) := by
  have e0 := rAt_yes (l := l) (k := k) (p := p) (h := h) (w := w) (u := 0) h0
  have e1 := rAt_yes (l := l) (k := k) (p := p) (h := h) (w := w) (u := 1) h1
  unfold rW
  rw [e0, e1]
  rw [show (((0 : Nat) : Int) == 1) = false from rfl, show (((1 : Nat) : Int) == 1) = true from rfl]
  rw [List.filter_cons, List.filter_cons, List.filter_nil]
  split <;> split <;> rfl
theorem rK1 {l : FaultLoom} (g : Good l) : rK l 1 = (aCard l.Design.Rows.length l.Design.Hooks.toNat).filter (sh l) := by
  have h1 := g.h1
  have w0 := g.w0
  unfold rK aCard
  rw [filter_flatMap]
  refine flatMap_congr' fun p hp => ?_
  have hp := List.mem_range.1 hp
  unfold rP
  rw [← flatMap_if]
  refine flatMap_congr' fun h hh => ?_
  have hh := List.mem_range.1 hh
  unfold rH
  rw [only0 w0 (fun w hw _ => rW_no fun b => by simp [dmg]; omega)]
  exact rW_down (by simp [dmg, btw]; omega) (by simp [dmg])
theorem rK2 {l : FaultLoom} (g : Good l) : rK l 2 = (aNdl l.Design.Hooks.toNat).filter (sh l) := by
  have h1 := g.h1
  have w0 := g.w0
  unfold rK aNdl
  rw [filter_flatMap, only0 g.r0 (fun p hp _ => ?_)]
  · unfold rP
    refine flatMap_congr' fun h hh => ?_
    have hh := List.mem_range.1 hh
    unfold rH
    rw [only0 w0 (fun w hw _ => rW_no fun b => by simp [dmg]; omega)]
    exact rW_both (by simp [dmg, btw]; omega) (by simp [dmg, btw]; omega)
  · unfold rP
    refine List.flatMap_eq_nil_iff.2 fun h _ => ?_
    unfold rH
    exact List.flatMap_eq_nil_iff.2 fun w _ => rW_no fun b => by simp [dmg]; omega
theorem rK34 {l : FaultLoom} (g : Good l) (k : Nat) (hk : k = 3 ∨ k = 4) : rK l k = (aRow (k : Int) l.Design.Rows.length).filter (sh l) := by
  have h1 := g.h1
  have w0 := g.w0
  unfold rK aRow
  rw [← flatMap_if]
  refine flatMap_congr' fun p hp => ?_
  have hp := List.mem_range.1 hp
  unfold rP
  rw [only0 (by omega) (fun h hh _ => ?_)]
  · unfold rH
    rw [only0 w0 (fun w hw _ => rW_no fun b => by rcases hk with rfl | rfl <;> (simp [dmg]; omega))]
    exact rW_down (by rcases hk with rfl | rfl <;> (simp [dmg, btw]; omega)) (by rcases hk with rfl | rfl <;> simp [dmg])
  · unfold rH
    exact List.flatMap_eq_nil_iff.2 fun w _ => rW_no fun b => by rcases hk with rfl | rfl <;> (simp [dmg]; omega)
theorem rK5 {l : FaultLoom} (g : Good l) : rK l 5 = (aThr l.Harness.Warps.length).filter (sh l) := by
  have h1 := g.h1
  unfold rK aThr
  rw [← flatMap_if, only0 g.r0 (fun p hp _ => ?_)]
  · unfold rP
    rw [only0 (by omega) (fun h hh _ => ?_)]
    · unfold rH
      refine flatMap_congr' fun w hw => ?_
      have hw := List.mem_range.1 hw
      exact rW_down (by simp [dmg, btw]; omega) (by simp [dmg])
    · unfold rH
      exact List.flatMap_eq_nil_iff.2 fun w _ => rW_no fun b => by simp [dmg]; omega
  · unfold rP
    refine List.flatMap_eq_nil_iff.2 fun h _ => ?_
    unfold rH
    exact List.flatMap_eq_nil_iff.2 fun w _ => rW_no fun b => by simp [dmg]; omega
theorem rK_all {l : FaultLoom} (g : Good l) : (List.range 5).flatMap (fun k => rK l (k + 1)) = shows l := by
  have e : (List.range 5) = [0, 1, 2, 3, 4] := rfl
  rw [e]
  simp only [List.flatMap_cons, List.flatMap_nil, List.append_nil, Nat.zero_add, Nat.reduceAdd]
  rw [rK1 g, rK2 g, rK34 g 3 (.inl rfl), rK34 g 4 (.inr rfl), rK5 g]
  unfold shows allDs aDs
  simp only [List.filter_append, List.append_assoc]
  rfl
/-- A loop that appends what it finds. -/
theorem Yes.gather {α β : Type} {Q : β → Prop} (f : Nat → List α) {body : (List α × Int → Option β) → List α × Int → Option β} {s0 : List α} (n : Nat) (hn : n < 9223372036854775807)
    (hb : ∀ (i : Nat) (s : List α) (k : List α × Int → Option β), i < n → s = s0 ++ (List.range i).flatMap f → (Yes (k (s ++ f i, w64 ((i : Int) + 1))) Q) → Yes (body k (s, (i : Int))) Q)
    (he : ∀ (k : List α × Int → Option β), Yes (body k (s0 ++ (List.range n).flatMap f, (n : Int))) Q) : Yes (Go.Proofs.Ytpiaipiehjcflaa.lp body big (s0, 0)) Q := by
  refine Yes.upto n hn (fun i s => s = s0 ++ (List.range i).flatMap f) (by simp) (fun i s k hi hI hk => ?_) (fun s k hI => by subst hI; exact he k)
  refine hb i s k hi hI (hk _ ?_)
  rw [hI, List.range_succ, List.flatMap_append, List.append_assoc]
  simp
/-- A loop from a number on. -/
theorem Yes.uptoA {σ α : Type} {Q : α → Prop} {body : (σ × Int → Option α) → σ × Int → Option α} {s0 : σ} (a n : Nat) (han : a ≤ n) (hn : n < 9223372036854775807) (I : Nat → σ → Prop) (h0 : I a s0)
    (hb : ∀ (i : Nat) (s : σ) (k : σ × Int → Option α), a ≤ i → i < n → I i s → (∀ s', I (i + 1) s' → Yes (k (s', w64 ((i : Int) + 1))) Q) → Yes (body k (s, (i : Int))) Q)
    (he : ∀ (s : σ) (k : σ × Int → Option α), I n s → Yes (body k (s, (n : Int))) Q) : Yes (Go.Proofs.Ytpiaipiehjcflaa.lp body big (s0, (a : Int))) Q := by
  refine Yes.lp (fun s => ∃ i : Nat, s.2 = i ∧ a ≤ i ∧ i ≤ n ∧ I i s.1) (fun s => n - s.2.toNat) ⟨a, rfl, Nat.le_refl _, han, h0⟩ (by simp; omega) ?_
  rintro ⟨s, j⟩ k ⟨i, hi, hge, hle, hI⟩ hk
  simp only at hi hI
  subst hi
  by_cases hlt : i < n
  · refine hb i s k hge hlt hI fun s' hs' => ?_
    rw [w64_id (by omega) (by omega)]
    refine hk _ ⟨i + 1, by simp, by omega, hlt, hs'⟩ ?_
    simp only [Int.toNat_natCast]
    omega
  · obtain rfl : i = n := by omega
    exact he s k hI
theorem len_range {α : Type} {f : Nat → List α} {B : Nat} (h : ∀ i, (f i).length ≤ B) : ∀ n, ((List.range n).flatMap f).length ≤ n * B
  | 0 => by simp
  | n + 1 => by
    rw [List.range_succ, List.flatMap_append, List.length_append, Nat.add_mul]
    have := len_range h n
    have := h n
    simp only [List.flatMap_cons, List.flatMap_nil, List.append_nil]
    omega
theorem rW_len (l : FaultLoom) (k p h w : Nat) : (rW l k p h w).length ≤ 2 := by
  unfold rW rAt
  rw [List.length_append]
  split <;> split <;> simp
theorem rH_len {l : FaultLoom} (g : Good l) (k p h : Nat) : (rH l k p h).length ≤ 200 := Nat.le_trans (len_range (rW_len l k p h) _) (by have := g.w1; omega)
theorem rP_len {l : FaultLoom} (g : Good l) (k p : Nat) : (rP l k p).length ≤ 5000 := Nat.le_trans (len_range (rH_len g k p) _) (by have := g.h24; omega)
theorem rK_len {l : FaultLoom} (g : Good l) (k : Nat) : (rK l k).length ≤ 300000 := Nat.le_trans (len_range (rP_len g k) _) (by have := g.r1; omega)
theorem rW_two (l : FaultLoom) (k p h w : Nat) : (List.range 2).flatMap (rAt l k p h w) = rW l k p h w := by
  rw [show List.range 2 = [0, 1] from rfl]; simp [rW]
theorem s34 {l : FaultLoom} (g : Good l) : f34 l = some (shows l) := by
  have hr1 := g.r1
  have hw1 := g.w1
  have h24 := g.h24
  have h1 := g.h1
  have hH : ((l.Design.Hooks.toNat : Nat) : Int) = l.Design.Hooks := by omega
  refine Yes.eq ?_
  unfold f34
  refine Yes.bind (Yes.of (s26 g (by simp) (fun x hx => by cases hx)) ?_)
  rw [nil_same]
  refine Yes.bind ?_
  refine Yes.uptoA 1 6 (by decide) (by decide) (fun i r => r = (List.range (i - 1)).flatMap (fun k => rK l (k + 1))) (by simp) (fun kk r k hk1 hk6 hI hk' => ?_) (fun r k hI => ?_)
  · subst hI
    have b1 := len_range (f := fun k => rK l (k + 1)) (fun k => rK_len g _) (kk - 1)
    have b1 : ((List.range (kk - 1)).flatMap fun k => rK l (k + 1)).length ≤ 1500000 := Nat.le_trans b1 (by omega)
    refine Yes.jn (Yes.cond (fun _ => Yes.bind ?_) (fun h => absurd h (by simp; omega)))
    refine Yes.gather (rP l kk) l.Design.Rows.length (by omega) (fun p r2 k2 hp hI2 hk2 => ?_) (fun k2 => ?_)
    · have b2 := len_range (rP_len g kk) p
      refine Yes.jn (Yes.cond (fun _ => Yes.bind ?_) (fun h => absurd h (by simp; omega)))
      refine Yes.gather (rH l kk p) l.Design.Hooks.toNat (by omega) (fun h r3 k3 hh hI3 hk3 => ?_) (fun k3 => ?_)
      · have b3 := len_range (rH_len g kk p) h
        refine Yes.jn (Yes.cond (fun _ => Yes.bind ?_) (fun h => absurd h (by simp; omega)))
        refine Yes.gather (rW l kk p h) l.Harness.Warps.length (by omega) (fun w r4 k4 hw hI4 hk4 => ?_) (fun k4 => ?_)
        · have b4 := len_range (rW_len l kk p h) w
          refine Yes.jn (Yes.cond (fun _ => Yes.bind ?_) (fun h => absurd h (by simp; omega)))
          refine Yes.gather (rAt l kk p h w) 2 (by omega) (fun u r5 k5 hu hI5 hk5 => ?_) (fun k5 => ?_)
          · have b5 := len_range (f := rAt l kk p h w) (B := 1) (fun i => by unfold rAt; split <;> simp) u
            have hb : r5.length ≤ 3000000 := by
              rw [hI5, List.length_append, hI4, List.length_append, hI3, List.length_append, hI2, List.length_append]
              omega
            refine Yes.jn (Yes.cond (fun _ => Yes.bind (Yes.bind (Yes.bind (Yes.of (s59 g _) (Yes.cond (fun hd => ?_) (fun hd => Yes.some (Yes.cond (fun h => nomatch h) (fun _ => Yes.some ?_)))))))) (fun h => absurd h (by simp; omega)))
            · refine Yes.bind (Yes.of (s36 g hd) (Yes.bind (Yes.of (s27 _ _ (by rw [rnd_len]; omega)) (Yes.some (Yes.cond (fun hs => Yes.bind (Yes.apnd (by simp; omega) (by simp; omega) (Yes.some ?_))) (fun hs => Yes.some ?_))))))
              · have : rAt l kk p h w u = [⟨(kk : Int), (p : Int), (h : Int), (w : Int), (u : Int) == 1⟩] := by
                  rw [rAt_yes hd]; exact if_pos hs
                rw [this] at hk5
                exact hk5
              · have : rAt l kk p h w u = [] := by
                  rw [rAt_yes hd]
                  exact if_neg (by intro hh; have : sh l ⟨(kk : Int), (p : Int), (h : Int), (w : Int), (u : Int) == 1⟩ = false := hs
                                   rw [this] at hh; cases hh)
                rw [this, List.append_nil] at hk5
                exact hk5
            · rw [rAt_no hd, List.append_nil] at hk5
              exact hk5
          · rw [rW_two]
            exact Yes.jn (Yes.cond (fun h => absurd h (by simp)) (fun _ => Yes.some hk4))
        · exact Yes.jn (Yes.cond (fun h => absurd h (by simp)) (fun _ => Yes.some hk3))
      · rw [hH]
        exact Yes.jn (Yes.cond (fun h => absurd h (by simp)) (fun _ => Yes.some hk2))
    · refine Yes.jn (Yes.cond (fun h => absurd h (by simp)) (fun _ => Yes.some (hk' _ ?_)))
      rw [show kk + 1 - 1 = (kk - 1) + 1 by omega, List.range_succ, List.flatMap_append]
      simp only [List.flatMap_cons, List.flatMap_nil, List.append_nil]
      rw [show kk - 1 + 1 = kk by omega]
      rfl
  · subst hI
    refine Yes.jn (Yes.cond (fun h => absurd h (by simp)) (fun _ => Yes.some (Yes.some ?_)))
    exact rK_all g
end Go.Proofs.Ytpiaipiehjcflaa
