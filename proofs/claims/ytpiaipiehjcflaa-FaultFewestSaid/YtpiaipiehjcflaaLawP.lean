/- Plain laws: looms and damages in bytes; cloths. -/
import Derived.Test.YtpiaipiehjcflaaLooks
set_option maxRecDepth 8000
namespace Go.Proofs.Ytpiaipiehjcflaa
open Go.RowKit

theorem s44 (l : FaultLoom) (h1 : l.Harness.Warps.length ≤ 1000000) (h2 : l.Design.Rows.length ≤ 1000000) : f44 l = some l := by
  refine Yes.eq ?_
  unfold f44
  exact Yes.bind (Yes.apnd (by simp; omega) (by simp; omega) (Yes.bind (Yes.apnd (by simp; omega) (by simp; omega) (Yes.some (by simp)))))
theorem vidx {α : Type} {n : Nat} {v : Vector α n} {i : Int} {j : Nat} (hi : i = j) (hj : j < n) {β : Type} {K : α → Option β} {Q : β → Prop} (h : Yes (K v[j]) Q) : Yes ((idx v.toList i).bind K) Q :=
  Yes.bind (Yes.idx hi (by simpa using hj) (by simpa using h))
theorem u8rem_is {a b : UInt8} (hb : b ≠ 0) {β : Type} {K : UInt8 → Option β} {Q : β → Prop} (h : Yes (K (a % b)) Q) : Yes ((u8rem a b).bind K) Q := by
  refine Yes.bind ⟨a % b, ?_, h⟩
  unfold u8rem
  rw [if_neg hb]
theorem kind_is (a : UInt8) : ∃ k : Nat, (((1 : UInt8) + a % 5).toNat : Int) = (k : Int) ∧ 1 ≤ k ∧ k ≤ 5 := by
  refine ⟨_, rfl, ?_⟩
  have h : (a % 5).toNat = a.toNat % 5 := by simp
  rw [UInt8.toNat_add, h]
  have : a.toNat % 5 < 5 := Nat.mod_lt _ (by decide)
  simp
  omega
theorem s72 {l : FaultLoom} (g : Good l) (v : Vector UInt8 4) : Yes (f72 l v) fun d => dmg l d = true := by
  have h1 := g.h1
  have r0 := g.r0
  have w0 := g.w0
  unfold f72
  refine vidx (j := 0) rfl (by decide) (u8rem_is (by decide) ?_)
  obtain ⟨k, hk, hk1, hk5⟩ := kind_is v[0]
  rw [hk]
  obtain ⟨H, hH⟩ : ∃ H : Nat, l.Design.Hooks = (H : Int) := ⟨l.Design.Hooks.toNat, by omega⟩
  rw [hH]
  have hHp : 0 < H := by omega
  have m1 : ∀ a : Nat, a % l.Design.Rows.length < l.Design.Rows.length := fun a => Nat.mod_lt _ r0
  have m2 : ∀ a : Nat, a % H < H := fun a => Nat.mod_lt _ hHp
  have m3 : ∀ a : Nat, a % l.Harness.Warps.length < l.Harness.Warps.length := fun a => Nat.mod_lt _ w0
  refine Yes.bind (Yes.cond (fun hc => ?_) (fun hc => Yes.cond (fun hc2 => ?_) (fun hc2 => Yes.cond (fun hc5 => ?_) (fun hc5 => ?_))))
  · have hc : k = 1 := by simp at hc; omega
    subst hc
    refine vidx (j := 1) rfl (by decide) (Yes.bind (Yes.of (rem_nat r0) (vidx (j := 2) rfl (by decide) (Yes.bind (Yes.of (rem_nat hHp) (Yes.some (Yes.some ?_)))))))
    have a1 := m1 v[1].toNat
    have a2 := m2 v[2].toNat
    generalize v[1].toNat % l.Design.Rows.length = x at *
    generalize v[2].toNat % H = y at *
    simp [dmg, btw, hH]; omega
  · have hc : k = 2 := by simp at hc2; omega
    subst hc
    refine vidx (j := 2) rfl (by decide) (Yes.bind (Yes.of (rem_nat hHp) (vidx (j := 3) rfl (by decide) (u8rem_is (by decide) (Yes.some (Yes.some ?_))))))
    have a2 := m2 v[2].toNat
    generalize v[2].toNat % H = y at *
    simp [dmg, btw, hH]; omega
  · have hc : k = 5 := by simp at hc5; omega
    subst hc
    refine vidx (j := 3) rfl (by decide) (Yes.bind (Yes.of (rem_nat w0) (Yes.some (Yes.some ?_))))
    have a3 := m3 v[3].toNat
    generalize v[3].toNat % l.Harness.Warps.length = y at *
    simp [dmg, btw]; omega
  · have hc : k = 3 ∨ k = 4 := by simp at hc hc2 hc5; omega
    refine vidx (j := 1) rfl (by decide) (Yes.bind (Yes.of (rem_nat r0) (Yes.some (Yes.some ?_))))
    have a1 := m1 v[1].toNat
    generalize v[1].toNat % l.Design.Rows.length = x at *
    rcases hc with rfl | rfl <;> (simp [dmg, btw]; omega)
theorem s43 {l : FaultLoom} (g : Good l) (x : Mill) {n : Int} (h1 : 1 ≤ n) (hn : n ≤ 1000) : Yes (f43 x l n) fun ds => (1 ≤ ds.length ∧ (ds.length : Int) ≤ n) ∧ ∀ d ∈ ds, dmg l d = true := by
  unfold f43
  refine Yes.bind (Yes.lp (fun s => ∃ i : Nat, s.2 = i ∧ (i : Int) ≤ n ∧ s.1.length = i ∧ ∀ d ∈ s.1, dmg l d = true) (fun s => (n - s.2).toNat) ⟨0, rfl, by omega, rfl, fun d hd => by cases hd⟩ (by simp only; omega) ?_)
  rintro ⟨ds, j⟩ k ⟨i, hi, hle, hlen, hall⟩ hk
  simp only at hi hlen hall hk
  subst hi
  have hgo : (i = 0 ∨ i < x.Damages.length ∧ (i : Int) < n) → Yes (Option.bind (α := List FaultDamage) (Option.bind (α := Vector UInt8 4) (bif decide ((i : Int) < (x.Damages.length : Int)) then (idx x.Damages (i : Int)).bind fun y157 => some y157 else some (⟨List.toArray [0, 0, 0, 0], rfl⟩ : Vector UInt8 4)) fun m9_161 => (f72 l m9_161).bind fun y165 => (apnd 40 ds [y165]).bind fun y168 => some y168) fun s7_169 => k (s7_169, w64 ((i : Int) + 1))) (fun b => Yes (some b) fun ds => (1 ≤ ds.length ∧ (ds.length : Int) ≤ n) ∧ ∀ d ∈ ds, dmg l d = true) := fun hi => by
    have hin : (i : Int) < n := by omega
    have hv : ∀ v : Vector UInt8 4, Yes ((f72 l v).bind fun y165 => (apnd 40 ds [y165]).bind fun y168 => some y168) fun s7_169 => Yes (k (s7_169, w64 ((i : Int) + 1))) fun b => Yes (some b) fun ds => (1 ≤ ds.length ∧ (ds.length : Int) ≤ n) ∧ ∀ d ∈ ds, dmg l d = true := fun v => by
      refine Yes.bind ((s72 g v).mono fun d hd => Yes.bind (Yes.apnd (by simp; omega) (by simp; omega) (Yes.some ?_)))
      rw [w64_id (by omega) (by omega)]
      refine hk _ ⟨i + 1, by simp, by omega, by simp [hlen], fun d' hd' => ?_⟩ (by simp only; omega)
      rcases List.mem_append.1 hd' with h | h
      · exact hall d' h
      · rw [List.mem_singleton.1 h]; exact hd
    refine Yes.bind (Yes.bind (Yes.cond (fun hlt => Yes.bind (Yes.idx rfl (by simpa using hlt) (Yes.some (hv _)))) (fun _ => Yes.some (hv _))))
  refine Yes.jn (Yes.bind (Yes.cond (fun h0 => Yes.some (Yes.cond (fun _ => hgo (.inl (by simpa using h0))) (fun h => nomatch h))) (fun h0 => Yes.cond (fun hlt => Yes.some (Yes.cond (fun hn2 => hgo (.inr ⟨by simpa using hlt, by simpa using hn2⟩)) (fun hn2 => ?_))) (fun hlt => Yes.some (Yes.cond (fun h => nomatch h) (fun _ => ?_))))))
  · exact Yes.some (Yes.some ⟨⟨by simp at h0; omega, by omega⟩, hall⟩)
  · exact Yes.some (Yes.some ⟨⟨by simp at h0; omega, by omega⟩, hall⟩)
theorem s42 (x : Mill) : Yes (f42 x) fun l => Good l ∧ l.Design.Hooks ≤ 8 ∧ l.Harness.Warps.length ≤ 20 ∧ l.Design.Rows.length ≤ 8 := by
  unfold f42
  refine Yes.bind (Yes.of (rem_nat (by decide : 0 < 8)) ?_)
  have hlt : x.Hooks.toNat % 8 < 8 := Nat.mod_lt _ (by decide)
  generalize x.Hooks.toNat % 8 = h at *
  rw [w64_id (n := 1 + (h : Int)) (by omega) (by omega)]
  refine Yes.bind (Yes.mono (Q' := fun l => l.Harness.Hooks = 1 + (h : Int) ∧ l.Design.Hooks = 1 + (h : Int) ∧ l.Design.Rows = [] ∧ 1 ≤ l.Harness.Warps.length ∧ l.Harness.Warps.length ≤ 20 ∧ ∀ w ∈ l.Harness.Warps, 0 ≤ w ∧ w < 1 + (h : Int)) ?_ fun l hl => ?_)
  · refine Yes.lp (fun s => ∃ i : Nat, s.2 = i ∧ i ≤ 20 ∧ s.1.Harness.Hooks = 1 + (h : Int) ∧ s.1.Design.Hooks = 1 + (h : Int) ∧ s.1.Design.Rows = [] ∧ s.1.Harness.Warps.length = i ∧ ∀ w ∈ s.1.Harness.Warps, 0 ≤ w ∧ w < 1 + (h : Int)) (fun s => 20 - s.2.toNat)
      ⟨0, rfl, by decide, rfl, rfl, rfl, rfl, fun w hw => by cases hw⟩ (by simp only; omega) ?_
    rintro ⟨l, j⟩ k ⟨i, hi, hle, e1, e2, e3, e4, e5⟩ hk
    simp only at hi e1 e2 e3 e4 e5 hk
    subst hi
    have hgo : (i = 0 ∨ i < x.Warps.length ∧ i < 20) → ∀ v : Int, 0 ≤ v ∧ v < 1 + (h : Int) → Yes ((apnd 8 l.Harness.Warps [v]).bind fun y168 => some { l with Harness := { l.Harness with Warps := y168 } }) fun m => Yes (k (m, w64 ((i : Int) + 1))) (fun l => l.Harness.Hooks = 1 + (h : Int) ∧ l.Design.Hooks = 1 + (h : Int) ∧ l.Design.Rows = [] ∧ 1 ≤ l.Harness.Warps.length ∧ l.Harness.Warps.length ≤ 20 ∧ ∀ w ∈ l.Harness.Warps, 0 ≤ w ∧ w < 1 + (h : Int)) := fun hi v hv => by
      refine Yes.bind (Yes.apnd (by simp; omega) (by simp; omega) (Yes.some ?_))
      rw [w64_id (by omega) (by omega)]
      refine hk _ ⟨i + 1, by simp, by omega, e1, e2, e3, by simp [e4], fun w hw => ?_⟩ (by simp only; omega)
      rcases List.mem_append.1 hw with h | h
      · exact e5 w h
      · rw [List.mem_singleton.1 h]; exact hv
    have hbody : (i = 0 ∨ i < x.Warps.length ∧ i < 20) → Yes (Option.bind (α := FaultLoom) (Option.bind (α := Int) (bif decide ((i : Int) < (x.Warps.length : Int)) then (idx x.Warps (i : Int)).bind fun y158 => (rem64 (y158.toNat : Int) (1 + (h : Int))).bind fun y161 => some y161 else some (0 : Int)) fun s6 => (apnd 8 l.Harness.Warps [s6]).bind fun y168 => some { l with Harness := { l.Harness with Warps := y168 } }) fun m => k (m, w64 ((i : Int) + 1))) (fun l => l.Harness.Hooks = 1 + (h : Int) ∧ l.Design.Hooks = 1 + (h : Int) ∧ l.Design.Rows = [] ∧ 1 ≤ l.Harness.Warps.length ∧ l.Harness.Warps.length ≤ 20 ∧ ∀ w ∈ l.Harness.Warps, 0 ≤ w ∧ w < 1 + (h : Int)) := fun hi => by
      refine Yes.bind (Yes.bind (Yes.cond (fun hlt => Yes.bind (Yes.idx rfl (by simpa using hlt) ?_)) (fun _ => Yes.some (hgo hi 0 (by omega)))))
      rw [show (1 + (h : Int)) = ((1 + h : Nat) : Int) by omega]
      refine Yes.bind (Yes.of (rem_nat (by omega)) (Yes.some ?_))
      refine hgo hi _ ?_
      have hm : (x.Warps[i]'(by simpa using hlt)).toNat % (1 + h) < 1 + h := Nat.mod_lt _ (by omega)
      omega
    refine Yes.jn (Yes.bind (Yes.cond (fun h0 => Yes.some (Yes.cond (fun _ => hbody (.inl (by simpa using h0))) (fun h => nomatch h))) (fun h0 => Yes.cond (fun hlt => Yes.some (Yes.cond (fun hn2 => hbody (.inr ⟨by simpa using hlt, by simp at hn2; omega⟩)) (fun hn2 => ?_))) (fun hlt => Yes.some (Yes.cond (fun h => nomatch h) (fun _ => ?_))))))
    · exact Yes.some ⟨e1, e2, e3, by simp at h0; omega, by omega, e5⟩
    · exact Yes.some ⟨e1, e2, e3, by simp at h0; omega, by omega, e5⟩
  obtain ⟨e1, e2, e3, e4, e4', e5⟩ := hl
  have hsh : shl64 1 (wu64 (1 + (h : Int))) = some (2 ^ (1 + h)) := by
    rw [wu64_id (by omega) (by omega), shl_one (by omega) (by omega)]
    congr 2
  have hp : (2 : Nat) ^ (1 + h) ≤ 2 ^ 8 := Nat.pow_le_pow_right (by decide) (by omega)
  have hp1 : 1 ≤ (2 : Nat) ^ (1 + h) := Nat.one_le_two_pow
  have hpi : ((2 : Int) ^ (1 + h)) = ((2 ^ (1 + h) : Nat) : Int) := by simp
  refine Yes.bind (Yes.mono (Q' := fun m => m.Harness = l.Harness ∧ m.Design.Hooks = 1 + (h : Int) ∧ 1 ≤ m.Design.Rows.length ∧ m.Design.Rows.length ≤ 8 ∧ ∀ r ∈ m.Design.Rows, 0 ≤ r ∧ r < 2 ^ (1 + h)) ?_ fun m hm => Yes.some ?_)
  · refine Yes.lp (fun s => ∃ i : Nat, s.2 = i ∧ i ≤ 8 ∧ s.1.Harness = l.Harness ∧ s.1.Design.Hooks = 1 + (h : Int) ∧ s.1.Design.Rows.length = i ∧ ∀ r ∈ s.1.Design.Rows, 0 ≤ r ∧ r < 2 ^ (1 + h)) (fun s => 8 - s.2.toNat)
      ⟨0, rfl, by decide, rfl, e2, by rw [e3]; rfl, fun w hw => by rw [e3] at hw; cases hw⟩ (by simp only; omega) ?_
    rintro ⟨m, j⟩ k ⟨i, hi, hle, a1, a2, a4, a5⟩ hk
    simp only at hi a1 a2 a4 a5 hk
    subst hi
    have hgo : (i = 0 ∨ i < x.Rows.length ∧ i < 8) → ∀ v : Nat, v < 65536 → Yes ((shl64 (1 : Int) (wu64 (1 + (h : Int)))).bind fun y324 => (apnd 8 m.Design.Rows [bit64 .and (v : Int) (w64 (y324 - (1 : Int)))]).bind fun y327 => some { m with Design := { m.Design with Rows := y327 } }) fun m => Yes (k (m, w64 ((i : Int) + 1))) (fun m => m.Harness = l.Harness ∧ m.Design.Hooks = 1 + (h : Int) ∧ 1 ≤ m.Design.Rows.length ∧ m.Design.Rows.length ≤ 8 ∧ ∀ r ∈ m.Design.Rows, 0 ≤ r ∧ r < 2 ^ (1 + h)) := fun hi v hv => by
      refine Yes.bind (Yes.of hsh (Yes.bind (Yes.apnd (by simp; omega) (by simp; omega) (Yes.some ?_))))
      rw [w64_id (n := (i : Int) + 1) (by omega) (by omega)]
      refine hk _ ⟨i + 1, by simp, by omega, a1, a2, by simp [a4], fun r hr => ?_⟩ (by simp only; omega)
      rcases List.mem_append.1 hr with h' | h'
      · exact a5 r h'
      · rw [List.mem_singleton.1 h', hpi, w64_id (by omega) (by omega), show (((2 ^ (1 + h) : Nat) : Int) - 1) = ((2 ^ (1 + h) - 1 : Nat) : Int) by omega]
        have v62 : v < 2 ^ 62 := by rw [pow62]; omega
        have q62 : 2 ^ (1 + h) - 1 < 2 ^ 62 := by rw [pow62]; omega
        rw [and64 v62 q62]
        have : v &&& (2 ^ (1 + h) - 1) ≤ 2 ^ (1 + h) - 1 := Nat.and_le_right
        omega
    have hbody : (i = 0 ∨ i < x.Rows.length ∧ i < 8) → Yes (Option.bind (α := FaultLoom) (Option.bind (α := Int) (bif decide ((i : Int) < (x.Rows.length : Int)) then (idx x.Rows (i : Int)).bind fun y317 => some ((y317.toNat : Int)) else some (21 : Int)) fun s8 => (shl64 (1 : Int) (wu64 (1 + (h : Int)))).bind fun y324 => (apnd 8 m.Design.Rows [bit64 .and s8 (w64 (y324 - (1 : Int)))]).bind fun y327 => some { m with Design := { m.Design with Rows := y327 } }) fun m => k (m, w64 ((i : Int) + 1))) (fun m => m.Harness = l.Harness ∧ m.Design.Hooks = 1 + (h : Int) ∧ 1 ≤ m.Design.Rows.length ∧ m.Design.Rows.length ≤ 8 ∧ ∀ r ∈ m.Design.Rows, 0 ≤ r ∧ r < 2 ^ (1 + h)) := fun hi => by
      refine Yes.bind (Yes.bind (Yes.cond (fun hlt => Yes.bind (Yes.idx rfl (by simpa using hlt) (Yes.some (hgo hi _ ?_)))) (fun _ => Yes.some (hgo hi 21 (by decide)))))
      exact (x.Rows[i]'(by simpa using hlt)).toNat_lt
    refine Yes.jn (Yes.bind (Yes.cond (fun h0 => Yes.some (Yes.cond (fun _ => hbody (.inl (by simpa using h0))) (fun h => nomatch h))) (fun h0 => Yes.cond (fun hlt => Yes.some (Yes.cond (fun hn2 => hbody (.inr ⟨by simpa using hlt, by simp at hn2; omega⟩)) (fun hn2 => ?_))) (fun hlt => Yes.some (Yes.cond (fun h => nomatch h) (fun _ => ?_))))))
    · exact Yes.some ⟨a1, a2, by simp at h0; omega, by omega, a5⟩
    · exact Yes.some ⟨a1, a2, by simp at h0; omega, by omega, a5⟩
  obtain ⟨b1, b2, b3, b3', b4⟩ := hm
  refine ⟨⟨by omega, by omega, by rw [b1, e1, b2], by rw [b1]; omega, by rw [b1]; omega, by omega, by omega, fun w hw => ?_, fun r hr => ?_⟩, by omega, by rw [b1]; omega, b3'⟩
  · rw [b1] at hw; rw [b2]; exact e5 w hw
  · rw [b2, show (1 + (h : Int)).toNat = 1 + h by omega]; exact b4 r hr
/-- Picks of a cloth. -/
def cthN (l : FaultLoom) (ds : List FaultDamage) (k : Nat) : List Str := clothOf k l.Harness.Warps.length fun p w => rc l ds (p % l.Design.Rows.length) w
theorem s19 {l : FaultLoom} {ds ds' : List FaultDamage} {k : Int} (hs : f78 ds (fun a0 a1 => f79 a0 a1) = some ds') (hl' : ds'.length ≤ 100000) (hall : ∀ d ∈ ds', dmg l d = true) (ho : openE l ds k = 0) : f19 l ds k = some (cthN l ds' k.toNat, 0) := by
  have hc : chkE l ds = 0 := by
    unfold openE at ho
    split at ho
    · rename_i h1; exact absurd ho h1
    · rename_i h1; exact Decidable.not_not.1 h1
  have hk : 1 ≤ k ∧ k ≤ 120 := by
    unfold openE at ho
    rw [if_neg (fun hh => hh hc)] at ho
    split at ho
    · rename_i hb; simpa [btw] using hb
    · cases ho
  obtain ⟨g, hlen, hd⟩ := chk_good hc
  refine Yes.eq ?_
  unfold f19
  refine Yes.jn (Yes.bind (Yes.of (s54 l ds k) (Yes.cond (fun h => absurd (by simpa using h) (by rw [ho]; simp)) (fun _ => Yes.bind (Yes.of (s55 g hs (by omega) hl' hall) (Yes.bind ?_))))))
  rw [rnd_is]
  have hr0 := g.r0
  have hr1 := g.r1
  obtain ⟨kn, rfl⟩ := Int.eq_ofNat_of_zero_le (show 0 ≤ k by omega)
  rw [Int.toNat_natCast, cloth_len]
  refine Yes.upto kn (by omega) (fun i r => r = cthN l ds' i) rfl (fun i r k2 hi hI hk2 => ?_) (fun r k2 hI => ?_)
  · subst hI
    have hlt : i % l.Design.Rows.length < l.Design.Rows.length := Nat.mod_lt _ hr0
    refine Yes.cond (fun _ => Yes.bind (Yes.bind (Yes.of (rem_nat hr0) (Yes.bind (Yes.idx rfl (by rw [cloth_len]; exact hlt) ?_))))) (fun h => absurd h (by simp; omega))
    rw [cloth_at]
    refine Yes.bind (Yes.apnd (by unfold cthN; rw [cloth_len]; simp; omega) (by unfold cthN; rw [cloth_len]; simp; omega) (Yes.some (hk2 _ ?_)))
    unfold cthN clothOf
    rw [List.range_succ, List.map_append]; rfl
  · subst hI
    exact Yes.cond (fun h => absurd h (by simp)) (fun _ => Yes.some (Yes.some rfl))
theorem mark_two (b : Bool) : (mark b != (120 : UInt8)) = !b ∧ (mark b != (46 : UInt8)) = b := by cases b <;> exact ⟨rfl, rfl⟩
theorem s45 {l : FaultLoom} {ds ds' : List FaultDamage} {k : Int} (hs : f78 ds (fun a0 a1 => f79 a0 a1) = some ds') (hl : ds.length ≤ 100000) (hl' : ds'.length ≤ 100000) (hall : ∀ d ∈ ds', dmg l d = true) (ho : openE l ds k = 0) (g : Good l) (hk : 1 ≤ k ∧ k ≤ 120) : f45 l k ds = some (cthN l ds' k.toNat, true) := by
  have hw1 := g.w1
  have hr1 := g.r1
  refine Yes.eq ?_
  unfold f45
  refine Yes.bind (Yes.of (s44 l (by omega) (by omega)) (Yes.bind (Yes.of (s17 ds (by omega)) (Yes.bind (Yes.of (s19 hs hl' hall ho) ?_)))))
  obtain ⟨kn, rfl⟩ := Int.eq_ofNat_of_zero_le (show 0 ≤ k by omega)
  rw [Int.toNat_natCast]
  have hcl : (cthN l ds' kn).length = kn := by unfold cthN; rw [cloth_len]
  have hca : ∀ i (hi : i < (cthN l ds' kn).length), (cthN l ds' kn)[i] = line l.Harness.Warps.length fun w => rc l ds' (i % l.Design.Rows.length) w := fun i hi => cloth_at (n := kn) (m := l.Harness.Warps.length) (c := fun p w => rc l ds' (p % l.Design.Rows.length) w) hi
  refine Yes.jn (Yes.bind (Yes.cond (fun h => nomatch h) (fun _ => Yes.some (Yes.cond (fun h => absurd h (by rw [hcl]; simp)) (fun _ => Yes.jn ?_)))))
  refine Yes.upto0 kn (by omega) (fun _ => True) trivial (fun i k1 hi _ hk1 => ?_) (fun k1 _ => ?_)
  · refine Yes.jn (Yes.cond (fun _ => Yes.jn (Yes.jn (Yes.bind (Yes.idx rfl (show i < (cthN l ds' kn).length by omega) ?_)))) (fun h => absurd h (by simp; omega)))
    rw [hca, line_len]
    refine Yes.cond (fun h => absurd h (by simp)) (fun _ => ?_)
    refine Yes.upto0 l.Harness.Warps.length (by omega) (fun _ => True) trivial (fun j k2 hj _ hk2 => ?_) (fun k2 _ => ?_)
    · refine Yes.jn (Yes.bind (Yes.idx rfl (show i < (cthN l ds' kn).length by omega) ?_))
      rw [hca, line_len]
      refine Yes.cond (fun _ => Yes.jn (Yes.bind (Yes.bind (Yes.idx rfl (show i < (cthN l ds' kn).length by omega) ?_)))) (fun h => absurd h (by simp; omega))
      rw [hca]
      refine Yes.bind (Yes.idx rfl (by rw [line_len]; exact hj) ?_)
      rw [line_at, (mark_two _).1]
      refine Yes.cond (fun hb => Yes.bind (Yes.idx rfl (show i < (cthN l ds' kn).length by omega) ?_)) (fun hb => Yes.some (Yes.cond (fun h => nomatch h) (fun _ => hk2 trivial)))
      rw [hca]
      refine Yes.bind (Yes.idx rfl (by rw [line_len]; exact hj) ?_)
      rw [line_at, (mark_two _).2]
      have hb : rc l ds' (i % l.Design.Rows.length) j = false := by simpa using hb
      exact Yes.some (Yes.cond (fun h => absurd h (by rw [hb]; decide)) (fun _ => hk2 trivial))
    · refine Yes.jn (Yes.bind (Yes.idx rfl (show i < (cthN l ds' kn).length by omega) ?_))
      rw [hca, line_len]
      exact Yes.cond (fun h => absurd h (by simp)) (fun _ => hk1 trivial)
  · exact Yes.jn (Yes.cond (fun h => absurd h (by simp)) (fun _ => Yes.some rfl))
theorem open_ok {l : FaultLoom} {ds : List FaultDamage} {k : Int} (hc : chkE l ds = 0) (h1 : 1 ≤ k) (h2 : k ≤ 120) : openE l ds k = 0 := by
  unfold openE; rw [if_neg (fun hh => hh hc), if_pos (by simp [btw]; omega)]
theorem chk_ok {l : FaultLoom} {ds : List FaultDamage} (g : loomE l = 0) (hl : ds.length ≤ 100) (hd : ∀ d ∈ ds, dmg l d = true) : chkE l ds = 0 := by
  unfold chkE; rw [if_neg (fun hh => hh g), if_neg (by omega), if_pos (List.all_eq_true.2 hd)]
theorem loom_ok {l : FaultLoom} (g : Good l) : loomE l = 0 := by
  unfold loomE
  rw [tieE_good g, if_neg (fun hh => hh rfl)]
  have := desE_tb g (tab_good g)
  have e : (⟨l.Design.Hooks, l.Design.Rows⟩ : Design) = l.Design := rfl
  rw [e] at this
  rw [this, if_neg (fun hh => hh rfl), if_neg (fun hh => hh g.hh)]
theorem s45_one {l : FaultLoom} (g : Good l) {d : FaultDamage} (hd : dmg l d = true) {k : Int} (h1 : 1 ≤ k) (h2 : k ≤ 120) : f45 l k [d] = some (cthN l [d] k.toNat, true) :=
  have hx : ∀ x ∈ [d], dmg l x = true := fun x hx => by rw [List.mem_singleton.1 hx]; exact hd
  s45 (s78_one d) (by simp) (by simp) hx (open_ok (chk_ok (loom_ok g) (by simp) hx) h1 h2) g ⟨h1, h2⟩
end Go.Proofs.Ytpiaipiehjcflaa
