/- A machine of plain data: drawing regions, in the world. No program is named here. -/
import Derived.Test.YtkmbkaoolacofaaGreatRu
import Derived.Test.YtkmbkaoolacofaaGreatRo
namespace Go.Proofs.YtkmbkaoolacofaaGreat
noncomputable section
open Go.RowKit
structure WI (cx : Cx) (base : Nat) (ρ0 : Rn) (S0 : St) (w0 : World) (Sm : St) (ρ : Rn) (a : Nat → AV) (h : Nat → Option Blk) (w : World) (e : Env) : Prop where
 blk : ∀ b B, cx.vis b = true → h b = some B → ∃ y, ρ b = some y ∧ BR ρ w B y
 inj : ∀ b b' y y', cx.vis b = true → cx.vis b' = true → h b ≠ none → h b' ≠ none → ρ b = some y → ρ b' = some y' → y.1 = y'.1 → b = b'
 rng : ∀ b y, ρ b = some y → base ≤ y.1 ∧ y.1 < w.heap.size
 base : base ≤ w.heap.size
 env : ∀ t, VR ρ w (a t) (e t)
 le : RnLe ρ0 ρ
 dom : ∀ b, ρ0 b = none → ρ b ≠ none → S0.n ≤ b ∧ b < Sm.n
 gro : Gro w0 w
 frame : ∀ x, x < w0.heap.size → w.heap[x]? = w0.heap[x]? ∨ ∃ b y, ρ b = some y ∧ y.1 = x ∧ (b ∈ Sm.log ∧ b < cx.cut ∨ cx.cut ≤ b ∧ b < Sm.n)
 fresh : ∀ b y, ρ0 b = none → ρ b = some y → w0.heap.size ≤ y.1 ∨ ∃ c z, ρ0 c = some z ∧ z.1 = y.1 ∧ Sm.get c = none ∧ (c ∈ Sm.log ∧ c < cx.cut ∨ cx.cut ≤ c ∧ c < S0.n)
section
variable {P : Program} {tab : Tab} {cx : Cx} {base : Nat} {ρ0 ρ ρ' : Rn} {S0 Sm : St} {w0 w w' : World} {a : Nat → AV} {h : Nat → Option Blk} {e : Env}
variable {run : Cx → Oper → AEnv → St → Option (List XO)} {all : List Oper} {ms : List Nat} {r : Rc}
theorem rc_sim (g : RcGood run cx all S0.n Sm.n r) (hi : WI cx base ρ0 S0 w0 Sm ρ a h w e) {ops : Array Oper} (hok : OkR ops r a h) : Sim r.cx base ρ r.S w := by
 have key : ∀ b, r.cx.vis b = true → r.S.get b ≠ none → cx.vis b = true ∧ h b = r.S.get b := fun b hv hb => by
  have hlt := g.bnd b hb
  have hsee : r.cx.see b = true := by
   unfold Cx.vis at hv
   have : Nat.ble r.cx.cut b = false := by
    cases h5 : Nat.ble r.cx.cut b
    ·rfl
    ·have := Nat.le_of_ble_eq_true h5; rw [g.cut] at this; omega
   rw [this] at hv; simpa using hv
  have hs : r.sees b = true := by
   unfold Rc.sees
   have : Nat.blt b r.S.n = true := Nat.ble_eq_true_of_le hlt
   rw [this, hsee]; rfl
  exact ⟨g.see b hsee, hok.2 b hs⟩
 refine ⟨fun b B hv hb => ?_, fun b b' y y' hv hv' hb hb' h1 h2 h3 => ?_, hi.rng, hi.base, g.bnd, by rw [g.cut]; exact Nat.le_refl _⟩
 ·obtain ⟨k1, k2⟩ := key b hv (by rw [hb]; simp)
  exact hi.blk b B k1 (k2.trans hb)
 ·obtain ⟨k1, k2⟩ := key b hv hb
  obtain ⟨k3, k4⟩ := key b' hv' hb'
  exact hi.inj b b' y y' k1 k3 (by rw [k2]; exact hb) (by rw [k4]; exact hb') h1 h2 h3
theorem wi_step {v : Value} {ops : Array Oper} (hc : cx.cut ≤ S0.n) (hf0 : ∀ b, S0.n ≤ b → b < Sm.n → ρ0 b = none) (g : RcGood run cx all S0.n Sm.n r) (hlog : ∀ b ∈ r.q.S.log, b < cx.cut → b ∈ Sm.log) (hdead : ∀ b, b < r.q.S.n → r.q.S.get b = none → Sm.get b = none)
  (hi : WI cx base ρ0 S0 w0 Sm ρ a h w e) (hok : OkR ops r a h) (hfr : ∀ b, r.S.n ≤ b → b < r.q.S.n → ρ b = none) (ev : Evo r.cx ρ r.S w ρ' r.q.S w') (sm : Sim r.cx base ρ' r.q.S w') (hv : VR ρ' w' r.q.v v) :
  WI cx base ρ0 S0 w0 Sm ρ' (updA a r.o.dst r.q.v) (r.app h) w' (updO e r.o.dst v) := by
 have hcut := g.cut
 have hlo := g.lo
 have hhi := g.hi
 have hqn := g.kp.n
 have logIn : ∀ b ∈ r.q.S.log, b < r.S.n ∧ r.cx.see b = true ∧ h b ≠ none ∧ cx.vis b = true := fun b hb => by
  rcases g.kp.wr b hb with h1 | h1
  ·rw [g.log] at h1; cases h1
  ·rw [hcut] at h1
   refine ⟨h1.1, h1.2.1, ?_, g.see b h1.2.1⟩
   have hs : r.sees b = true := by
    unfold Rc.sees
    have : Nat.blt b r.S.n = true := Nat.ble_eq_true_of_le h1.1
    rw [this, h1.2.1]; rfl
   rw [hok.2 b hs]
   rcases g.kp.live b hb with h2 | h2
   ·rw [g.log] at h2; cases h2
   ·exact h2
 have tchC : ∀ b, r.tch b = true → b ∈ r.q.S.log ∨ (r.S.n ≤ b ∧ b < r.q.S.n) := fun b hb => by
  simp only [Rc.tch, Bool.or_eq_true, Bool.and_eq_true] at hb
  rcases hb with hb | hb
  ·exact .inl (by simpa using hb)
  ·exact .inr ⟨Nat.le_of_ble_eq_true hb.1, Nat.le_of_ble_eq_true hb.2⟩
 have tchL : ∀ b, b ∈ r.q.S.log → r.tch b = true := fun b hb => by
  simp only [Rc.tch, Bool.or_eq_true]; left; simpa using hb
 have tvis : ∀ b, r.tch b = true → r.cx.vis b = true := fun b hb => by
  unfold Cx.vis
  rcases tchC b hb with h1 | h1
  ·rw [(logIn b h1).2.1]; simp
  ·rw [hcut, Nat.ble_eq_true_of_le h1.1]; rfl
 have oldR : ∀ b, cx.vis b = true → h b ≠ none → ∃ y, ρ b = some y := fun b hvb hb => by
  cases hB : h b with
  | none => exact absurd hB hb
  | some B => obtain ⟨y, h1, _⟩ := hi.blk b B hvb hB; exact ⟨y, h1⟩
 have old' : ∀ b y, cx.vis b = true → h b ≠ none → ρ' b = some y → ρ b = some y := fun b y hvb hb h1 => by
  obtain ⟨y0, h2⟩ := oldR b hvb hb
  have := ev.le _ _ h2
  rw [h1] at this; injection this with this; rw [this]; exact h2
 have fresh' : ∀ b y, ρ b = none → ρ' b = some y → w.heap.size ≤ y.1 ∨ ∃ c z, ρ c = some z ∧ z.1 = y.1 ∧ r.q.S.get c = none ∧ c ∈ r.q.S.log := fun b y h1 h2 => by
  rcases ev.fresh b y h1 h2 with h3 | ⟨c, z, h3, h4, h5, h6 | h6⟩
  ·exact .inl h3
  ·exact .inr ⟨c, z, h3, h4, h5, h6.1⟩
  ·rw [hcut] at h6; omega
 have clash : ∀ b y, cx.vis b = true → h b ≠ none → ρ b = some y → ∀ c z, ρ c = some z → z.1 = y.1 → c ∈ r.q.S.log → b ∈ r.q.S.log := fun b y hvb hb h1 c z h2 h3 h4 => by
  obtain ⟨_, _, h5, h6⟩ := logIn c h4
  have := hi.inj b c y z hvb h6 hb h5 h1 h2 h3.symm
  rw [this]; exact h4
 have half : ∀ b b' y y', r.tch b = true → ¬ r.tch b' = true → cx.vis b' = true → h b' ≠ none → ρ' b = some y → ρ' b' = some y' → y.1 = y'.1 → b = b' := fun b b' y y' ht ht' hv' hb' h1 h2 h3 => by
  have h2' := old' b' y' hv' hb' h2
  rcases tchC b ht with h4 | h4
  ·obtain ⟨_, _, h5, h6⟩ := logIn b h4
   exact hi.inj b b' y y' h6 hv' h5 hb' (old' b y h6 h5 h1) h2' h3
  ·rcases fresh' b y (hfr b h4.1 h4.2) h1 with h5 | ⟨c, z, h5, h6, _, h7⟩
   ·have := (hi.rng b' y' h2').2; omega
   ·exact absurd (tchL _ (clash b' y' hv' hb' h2' c z h5 (h6.trans h3) h7)) ht'
 have appT : ∀ b, r.tch b = true → r.app h b = r.q.S.get b := fun b hb => by unfold Rc.app; rw [if_pos hb]
 have appN : ∀ b, ¬ r.tch b = true → r.app h b = h b := fun b hb => by unfold Rc.app; rw [if_neg hb]
 refine ⟨fun b B hvb hb => ?_, fun b b' y y' hvb hvb' hb hb' h1 h2 h3 => ?_, sm.rng, sm.base, fun t => ?_, hi.le.trans ev.le, fun b h1 h2 => ?_, hi.gro.trans ev.gro, fun x hx => ?_, fun b y h1 h2 => ?_⟩
 ·by_cases ht : r.tch b = true
  ·rw [appT b ht] at hb; exact sm.blk b B (tvis b ht) hb
  ·rw [appN b ht] at hb
   obtain ⟨y, hy, hB⟩ := hi.blk b B hvb hb
   have hbn : h b ≠ none := by rw [hb]; simp
   refine ⟨y, ev.le _ _ hy, hB.mono ev.le ev.gro ?_⟩
   rcases ev.frame y.1 hB.lt with h1 | ⟨c, z, hz, hzy, h1 | h1⟩
   ·exact h1
   ·obtain ⟨_, _, h5, h6⟩ := logIn c h1.1
    exact absurd (tchL _ (clash b y hvb hbn hy c z (old' c z h6 h5 hz) hzy h1.1)) ht
   ·rw [hcut] at h1
    rcases fresh' c z (hfr c h1.1 h1.2) hz with h5 | ⟨c', z', h5, h6, _, h7⟩
    ·have := hB.lt; omega
    ·exact absurd (tchL _ (clash b y hvb hbn hy c' z' h5 (h6.trans hzy) h7)) ht
 ·by_cases ht : r.tch b = true <;> by_cases ht' : r.tch b' = true
  ·rw [appT b ht] at hb; rw [appT b' ht'] at hb'
   exact sm.inj b b' y y' (tvis b ht) (tvis b' ht') hb hb' h1 h2 h3
  ·rw [appN b' ht'] at hb'
   exact half b b' y y' ht ht' hvb' hb' h1 h2 h3
  ·rw [appN b ht] at hb
   exact (half b' b y' y ht' ht hvb hb h2 h1 h3.symm).symm
  ·rw [appN b ht] at hb; rw [appN b' ht'] at hb'
   exact hi.inj b b' y y' hvb hvb' hb hb' (old' b y hvb hb h1) (old' b' y' hvb' hb' h2) h3
 ·have hm := VR.mono ev.le ev.gro (hi.env t)
  cases hd : r.o.dst with
  | none => exact hm
  | some d =>
   simp only [updA, updO]
   by_cases htd : t = d
   ·subst htd; rw [if_pos rfl, upd_same]; exact hv
   ·rw [if_neg htd, upd_ne _ _ htd]; exact hm
 ·by_cases h3 : ρ b = none
  ·have := ev.dom b h3 h2; omega
  ·exact hi.dom b h1 h3
 ·have hx' := Nat.lt_of_lt_of_le hx hi.gro.size
  rcases ev.frame x hx' with h1 | ⟨c, z, hz, hzx, h1 | h1⟩
  ·rcases hi.frame x hx with h2 | ⟨b, y, h2, h3, h4⟩
   ·exact .inl (h1.trans h2)
   ·exact .inr ⟨b, y, ev.le _ _ h2, h3, h4⟩
  ·refine .inr ⟨c, z, hz, hzx, ?_⟩
   rcases Nat.lt_or_ge c cx.cut with h2 | h2
   ·exact .inl ⟨hlog c h1.1 h2, h2⟩
   ·right; have := (logIn c h1.1).1; omega
  ·rw [hcut] at h1
   exact .inr ⟨c, z, hz, hzx, .inr (by omega)⟩
 ·cases h3 : ρ b with
  | some y0 =>
   have := ev.le _ _ h3
   rw [h2] at this; injection this with this; subst this
   exact hi.fresh b y h1 h3
  | none =>
   rcases fresh' b y h3 h2 with h4 | ⟨c, z, h4, h5, h6, h7⟩
   ·exact .inl (Nat.le_trans hi.gro.size h4)
   ·have hcn := (logIn c h7).1
    cases h8 : ρ0 c with
    | some z' =>
     have := hi.le _ _ h8
     rw [h4] at this; injection this with this; subst this
     refine .inr ⟨c, z, h8, h5, hdead c (by omega) h6, ?_⟩
     rcases Nat.lt_or_ge c cx.cut with h9 | h9
     ·exact .inl ⟨hlog c h7 h9, h9⟩
     ·right; refine ⟨h9, ?_⟩
      rcases Nat.lt_or_ge c S0.n with h10 | h10
      ·exact h10
      ·have := hf0 c h10 (by omega); rw [h8] at this; cases this
    | none =>
     rcases hi.fresh c z h8 h4 with h9 | ⟨c', z', h9, h10, h11, h12⟩
     ·exact .inl (by omega)
     ·exact .inr ⟨c', z', h9, by omega, h11, h12⟩
theorem want_at {ops : List Oper} {env : AEnv} {e : Env} {o : Oper} {b : Bool} (h : wantB ops env o = some b) (he : ∀ t ∈ o.looksAt ops.toArray, VR ρ w (env.at t) (e t)) : Wants ops.toArray e o.guard b := by
 unfold wantB at h
 split at h
 ·rename_i hg; simp only [Option.some.injEq] at h; subst h; rw [hg]; exact .plain
 ·rename_i j b0 hg
  split at h
  ·cases h
  ·rename_i d hd
   have hd' : (ops.toArray[j]?).bind (·.dst) = some d := by rw [List.getElem?_toArray]; exact hd
   have hv := he d (by unfold Oper.looksAt; rw [List.mem_append]; right; simp only [hg]; simp [hd])
   rw [hg]
   split at h
   ·rename_i b' hb'
    rw [hb'] at hv
    have hv' := (V1.one hv).1
    simp only [Option.some.injEq] at h
    cases b with
    | true =>
     have : b' = b0 := by simpa using h
     subst this; exact .yes hd' hv'
    | false => exact .no hd' hv' h
   ·rename_i hb'
    rw [hb'] at hv
    simp only [Option.some.injEq] at h; subst h
    exact .off hd' hv
   ·cases h
end
end
end Go.Proofs.YtkmbkaoolacofaaGreat
