/- A machine of plain data: slices, literals, append, maps, and that the model does the same. No program is named here. -/
import Derived.Test.YtkmbkaoolacofaaRd
namespace Go.Proofs.Ytkmbkaoolacofaa
noncomputable section
open Go.RowKit
section
variable {cx : Cx} {base : Nat} {ρ : Rn} {S S' : St} {w w' : World} {env : AEnv} {e : Env} {xs : List Operand} {P : Program}
/-! ### Slices -/
def oInt (env : AEnv) : Option Operand → Option (Option Int)
 | none => some none
 | some x => match cval env x with
  | some (.int _ i) => some (some i)
  | _ => none
theorem oInt_ok {o : Option Operand} {r : Option Int} (h : oInt env o = some r) (ho : OpsR ρ w env e xs) (hx : ∀ x, o = some x → x ∈ xs) : (o = none ∧ r = none) ∨ ∃ x k i, o = some x ∧ r = some i ∧ ev e x = .int k i := by
 cases o with
 | none => simp only [oInt, Option.some.injEq] at h; exact .inl ⟨rfl, h.symm⟩
 | some x =>
  simp only [oInt] at h
  split at h
  ·rename_i k i hi
   simp only [Option.some.injEq] at h
   exact .inr ⟨x, k, i, rfl, h.symm, cval_ok hi ho (hx x rfl)⟩
  ·cases h
def inB (i : Int) (n : Nat) : Option Nat := bif decide (0 ≤ i) && decide (i ≤ n) then some i.toNat else none
theorem inB_ok {i : Int} {n m : Nat} (h : inB i n = some m) : 0 ≤ i ∧ i ≤ n ∧ m = i.toNat ∧ m ≤ n := by
 unfold inB at h
 cases hd : (decide (0 ≤ i) && decide (i ≤ (n : Int))) with
 | false => rw [hd] at h; cases h
 | true =>
  rw [hd] at h; simp only [cond_true, Option.some.injEq] at h
  simp only [Bool.and_eq_true, decide_eq_true_eq] at hd
  omega
theorem bound_run {k : IntKind} {i : Int} {n n' m : Nat} {code : BoundsCode} (h : inB i n = some m) (hn : n ≤ n') (w : World) : (Instr.sliceBound (.int k i) n' code).run P w = .ok m w := by
 obtain ⟨h1, h2, rfl, _⟩ := inB_ok h
 have h3 : i ≤ (n' : Int) := by omega
 simp [Instr.sliceBound, asIntOf, h1, h3]
def cutM (len : Nat) (cap : Option Nat) : Option Int → Option (Option Nat)
 | none => some cap
 | some i => (inB i (cap.getD len)).map some
def cutH (len : Nat) (m : Option Nat) (mx : Option Int) : Option Int → Option Nat
 | none => bif mx.isNone then some len else none
 | some i => inB i (m.getD len)
def cutL (h : Nat) : Option Int → Option Nat
 | none => some 0
 | some i => inB i h
def cutB (len : Nat) (cap : Option Nat) (lo hi mx : Option Int) : Option (Nat × Nat × Option Nat) :=
 match cutM len cap mx with
 | none => none
 | some m => match cutH len m mx hi with
  | none => none
  | some h => (cutL h lo).map fun l => (l, h, m)
theorem cutB_run {len c : Nat} {cap m : Option Nat} {lo hi mx : Option Int} {l h : Nat} (hb : cutB len cap lo hi mx = some (l, h, m)) (hc : len ≤ c) (hcap : ∀ c0, cap = some c0 → c = c0) {vlo vhi vmx : Option Value} {sl : Bool}
    (h1 : (lo = none ∧ vlo = none) ∨ ∃ k i, lo = some i ∧ vlo = some (.int k i)) (h2 : (hi = none ∧ vhi = none) ∨ ∃ k i, hi = some i ∧ vhi = some (.int k i)) (h3 : (mx = none ∧ vmx = none) ∨ ∃ k i, mx = some i ∧ vmx = some (.int k i)) :
    ∃ m', (∀ w, (Instr.sliceBounds sl len c vlo vhi vmx).run P w = .ok (l, h, m') w) ∧ l ≤ h ∧ h ≤ m' ∧ m' ≤ c ∧ (∀ m0, m = some m0 → m' = m0) ∧ (m = none → h ≤ len ∧ m' = c) := by
  unfold cutB at hb
  split at hb
  · cases hb
  rename_i m1 hm1
  split at hb
  · cases hb
  rename_i h' hh'
  simp only [Option.map_eq_some_iff, Prod.mk.injEq] at hb
  obtain ⟨l', hl', rfl, rfl, rfl⟩ := hb
  have hcd : cap.getD len ≤ c := by
    cases cap with
    | none => exact hc
    | some c0 => have := hcap c0 rfl; simp; omega
  obtain ⟨m', hm', hm0, hmn, hmrun⟩ : ∃ m', m' ≤ c ∧ (∀ m0, m1 = some m0 → m' = m0) ∧ (m1 = none → m' = c) ∧ ∀ w, (match vmx with
      | some v => Instr.sliceBound v c (if sl = true then .slice3Acap else .slice3Alen)
      | none => (pure c : Sem Nat)).run P w = .ok m' w := by
    rcases h3 with ⟨rfl, rfl⟩ | ⟨k, i, rfl, rfl⟩
    · simp only [cutM, Option.some.injEq] at hm1; subst hm1
      exact ⟨c, Nat.le_refl _, hcap, fun _ => rfl, fun w => rfl⟩
    · simp only [cutM, Option.map_eq_some_iff] at hm1
      obtain ⟨a, ha, rfl⟩ := hm1
      have := (inB_ok ha).2.2.2
      exact ⟨a, by omega, fun m0 h => by injection h, (fun h => by cases h), fun w => bound_run ha hcd w⟩
  have hmd : (m1.getD len : Nat) ≤ m' := by
    cases m1 with
    | none => have := hmn rfl; simp; omega
    | some m2 => have := hm0 m2 rfl; simp; omega
  obtain ⟨hhm, hhn, hhrun⟩ : h' ≤ m' ∧ (m1 = none → h' ≤ len) ∧ ∀ w, (match vhi, vmx with
      | some v, some _ => Instr.sliceBound v m' .slice3B
      | some v, none => Instr.sliceBound v m' (if sl = true then .sliceAcap else .sliceAlen)
      | none, none => (pure len : Sem Nat)
      | none, some _ => stuck "Slice: max without high").run P w = .ok h' w := by
    rcases h2 with ⟨rfl, rfl⟩ | ⟨k, i, rfl, rfl⟩
    · rcases h3 with ⟨rfl, rfl⟩ | ⟨k, i, rfl, rfl⟩
      · simp only [cutH, Option.isNone_none, cond_true, Option.some.injEq] at hh'; subst hh'
        refine ⟨?_, fun _ => Nat.le_refl _, fun w => rfl⟩
        simp only [cutM, Option.some.injEq] at hm1; subst hm1
        cases cap with
        | none => have := hmn rfl; omega
        | some c0 => have := hm0 c0 rfl; have := hcap c0 rfl; omega
      · simp [cutH] at hh'
    · simp only [cutH] at hh'
      have h5 := inB_ok hh'
      refine ⟨by omega, fun hn => by subst hn; simpa using h5.2.2.2, fun w => ?_⟩
      rcases h3 with ⟨rfl, rfl⟩ | ⟨k', i', rfl, rfl⟩ <;> exact bound_run hh' hmd w
  obtain ⟨hlh, hlrun⟩ : l' ≤ h' ∧ ∀ w, (match vlo with
      | some v => Instr.sliceBound v h' (if vmx.isSome = true then .slice3C else .sliceB)
      | none => (pure 0 : Sem Nat)).run P w = .ok l' w := by
    rcases h1 with ⟨rfl, rfl⟩ | ⟨k, i, rfl, rfl⟩
    · simp only [cutL, Option.some.injEq] at hl'; subst hl'; exact ⟨Nat.zero_le _, fun w => rfl⟩
    · simp only [cutL] at hl'
      exact ⟨(inB_ok hl').2.2.2, fun w => bound_run hl' (Nat.le_refl _) w⟩
  refine ⟨m', fun w => ?_, hlh, hhm, hm', hm0, fun hn => ⟨hhn hn, hmn hn⟩⟩
  have a1 := hmrun w
  have a2 := hhrun w
  have a3 := hlrun w
  unfold Instr.sliceBounds
  clear hmrun hhrun hlrun h1 h2 h3
  cases vmx <;> cases vhi <;> cases vlo <;> simp only at a1 a2 a3 ⊢ <;> (try simp only [Option.isSome_none, Option.isSome_some, Bool.false_eq_true, if_false, if_true] at a3) <;> (try simp only [Option.isSome_none, Option.isSome_some, Bool.false_eq_true, if_false, if_true]) <;> first
    | (exfalso; simp [stuck] at a2; done)
    | (simp [Sem.run_bind, a1, a2, a3]; done)
    | (simp only [Sem.run_bind, a1, Result.andThen_ok, a2, a3, Sem.run_pure]; done)
    | (simp only [Sem.run_pure, Result.ok.injEq, and_true] at a1 a2 a3; subst a1 a2 a3; simp [Sem.run_bind])
    | (simp only [Sem.run_pure, Result.ok.injEq, and_true] at a2 a3; subst a2 a3; simp [Sem.run_bind, a1])
    | (simp only [Sem.run_pure, Result.ok.injEq, and_true] at a1 a3; subst a1 a3; simp [a2])
    | (simp only [Sem.run_pure, Result.ok.injEq, and_true] at a1 a2; subst a1 a2; simp [a3])
    | (simp only [Sem.run_pure, Result.ok.injEq, and_true] at a1; subst a1; simp [Sem.run_bind, a2, a3])
    | (simp only [Sem.run_pure, Result.ok.injEq, and_true] at a2; subst a2; simp [Sem.run_bind, a1, a3])
    | (simp only [Sem.run_pure, Result.ok.injEq, and_true] at a3; subst a3; simp [Sem.run_bind, a1, a2])
end
end
end Go.Proofs.Ytkmbkaoolacofaa
