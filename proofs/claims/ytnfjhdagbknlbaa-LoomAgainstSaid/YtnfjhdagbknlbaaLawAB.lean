/- Plans: what holds, what can be completed, and the smallest plan. -/
import Derived.Test.YtnfjhdagbknlbaaLawAA
import Derived.Test.YtnfjhdagbknlbaaLawQ
set_option maxRecDepth 8000
namespace Go.Proofs.Ytnfjhdagbknlbaa
open Go.RowKit
open Classical

def pg (p : List LoomRun) (i : Nat) : Option LoomRun := p[i]?
def SeqP (p : List LoomRun) : Prop := ∀ i, i < p.length → (rn p i).Order = (i : Int)
theorem pg_rn {p : List LoomRun} {i : Nat} (h : i < p.length) : pg p i = some (rn p i) := by unfold pg rn; rw [List.getElem?_eq_getElem h]; rfl
def HoldF (m : LoomMill) (l : List LoomOrder) (p : List LoomRun) : Prop := ∃ K F, Fits m l (fun i => i < p.length) (FixG (pg p)) K F
/-! ### What can be completed -/
def Cpl (m : LoomMill) (l : List LoomOrder) (p : List LoomRun) : Prop := ∃ K F, Fits m l (fun i => i < l.length) (FixG (pg p)) K F
theorem Cpl.holds {m : LoomMill} {l : List LoomOrder} {p : List LoomRun} (hl : p.length ≤ l.length) (h : Cpl m l p) : HoldF m l p := let ⟨K, F, h⟩ := h; ⟨K, F, h.mono (fun i hi => by omega) fun _ _ h => h⟩
theorem pg_app {p : List LoomRun} {r : LoomRun} {i : Nat} : pg (p ++ [r]) i = if i = p.length then some r else pg p i := by
 unfold pg
 rcases Nat.lt_trichotomy i p.length with h | h | h
 ·rw [if_neg (by omega), List.getElem?_append_left h]
 ·rw [if_pos h, h]; simp
 ·rw [if_neg (by omega), List.getElem?_eq_none (by simp; omega), List.getElem?_eq_none (by omega)]
theorem cpl_child {m : LoomMill} {l : List LoomOrder} {p : List LoomRun} (hl : p.length < l.length) {r : LoomRun} (h : Cpl m l (p ++ [r])) :
  (∃ k : Nat, r.Loom = (k : Int) ∧ k < m.Widths.length) ∧ (od l p.length).Early ≤ r.From ∧ r.From + (od l p.length).Woven ≤ (od l p.length).Late := by
 obtain ⟨K, F, h⟩ := h
 have h1 := h.one _ hl
 have h2 := h1.a r (by rw [pg_app, if_pos rfl])
 exact ⟨⟨K p.length, h2.1, h1.kw⟩, by rw [h2.2]; exact h1.e, by rw [h2.2]; exact h1.t⟩
theorem cpl_next {m : LoomMill} {l : List LoomOrder} {p : List LoomRun} (hl : p.length < l.length) (h : Cpl m l p) : ∃ (k : Nat) (d : Int), Cpl m l (p ++ [⟨(p.length : Int), (k : Int), d⟩]) := by
 obtain ⟨K, F, h⟩ := h
 refine ⟨K p.length, F p.length, K, F, h.mono (fun _ h => h) fun i _ ha r hr => ?_⟩
 rw [pg_app] at hr
 by_cases hi : i = p.length
 ·subst hi
  rw [if_pos rfl] at hr
  cases hr; exact ⟨rfl, rfl⟩
 ·rw [if_neg hi] at hr; exact ha r hr
structure Least1 (m : LoomMill) (l : List LoomOrder) (p : List LoomRun) (r : LoomRun) : Prop where
 c : Cpl m l (p ++ [r])
 o : r.Order = (p.length : Int)
 m : ∀ r' : LoomRun, r'.Order = (p.length : Int) → Cpl m l (p ++ [r']) → r.From < r'.From ∨ r.From = r'.From ∧ r.Loom ≤ r'.Loom
inductive Grd (m : LoomMill) (l : List LoomOrder) : List LoomRun → List LoomRun → Prop
 | done {p : List LoomRun} : p.length = l.length → Grd m l p p
 | step {p q : List LoomRun} {r : LoomRun} : p.length < l.length → Least1 m l p r → Grd m l (p ++ [r]) q → Grd m l p q
theorem Least1.one {m : LoomMill} {l : List LoomOrder} {p : List LoomRun} {r r' : LoomRun} (h : Least1 m l p r) (h' : Least1 m l p r') : r = r' := by
 have h1 := h.m r' h'.o h'.c
 have h2 := h'.m r h.o h.c
 obtain ⟨a, b, c⟩ := r
 obtain ⟨a', b', c'⟩ := r'
 have h3 := h.o
 have h4 := h'.o
 simp only at h1 h2 h3 h4
 have e1 : a = a' := by omega
 have e2 : b = b' := by omega
 have e3 : c = c' := by omega
 rw [e1, e2, e3]
theorem Grd.one {m : LoomMill} {l : List LoomOrder} {p q q' : List LoomRun} (h : Grd m l p q) (h' : Grd m l p q') : q = q' := by
 induction h with
 | done hl =>
  cases h' with
  | done _ => rfl
  | step h1 _ _ => omega
 | step h1 h2 _ ih =>
  cases h' with
  | done hl => omega
  | step _ h3 h4 =>
   have := h2.one h3
   subst this
   exact ih h4
theorem SeqP.app {p : List LoomRun} (h : SeqP p) {r : LoomRun} (hr : r.Order = (p.length : Int)) : SeqP (p ++ [r]) := by
 intro i hi
 rw [List.length_append, List.length_singleton] at hi
 have : rn (p ++ [r]) i = if i = p.length then r else rn p i := by
  have h1 := pg_app (p := p) (r := r) (i := i)
  unfold pg at h1
  unfold rn
  rw [h1]
  split <;> rfl
 rw [this]
 split
 ·rename_i he; rw [hr, he]
 ·exact h i (by omega)

/-! ### The reference -/
theorem apnd24' {p ys : List LoomRun} (h : p.length ≤ 1000) (h' : ys.length ≤ 1000) : apnd 24 p ys = some (p ++ ys) := by
 unfold apnd; rw [if_pos ⟨by omega, by omega⟩]
end Go.Proofs.Ytnfjhdagbknlbaa
