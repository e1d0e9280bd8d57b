/- A region that draws its order, whose changing operations come in one order; some loads come before one of them, the operation M. No program is named here. -/
import Derived.Test.YtlmibfohllgmeaaAw
namespace Go.Proofs.Ytlmibfohllgmeaa
open Go.RowKit
section
variable {P : Program} {ops : Array Oper}
def CES (P : Program) (cst : Nat → Option Bool) (L : Bool → World → Prop) (ops : Array Oper) (i : Nat) (o : Oper) (ph : Bool) (K : Env → World → Prop) (e : Env) (w : World) : Prop :=
 if Region.wanted o (yieldE ops e) = true then
  match cst i with
  | some b => ∃ c, (∀ w, L b w → (execOp (ev e) o).run P w = .ok (.value c) w) ∧ K (Qg e o.dst c) w
  | none => doE P o e w fun v w' => L ph w' ∧ K (Qg e o.dst v) w'
 else K (Qg e o.dst undef) w
variable {cst : Nat → Option Bool} {L : Bool → World → Prop} {M : Nat} {Q : Env → World → Prop}
theorem Iv {j : Nat} {oi oj : Oper} (ap : Df ops oi oj) {u : Value} {p1 p2 : Bool} {K1 K2 : Env → World → Prop} {e : Env} {w : World} (hp : cst j = none → p1 = p2) (hk : ∀ v w', K1 (Qg (Qg e oi.dst u) oj.dst v) w' → K2 (Qg e oj.dst v) w') (h : CES P cst L ops j oj p1 K1 (Qg e oi.dst u) w) : CES P cst L ops j oj p2 K2 e w := by
 unfold CES at h ⊢
 rw [Ws ap.cj, Ki ap.sj ap.cj] at h
 by_cases hw : Region.wanted oj (yieldE ops e) = true
 ·rw [if_pos hw] at h ⊢
  cases hl : cst j with
  | some b =>
   rw [hl] at h
   obtain ⟨c, h1, h2⟩ := h
   exact ⟨c, h1, hk _ _ h2⟩
  | none =>
   rw [hl] at h
   rw [← hp hl]
   exact Ho ((Vh ap.sj ap.cj).1 h) fun v w' h2 => ⟨h2.1, hk _ _ h2.2⟩
 ·rw [if_neg hw] at h ⊢
  exact hk _ _ h
def Jd (late early : List Nat) (k : Nat) : Option Bool := bif late.contains k then some false else bif early.contains k then some true else none
end
theorem LTg.weak {V U : List Nat} {g0 g : Gh} {w0 w : World} (h : LTg V g0 w0 g w) (hu : U.all (fun u => V.contains u) = true) : LTg U g0 w0 g w :=
 ⟨h.1, fun b hb hc => h.2 b hb (by rw [List.all_eq_true] at hu; exact hu _ (by simpa using hc))⟩
theorem LTw.weak {V U : List Nat} {g0 : Gh} {w0 w : World} (h : LTw V g0 w0 w) (hu : U.all (fun u => V.contains u) = true) : LTw U g0 w0 w := let ⟨g, h⟩ := h; ⟨g, h.weak hu⟩
section
variable {P : Program} {ops : Array Oper} {ls es V U : List Nat} {M : Nat} {g0 : Gh} {w0 : World} {Q : Env → World → Prop} {i : Nat} {l : List Nat} {e : Env} {w : World} {op : Op} {ty : TypeId} {pos : String} {af : Array Edge} {gd : Option (Nat × Bool)} {d : Option Tmp}
end
section
variable {α β γ : Type} [GoT α] [GoT γ] {A : Ow α} {E : Ow γ} {P : Program} {x : Operand} {i b b1 off : Nat} {t t2 : TypeId} {a : α} {s : A.S}
end
end Go.Proofs.Ytlmibfohllgmeaa
