/- A machine of plain data: its operations, and that the model does the same. No program is named here. -/
import Derived.Test.YtjoniingnbmljaaRb
namespace Go.Proofs.Ytjoniingnbmljaa
noncomputable section
open Go.RowKit

/-! ### What only computes -/
def evalP (P : Program) {α : Type} : Sem α → Option α
 | .pure a => some a
 | .program k => evalP P (k P)
 | _ => none
theorem evalP_run {P : Program} {α : Type} : ∀ {s : Sem α} {a : α}, evalP P s = some a → ∀ w, s.run P w = .ok a w := by
 intro s
 induction s with
 | pure x => intro a h w; simp only [evalP, Option.some.injEq] at h; subst h; rfl
 | program k ih => intro a h w; exact ih P h w
 | _ => intro a h w; simp [evalP] at h
def constCs : List C → Option (List Value)
 | [] => some []
 | .k v :: cs => (constCs cs).map (v :: ·)
 | _ => none
def constA : AV → Option Value
 | .v g cs => (constCs cs).map (toV g)
 | .u => some undef
 | .t _ => none
def of1 (v : Value) : Option (Bool × List C) :=
 match v with
 | .agg cs => bif cs.toList.all Value.oneCell' then some (true, cs.toList.map .k) else none
 | v => bif v.oneCell' then some (false, [.k v]) else none
def of1s : List Value → Option (List (Bool × List C))
 | [] => some []
 | v :: vs => match of1 v, of1s vs with
  | some p, some ps => some (p :: ps)
  | _, _ => none
def ofV (v : Value) : Option AV :=
 match v with
 | .tuple vs => bif Nat.beq vs.size 0 then some .u else (of1s vs.toList).map .t
 | v => (of1 v).map fun p => .v p.1 p.2
section
variable {cx : Cx} {base : Nat} {ρ : Rn} {S S' : St} {w w' : World}
theorem constCs_ok : ∀ {cs : List C} {vs us : List Value}, constCs cs = some vs → CsR ρ w cs us → us = vs
 | [], vs, us, h, hr => by simp only [constCs, Option.some.injEq] at h; subst h; cases hr; rfl
 | .k v :: cs, vs, us, h, hr => by
  cases hr with
  | cons h1 h2 =>
   simp only [constCs, Option.map_eq_some_iff] at h
   obtain ⟨vs', h3, rfl⟩ := h
   rw [constCs_ok h3 h2, h1.1]
 | .p _ _ :: _, _, _, h, _ => by simp [constCs] at h
 | .s _ _ _ _ _ :: _, _, _, h, _ => by simp [constCs] at h
 | .e _ :: _, _, _, h, _ => by simp [constCs] at h
 | .m _ :: _, _, _, h, _ => by simp [constCs] at h
 | .f _ _ :: _, _, _, h, _ => by simp [constCs] at h
 | .y _ :: _, _, _, h, _ => by simp [constCs] at h
theorem constA_ok {a : AV} {u v : Value} (h : constA a = some u) (hr : VR ρ w a v) : v = u := by
 cases a with
 | v g cs =>
  simp only [constA, Option.map_eq_some_iff] at h
  obtain ⟨vs, h1, rfl⟩ := h
  obtain ⟨us, rfl, h2, _⟩ := hr
  rw [constCs_ok h1 h2]
 | u => simp only [constA, Option.some.injEq] at h; subst h; exact hr
 | t xs => simp [constA] at h
theorem kR : ∀ {cs : List Value}, cs.all Value.oneCell' = true → CsR ρ w (cs.map .k) cs
 | [], _ => .nil
 | v :: cs, h => by simp only [List.all_cons, Bool.and_eq_true] at h; exact .cons ⟨rfl, h.1⟩ (kR h.2)
theorem of1_ok {v : Value} {p : Bool × List C} (h : of1 v = some p) : V1 ρ w p v := by
 unfold of1 at h
 split at h
 ·rename_i cs
  cases ha : cs.toList.all Value.oneCell' with
  | false => rw [ha] at h; cases h
  | true =>
   rw [ha] at h; simp only [cond_true, Option.some.injEq] at h; subst h
   exact ⟨cs.toList, by simp [toV], kR ha, fun h => by cases h⟩
 ·cases ha : v.oneCell' with
  | false => rw [ha] at h; cases h
  | true =>
   rw [ha] at h; simp only [cond_true, Option.some.injEq] at h; subst h
   exact V1.of ⟨rfl, ha⟩
theorem of1s_ok : ∀ {vs : List Value} {ps : List (Bool × List C)}, of1s vs = some ps → All2 (V1 ρ w) ps vs
 | [], ps, h => by simp only [of1s, Option.some.injEq] at h; subst h; exact .nil
 | v :: vs, ps, h => by
  unfold of1s at h
  split at h
  ·rename_i p ps' h1 h2; simp only [Option.some.injEq] at h; subst h; exact .cons (of1_ok h1) (of1s_ok h2)
  ·cases h
theorem ofV_ok {v : Value} {a : AV} (h : ofV v = some a) : VR ρ w a v := by
 unfold ofV at h
 split at h
 ·rename_i vs
  cases hs : Nat.beq vs.size 0 with
  | true =>
   rw [hs] at h; simp only [cond_true, Option.some.injEq] at h; subst h
   have : vs = #[] := Array.eq_empty_of_size_eq_zero (Nat.eq_of_beq_eq_true hs)
   show Value.tuple vs = undef; rw [this]; rfl
  | false =>
   rw [hs] at h; simp only [cond_false, Option.map_eq_some_iff] at h
   obtain ⟨ps, h1, rfl⟩ := h
   exact ⟨vs.toList, by simp, of1s_ok h1⟩
 ·simp only [Option.map_eq_some_iff] at h
  obtain ⟨p, h1, rfl⟩ := h
  exact of1_ok h1
end
def aop (env : AEnv) : Operand → Option AV
 | .tmp t => some (env.at t)
 | .const v => ofV v
 | .func f => some (.v false [.f f []])
 | .global _ => none
def cval (env : AEnv) : Operand → Option Value
 | .tmp t => constA (env.at t)
 | .const v => some v
 | _ => none
def OpsR (ρ : Rn) (w : World) (env : AEnv) (e : Env) (xs : List Operand) : Prop := ∀ t, .tmp t ∈ xs → VR ρ w (env.at t) (e t)
section
variable {cx : Cx} {base : Nat} {ρ : Rn} {S S' : St} {w w' : World} {env : AEnv} {e : Env} {xs : List Operand} {P : Program}
theorem aop_ok {x : Operand} {a : AV} (h : aop env x = some a) (ho : OpsR ρ w env e xs) (hx : x ∈ xs) : VR ρ w a (ev e x) := by
 cases x with
 | tmp t => simp only [aop, Option.some.injEq] at h; subst h; exact ho t hx
 | const v => exact ofV_ok h
 | func f => simp only [aop, Option.some.injEq] at h; subst h; exact V1.of ⟨[], rfl, .nil⟩
 | global g => cases h
theorem cval_ok {x : Operand} {v : Value} (h : cval env x = some v) (ho : OpsR ρ w env e xs) (hx : x ∈ xs) : ev e x = v := by
 cases x with
 | tmp t => exact constA_ok h (ho t hx)
 | const u => simp only [cval, Option.some.injEq] at h; exact h
 | func f => cases h
 | global g => cases h
def Done (cx : Cx) (base : Nat) (ρ : Rn) (S : St) (w : World) (x : AV) (S' : St) (r : Result Next) : Prop :=
 ∃ v w' ρ', (r = .ok (.value v) w' ∨ r = .ok .skip w' ∧ v = undef) ∧ Evo cx ρ S w ρ' S' w' ∧ Sim cx base ρ' S' w' ∧ VR ρ' w' x v
theorem done_pure (hs : Sim cx base ρ S w) {x : AV} {v : Value} {r : Result Next} (hr : r = .ok (.value v) w) (hv : VR ρ w x v) : Done cx base ρ S w x S r :=
 ⟨v, w, ρ, .inl hr, Evo.refl hs.cut, hs, hv⟩
def aPlain (P : Program) (env : AEnv) (o : Oper) : Option AV :=
 bif o.op.operands.toList.all (fun x => (cval env x).isSome) && !isSel o then
  match evalP P (execOp (fun x => (cval env x).getD undef) o) with
  | some (.value v) => ofV v
  | _ => none
 else none
theorem aPlain_ok (hs : Sim cx base ρ S w) {o : Oper} {x : AV} (ho : OpsR ρ w env e o.op.operands.toList) (h : aPlain P env o = some x) : Done cx base ρ S w x S ((execOp (ev e) o).run P w) := by
 unfold aPlain at h
 cases hc : (o.op.operands.toList.all (fun x => (cval env x).isSome) && !isSel o) with
 | false => rw [hc] at h; cases h
 | true =>
  rw [hc] at h; simp only [cond_true] at h
  simp only [Bool.and_eq_true, List.all_eq_true, Bool.not_eq_true'] at hc
  split at h
  ·rename_i v hv
   have hcg : execOp (ev e) o = execOp (fun x => (cval env x).getD undef) o := execOp_congr o (fun cs b h => by have := hc.2; simp [isSel, h] at this) fun x hx => by
    have h1 := hc.1 x (by simpa using hx)
    cases h2 : cval env x with
    | none => rw [h2] at h1; cases h1
    | some u => rw [cval_ok h2 ho (by simpa using hx)]; rfl
   rw [hcg]
   exact done_pure hs (evalP_run hv w) (ofV_ok h)
  ·cases h

/-! ### Types -/
def aggD : TypeDesc → Bool
 | .struct _ | .array _ _ => true
 | _ => false
def tInfo (P : Program) (t : TypeId) : Option (Bool × Nat) :=
 match P.underlying t, P.info? t with
 | some u, some i => some (aggD u, i.size)
 | _, _ => none
theorem tInfo_ok {t : TypeId} {g : Bool} {n : Nat} (h : tInfo P t = some (g, n)) : (∀ w, (isAgg t).run P w = .ok g w) ∧ (∀ w, (sizeOf t).run P w = .ok n w) := by
 unfold tInfo at h
 split at h
 ·rename_i u i hu hi
  simp only [Option.some.injEq, Prod.mk.injEq] at h
  obtain ⟨rfl, rfl⟩ := h
  constructor
  ·intro w
   unfold isAgg
   simp only [Sem.run_bind, run_underlying hu, Result.andThen_ok]
   cases u <;> rfl
  ·intro w
   simp [sizeOf, typeInfo, hi]
 ·cases h
def zeroC (P : Program) (t : TypeId) : Option (Bool × List C) := ((P.info? t).bind (·.zero)).bind of1
theorem zeroC_ok {t : TypeId} {p : Bool × List C} (h : zeroC P t = some p) : ∃ z, (∀ w, (zeroValue t).run P w = .ok z w) ∧ ∀ (ρ : Rn) (w : World), V1 ρ w p z := by
 unfold zeroC at h
 cases hi : P.info? t with
 | none => rw [hi] at h; cases h
 | some i =>
  rw [hi] at h
  simp only [Option.bind_some] at h
  cases hz : i.zero with
  | none => rw [hz] at h; cases h
  | some z =>
   rw [hz] at h
   exact ⟨z, fun w => by simp [zeroValue, typeInfo, hi, hz], fun ρ w => of1_ok h⟩

/-! ### Values -/
def aMove (env : AEnv) (x : Operand) : Option AV := aop env x
theorem aMove_ok (hs : Sim cx base ρ S w) {o : Oper} {x : Operand} {a : AV} (hop : o.op = .move x ∨ o.op = .assign x) (ho : OpsR ρ w env e o.op.operands.toList) (h : aMove env x = some a) : Done cx base ρ S w a S ((execOp (ev e) o).run P w) := by
 refine done_pure (v := ev e x) hs ?_ (aop_ok h ho ?_)
 ·rcases hop with hop | hop <;> simp [execOp, hop]
 ·rcases hop with hop | hop <;> simp [hop, Op.operands]
def aPick (env : AEnv) (c x y : Operand) : Option AV :=
 match cval env c with
 | some (.bool b) => aop env (bif b then x else y)
 | _ => none
theorem aPick_ok (hs : Sim cx base ρ S w) {o : Oper} {c x y : Operand} {a : AV} (hop : o.op = .pick c x y) (ho : OpsR ρ w env e o.op.operands.toList) (h : aPick env c x y = some a) : Done cx base ρ S w a S ((execOp (ev e) o).run P w) := by
 unfold aPick at h
 split at h
 ·rename_i b hb
  have hc := cval_ok hb ho (by simp [hop, Op.operands])
  cases b with
  | true => exact done_pure (v := ev e x) hs (by simp [execOp, hop, hc, asBool]) (aop_ok h ho (by simp [hop, Op.operands]))
  | false => exact done_pure (v := ev e y) hs (by simp [execOp, hop, hc, asBool]) (aop_ok h ho (by simp [hop, Op.operands]))
 ·cases h
def aExtract (env : AEnv) (x : Operand) (i : Nat) : Option AV :=
 match aop env x with
 | some (.t xs) => (xs[i]?).map fun p => .v p.1 p.2
 | _ => none
theorem aExtract_ok (hs : Sim cx base ρ S w) {o : Oper} {x : Operand} {i : Nat} {a : AV} (hop : o.op = .extract x i) (ho : OpsR ρ w env e o.op.operands.toList) (h : aExtract env x i = some a) : Done cx base ρ S w a S ((execOp (ev e) o).run P w) := by
 unfold aExtract at h
 split at h
 ·rename_i xs hx
  simp only [Option.map_eq_some_iff] at h
  obtain ⟨p, hp, rfl⟩ := h
  obtain ⟨vs, hv, h2⟩ := aop_ok hx ho (by simp [hop, Op.operands])
  obtain ⟨v, hv2, h3⟩ := h2.get hp
  refine done_pure (v := v) hs ?_ h3
  simp [execOp, hop, hv, Instr.extract, hv2]
 ·cases h
def aFunc (env : AEnv) : List Operand → Option (List (Nat × Nat))
 | [] => some []
 | x :: xs => match aop env x, aFunc env xs with
  | some (.v false [.p b off]), some l => some ((b, off) :: l)
  | _, _ => none
theorem aFunc_ok (ho : OpsR ρ w env e xs) : ∀ {ys : List Operand} {l : List (Nat × Nat)}, (∀ y ∈ ys, y ∈ xs) → aFunc env ys = some l → All2 (PR ρ) l (ys.map (ev e))
 | [], l, _, h => by simp only [aFunc, Option.some.injEq] at h; subst h; exact .nil
 | y :: ys, l, hm, h => by
  unfold aFunc at h
  split at h
  ·rename_i b off l' h1 h2
   simp only [Option.some.injEq] at h; subst h
   exact .cons (V1.one (aop_ok h1 ho (hm y (by simp)))) (aFunc_ok ho (fun z hz => hm z (by simp [hz])) h2)
  ·cases h
theorem aMakeFunc_ok (hs : Sim cx base ρ S w) {o : Oper} {fn : FuncId} {cs : Array Operand} {l : List (Nat × Nat)} (hop : o.op = .makeFunc (.func fn) #[] cs) (ho : OpsR ρ w env e o.op.operands.toList) (h : aFunc env cs.toList = some l) :
  Done cx base ρ S w (.v false [.f fn l]) S ((execOp (ev e) o).run P w) := by
 refine done_pure (v := .func (.func fn) #[] (cs.map (ev e))) hs (by simp [execOp, hop, Instr.makeFunc]) (V1.of ⟨(cs.map (ev e)).toList, by rw [Array.toArray_toList], ?_⟩)
 rw [Array.toList_map]
 exact aFunc_ok ho (fun y hy => by simp [hop, Op.operands]; simpa using hy) h
end
end
end Go.Proofs.Ytjoniingnbmljaa
