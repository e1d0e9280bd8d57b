/- makeSlice. No program is named here. -/
import Derived.Test.YtkmbkaoolacofaaGreatNest
import Derived.Laws.MakeOwn
import Derived.WideKeyRuns
namespace Go.Proofs.YtkmbkaoolacofaaGreat
open Go.RowKit

def mks {α : Type} (bytes : Nat) (x0 : α) (n : Int) : Option (List α) :=
 if 0 ≤ n ∧ n ≤ 16777216 ∧ (bytes : Int) * n ≤ 281474976710656 then some (List.replicate n.toNat x0) else none
section
variable {P : Program} {e : Env} {w : World} {g : Gh} {K : Value → World → Prop} {x y z : Operand}
end
theorem up_ex {SR : StepRel} {β : Type} {A : β → Fact} (h : ∀ b, Up SR (A b)) : Up SR (fun g w => ∃ b, A b g w) := fun g w g' w' hx ⟨b, hb⟩ => ⟨b, h b g w g' w' hx hb⟩
theorem seg_get {cs cy : List Value} {off k p : Nat} (hl : cy.length = k) (ho : off + k ≤ cs.length) : (cs.take off ++ cy ++ cs.drop (off + cy.length))[p]? = if p < off then cs[p]? else if p < off + k then cy[p - off]? else cs[p]? := by
 have ht : (cs.take off).length = off := by rw [List.length_take]; omega
 by_cases h1 : p < off
 ·rw [if_pos h1, List.append_assoc, List.getElem?_append_left (by omega), List.getElem?_take, if_pos h1]
 ·rw [if_neg h1]
  by_cases h2 : p < off + k
  ·rw [if_pos h2, List.append_assoc, List.getElem?_append_right (by omega), ht, List.getElem?_append_left (by omega)]
  ·rw [if_neg h2, List.getElem?_append_right (by rw [List.length_append, ht, hl]; omega), List.length_append, ht, hl, List.getElem?_drop]
   congr 1; omega
theorem SubS.vec {β : Type} [GoT β] {n i : Nat} (hi : i < n) : SubS (α := Vector β n) (i * GoT.k β) (fun v => v[i]) (fun v y => v.set i y) := by
 have hk : i * GoT.k β + GoT.k β ≤ n * GoT.k β := by
  have : (i + 1) * GoT.k β ≤ n * GoT.k β := Nat.mul_le_mul_right _ hi
  rw [Nat.add_mul, Nat.one_mul] at this; exact this
 refine ⟨⟨hk, fun m w x cs h => h.2 i hi⟩, fun m w x y cs cy h hy => ?_⟩
 have hcy := GoT.len hy
 have hcs : cs.length = n * GoT.k β := h.1
 refine ⟨?_, fun j hj => ?_⟩
 ·simp only [List.length_append, List.length_take, List.length_drop]; omega
 ·have hkj : j * GoT.k β + GoT.k β ≤ n * GoT.k β := by
   have : (j + 1) * GoT.k β ≤ n * GoT.k β := Nat.mul_le_mul_right _ hj
   rw [Nat.add_mul, Nat.one_mul] at this; exact this
  by_cases hij : i = j
  ·subst hij
   have : ((cs.take (i * GoT.k β) ++ cy ++ cs.drop (i * GoT.k β + cy.length)).drop (i * GoT.k β)).take (GoT.k β) = cy := by
    apply List.ext_getElem?
    intro t
    rw [List.getElem?_take, List.getElem?_drop, seg_get hcy (by omega)]
    split
    ·rw [if_neg (by omega), if_pos (by omega)]; congr 1; omega
    ·rw [List.getElem?_eq_none (by omega)]
   rw [this]
   simpa using hy
  ·have : ((cs.take (i * GoT.k β) ++ cy ++ cs.drop (i * GoT.k β + cy.length)).drop (j * GoT.k β)).take (GoT.k β) = (cs.drop (j * GoT.k β)).take (GoT.k β) := by
    apply List.ext_getElem?
    intro t
    rw [List.getElem?_take, List.getElem?_drop, List.getElem?_take, List.getElem?_drop, seg_get hcy (by omega)]
    split
    ·rename_i ht
     rcases Nat.lt_or_gt_of_ne hij with h1 | h1
     ·have : (i + 1) * GoT.k β ≤ j * GoT.k β := Nat.mul_le_mul_right _ h1
      rw [Nat.add_mul, Nat.one_mul] at this
      rw [if_neg (by omega), if_neg (by omega)]
     ·have : (j + 1) * GoT.k β ≤ i * GoT.k β := Nat.mul_le_mul_right _ h1
      rw [Nat.add_mul, Nat.one_mul] at this
      rw [if_pos (by omega)]
    ·rfl
   rw [this]
   have h2 := h.2 j hj
   simpa [Vector.getElem_set, hij] using h2
end Go.Proofs.YtkmbkaoolacofaaGreat
/- The dead rest of a chain of && or ||, told in one step. No program is named here. -/
namespace Go.Proofs.YtkmbkaoolacofaaGreat
open Go.RowKit

def isUndef : Value → Bool
 | .tuple ⟨[]⟩ => true
 | _ => false
theorem isUndef_eq {v : Value} (h : isUndef v = true) : v = undef := by
 unfold isUndef at h
 split at h
 ·rfl
 ·cases h
def deadVal (e : Env) : Op → Option Value
 | .move x => some (ev e x)
 | .pick x y z => match ev e x with
  | .bool true => some (ev e y)
  | .bool false => some (ev e z)
  | _ => none
 | _ => none
def deadOp (ops : Array Oper) (e : Env) (o : Oper) : Option (Bool × Value) :=
 match o.guard with
 | none => (deadVal e o.op).map fun v => (true, v)
 | some (j, b) => match (ops[j]?).bind (·.dst) with
  | none => none
  | some d => match e d with
   | .bool true => bif b then (deadVal e o.op).map fun v => (true, v) else some (false, undef)
   | .bool false => bif b then some (false, undef) else (deadVal e o.op).map fun v => (true, v)
   | v => bif isUndef v then some (false, undef) else none
theorem deadVal_pur {P : Program} {e : Env} {op : Op} {v : Value} (h : deadVal e op = some v) : Pur P op e v ∧ nodef op = true := by
 unfold deadVal at h
 split at h
 ·injection h with h; subst h; exact ⟨P_move rfl, rfl⟩
 ·split at h
  ·rename_i hx; injection h with h; subst h; exact ⟨P_pick hx rfl, rfl⟩
  ·rename_i hx; injection h with h; subst h; exact ⟨P_pick hx rfl, rfl⟩
  ·cases h
 ·cases h
theorem deadOp_ok {P : Program} {ops : Array Oper} {e : Env} {o : Oper} {t : Bool} {v : Value} (h : deadOp ops e o = some (t, v)) :
  Wants ops e o.guard t ∧ (t = true → Pur P o.op e v ∧ nodef o.op = true) ∧ (t = false → v = undef) := by
 unfold deadOp at h
 have go : ∀ {t v}, (deadVal e o.op).map (fun v => (true, v)) = some (t, v) → t = true ∧ deadVal e o.op = some v := fun {t v} h => by
  cases hv : deadVal e o.op with
  | none => rw [hv] at h; cases h
  | some u => rw [hv] at h; simp at h; exact ⟨h.1.symm ▸ rfl, by rw [h.2]⟩
 split at h
 ·rename_i hg
  obtain ⟨rfl, hv⟩ := go h
  rw [hg]
  exact ⟨.plain, fun _ => deadVal_pur hv, by simp⟩
 ·rename_i j b hg
  rw [hg]
  split at h
  ·cases h
  ·rename_i d hd
   split at h
   ·rename_i he
    cases b with
    | true => obtain ⟨rfl, hv⟩ := go h; exact ⟨.yes hd he, fun _ => deadVal_pur hv, by simp⟩
    | false => simp at h; obtain ⟨rfl, rfl⟩ := h; exact ⟨.no hd he rfl, by simp, by simp⟩
   ·rename_i he
    cases b with
    | true => simp at h; obtain ⟨rfl, rfl⟩ := h; exact ⟨.no hd he rfl, by simp, by simp⟩
    | false => obtain ⟨rfl, hv⟩ := go h; exact ⟨.yes hd he, fun _ => deadVal_pur hv, by simp⟩
   ·rename_i hb1 hb2
    cases hu : isUndef (e d) with
    | true => rw [hu] at h; simp at h; obtain ⟨rfl, rfl⟩ := h; exact ⟨.off hd (isUndef_eq hu), by simp, by simp⟩
    | false => rw [hu] at h; cases h
def deadRun (ops : Array Oper) (N : Nat) : Nat → List Oper → Env → Option (List Oper × Env)
 | 0, l, e => some (l, e)
 | n + 1, o :: l, e => match deadOp ops e o with
  | some (_, v) => bif okO N o.dst then deadRun ops N n l (updO e o.dst v) else none
  | none => none
 | _ + 1, [], _ => none
theorem EL_dead {P : Program} {N : Nat} {ro : Option Nat} {ops : Array Oper} {Q : Post} {ds : List Deferred} {w : World} (n : Nat) : ∀ {l l' : List Oper} {e e' : Env}, deadRun ops N n l e = some (l', e') → EL P N ro ops l' Q e' ds w → EL P N ro ops l Q e ds w := by
 induction n with
 | zero => intro l l' e e' h k; simp only [deadRun, Option.some.injEq, Prod.mk.injEq] at h; obtain ⟨rfl, rfl⟩ := h; exact k
 | succ n ih =>
  intro l l' e e' h k
  cases l with
  | nil => simp [deadRun] at h
  | cons o l =>
   unfold deadRun at h
   split at h
   ·rename_i t v ho
    cases hN : okO N o.dst with
    | false => rw [hN] at h; cases h
    | true =>
     rw [hN] at h
     obtain ⟨h1, h2, h3⟩ := deadOp_ok (P := P) ho
     have := ih h k
     obtain ⟨d, op, ty, pos, af, gd⟩ := o
     cases t with
     | true => obtain ⟨hp, hn⟩ := h2 rfl; exact EL_pur hp h1 (by rw [Bool.and_eq_true]; exact ⟨hn, hN⟩) this
     | false => rw [h3 rfl] at this; exact EL_skip h1 hN this
   ·cases h
def deadRunL (ops : Array Oper) (Φ : Words) : Nat → List Nat → (Nat → Fact) → Env → Option (List Nat × (Nat → Fact) × Env)
 | 0, l, F, e => some (l, F, e)
 | n + 1, i :: l, F, e => match ops[i]? with
  | none => none
  | some o => match deadOp ops e o with
   | some (true, v) => match Φ i with
    | none => deadRunL ops Φ n l (setF F i (fun g w => ∀ j ∈ directOf o, F j g w)) (updO e o.dst v)
    | some _ => none
   | some (false, _) => deadRunL ops Φ n l (setF F i (fun _ _ => True)) (updO e o.dst undef)
   | none => none
 | _ + 1, [], _, _ => none
theorem L_dead {SR : StepRel} {P : Program} {ops : Array Oper} {C : Fact} {Φ : Words} {Q : Env → Fact} (hnl : ∀ i, SR.late i = false) (n : Nat) : ∀ {l l' : List Nat} {F F' : Nat → Fact} {e e' : Env}, deadRunL ops Φ n l F e = some (l', F', e') → Lex SR P ops C Φ Q l' F' e' → Lex SR P ops C Φ Q l F e := by
 induction n with
 | zero => intro l l' F F' e e' h k; simp only [deadRunL, Option.some.injEq, Prod.mk.injEq] at h; obtain ⟨rfl, rfl, rfl⟩ := h; exact k
 | succ n ih =>
  intro l l' F F' e e' h k
  cases l with
  | nil => simp [deadRunL] at h
  | cons i l =>
   unfold deadRunL at h
   split at h
   ·cases h
   ·rename_i o ho
    split at h
    ·rename_i v hv
     split at h
     ·rename_i hφ
      obtain ⟨h1, h2, _⟩ := deadOp_ok (P := P) hv
      obtain ⟨d, op, ty, pos, af, gd⟩ := o
      exact L_pur ho hφ h1 (fun _ _ _ => (h2 rfl).1) (ih h k) (hnl i)
     ·cases h
    ·rename_i hv
     obtain ⟨h1, _, _⟩ := deadOp_ok (P := P) hv
     obtain ⟨d, op, ty, pos, af, gd⟩ := o
     exact L_skip ho h1 (ih h k)
    ·cases h
end Go.Proofs.YtkmbkaoolacofaaGreat
/- Plain values: told apart, and as keys of maps. No program is named here. -/
namespace Go.Proofs.YtkmbkaoolacofaaGreat
open Go.RowKit

section
variable {P : Program} {α β : Type} [GoT α] [GoT β]
theorem part_rep {m : Nat → Nat} {w : World} {y : β} {cs : List Value} {off : Nat} {ft : TypeId} (ha : ∀ w, (isAgg ft).run P w = .ok (GoT.agg β) w) (hs : ∀ w, (sizeOf ft).run P w = .ok (GoT.k β) w)
  (hr : GoT.rep m w y ((cs.drop off).take (GoT.k β))) (w2 : World) : ∃ v, RV m w y v ∧ (part ft cs.toArray off).run P w2 = .ok v w2 := by
 refine ⟨toV (GoT.agg β) ((cs.drop off).take (GoT.k β)), ⟨_, hr, rfl⟩, ?_⟩
 unfold part
 cases hg : GoT.agg β with
 | true =>
  rw [hg] at ha
  simp [Sem.run_bind, ha, hs, Result.andThen, List.extract_toArray, toV]
 | false =>
  rw [hg] at ha
  have hl := GoT.len hr
  rw [GoT.k1 hg] at hl
  have hlt : off < cs.length := by simp at hl; omega
  have hget : (cs.toArray)[off]? = some cs[off] := by rw [List.getElem?_toArray, List.getElem?_eq_getElem hlt]
  have hv : (List.take 1 (List.drop off cs)).headD undef = cs[off] := by rw [List.drop_eq_getElem_cons hlt]; rfl
  rw [GoT.k1 hg]
  unfold toV
  rw [cond_false, hv]
  simp only [Sem.run_bind, ha, Result.andThen, hget, Bool.false_eq_true, if_false, Sem.run_pure]
def EqD (P : Program) (α : Type) [GoT α] [DecidableEq α] (D : Nat) (t : TypeId) : Prop := ∀ (d : Nat) (x y : α) (w : World) (a b : Value) (m : Nat → Nat) (wx : World) (m' : Nat → Nat) (wy : World), RV m wx x a → RV m' wy y b → (Op.equalIn (d + D) t a b).run P w = .ok (decide (x = y)) w
def CkD (P : Program) (α : Type) [GoT α] (D : Nat) (t : TypeId) : Prop := ∀ (em : Bool) (d : Nat) (x : α) (w : World) (a : Value) (m : Nat → Nat) (wx : World), RV m wx x a → (Instr.checkKey em (d + D) t a).run P w = .ok () w
theorem EqD.int {t : TypeId} (hu : P.underlying t = some (.int .i64)) : EqD P Int 1 t := fun d x y w a b m wx m' wy hx hy => by
 obtain ⟨_, rfl, rfl⟩ := hx
 obtain ⟨_, rfl, rfl⟩ := hy
 refine (run_equalIn_int _ _ _ _ _ _ _ hu).trans ?_
 congr 1
theorem EqD.bool {t : TypeId} (hu : P.underlying t = some .bool) : EqD P Bool 1 t := fun d x y w a b m wx m' wy hx hy => by
 obtain ⟨_, rfl, rfl⟩ := hx
 obtain ⟨_, rfl, rfl⟩ := hy
 refine (run_equalIn_bool _ _ _ _ _ hu).trans ?_
 congr 1
theorem CkD.int {t : TypeId} (hu : P.underlying t = some (.int .i64)) : CkD P Int 1 t := fun em d x w a m wx hx => by
 obtain ⟨_, rfl, rfl⟩ := hx
 simp [Instr.checkKey, Sem.run_bind, run_underlying hu, toV]
theorem CkD.bool {t : TypeId} (hu : P.underlying t = some .bool) : CkD P Bool 1 t := fun em d x w a m wx hx => by
 obtain ⟨_, rfl, rfl⟩ := hx
 simp [Instr.checkKey, Sem.run_bind, run_underlying hu, toV]
def FEq (P : Program) (α : Type) [GoT α] (D : Nat) (fs : List Field) (q : α → α → Bool) : Prop := ∀ (d : Nat) (x y : α) (w : World) (cs cs' : List Value) (m : Nat → Nat) (wx : World) (m' : Nat → Nat) (wy : World), GoT.rep m wx x cs → GoT.rep m' wy y cs' → (Op.eqFields (d + D) cs.toArray cs'.toArray fs).run P w = .ok (q x y) w
theorem FEq.nil {D : Nat} : FEq P α D [] fun _ _ => true := fun d x y w cs cs' m wx m' wy _ _ => by simp [Op.eqFields]
theorem FEq.cons [DecidableEq β] {D : Nat} {f : Field} {fs : List Field} {pr : α → β} {q : α → α → Bool} (hn : f.name ≠ "_") (hsub : Sub f.offset pr) (ha : ∀ w, (isAgg f.type).run P w = .ok (GoT.agg β) w) (hs : ∀ w, (sizeOf f.type).run P w = .ok (GoT.k β) w)
    (he : EqD P β D f.type) (hr : FEq P α D fs q) : FEq P α D (f :: fs) fun x y => decide (pr x = pr y) && q x y := fun d x y w cs cs' m wx m' wy hx hy => by
  obtain ⟨v1, r1, p1⟩ := part_rep (P := P) ha hs (hsub.2 _ _ _ _ hx) w
  obtain ⟨v2, r2, p2⟩ := part_rep (P := P) ha hs (hsub.2 _ _ _ _ hy) w
  have h1 := he d _ _ w _ _ _ _ _ _ r1 r2
  have h2 := hr d x y w cs cs' m wx m' wy hx hy
  simp only [Op.eqFields, Sem.run_bind, hn, ne_eq, not_false_eq_true, if_true, p1, p2, Result.andThen_ok, h1, Sem.run_ite, Sem.run_pure, h2]
  cases decide (pr x = pr y) <;> simp
theorem items_eq [DecidableEq β] {e : TypeId} {D d n : Nat} {w : World} {cs cs' : List Value} {x y : Vector β n} {m m' : Nat → Nat} {wx wy : World} (ha : ∀ w, (isAgg e).run P w = .ok (GoT.agg β) w) (hs : ∀ w, (sizeOf e).run P w = .ok (GoT.k β) w) (he : EqD P β D e)
  (hx : ∀ i (h : i < n), GoT.rep m wx x[i] ((cs.drop (i * GoT.k β)).take (GoT.k β))) (hy : ∀ i (h : i < n), GoT.rep m' wy y[i] ((cs'.drop (i * GoT.k β)).take (GoT.k β))) : ∀ is : List Nat, (∀ i ∈ is, i < n) → ∃ r, (Op.eqItems (d + D) e (GoT.k β) cs.toArray cs'.toArray is).run P w = .ok r w ∧ (r = true ↔ ∀ i ∈ is, ∀ h : i < n, x[i] = y[i])
 | [], _ => ⟨true, by simp [Op.eqItems], by simp⟩
 | i :: is, h => by
  have hi := h i List.mem_cons_self
  obtain ⟨r, hr, hiff⟩ := items_eq (d := d) (w := w) ha hs he hx hy is fun j hj => h j (List.mem_cons_of_mem _ hj)
  obtain ⟨v1, r1, p1⟩ := part_rep (P := P) ha hs (hx i hi) w
  obtain ⟨v2, r2, p2⟩ := part_rep (P := P) ha hs (hy i hi) w
  have h1 := he d _ _ w _ _ _ _ _ _ r1 r2
  simp only [Op.eqItems, Sem.run_bind, p1, p2, Result.andThen_ok, h1]
  by_cases hb : x[i] = y[i]
  ·rw [decide_eq_true hb]
   refine ⟨r, by simpa using hr, hiff.trans ⟨fun h j hj hl => ?_, fun h j hj hl => h j (List.mem_cons_of_mem _ hj) hl⟩⟩
   rcases List.mem_cons.1 hj with rfl | hj
   ·exact hb
   ·exact h j hj hl
  ·rw [decide_eq_false hb]
   exact ⟨false, by simp, ⟨(fun h => by cases h), fun h => absurd (h i List.mem_cons_self hi) hb⟩⟩
theorem EqD.array [DecidableEq β] {D n : Nat} {t e : TypeId} {γ : Type} {fi : TypeInfo → γ} {z : γ} (hu : P.underlying t = some (.array n e)) (hi : (P.info? e).map fi = some z) (hc : P.cellsOf e = GoT.k β) (ha : ∀ w, (isAgg e).run P w = .ok (GoT.agg β) w) (hs : ∀ w, (sizeOf e).run P w = .ok (GoT.k β) w) (he : EqD P β D e) : EqD P (Vector β n) (D + 1) t := fun d x y w a b m wx m' wy hx hy => by
 obtain ⟨cs, ⟨_, hx⟩, rfl⟩ := hx
 obtain ⟨cs', ⟨_, hy⟩, rfl⟩ := hy
 obtain ⟨i, hi, _⟩ := Option.map_eq_some_iff.1 hi
 obtain ⟨r, hr, hiff⟩ := items_eq (d := d) (w := w) ha hs he hx hy (List.range n) fun i hi => List.mem_range.1 hi
 refine (run_equalIn_array w (d + D) _ _ hu hi).trans ?_
 rw [hc, hr]
 congr 1
 rw [Bool.eq_iff_iff, hiff, decide_eq_true_eq]
 constructor
 ·exact fun h => Vector.ext fun i hi => h i (List.mem_range.2 hi) hi
 ·rintro rfl _ _ _; rfl
theorem CkD.array {D n : Nat} {t e : TypeId} {γ : Type} {fi : TypeInfo → γ} {z : γ} (hu : P.underlying t = some (.array n e)) (hi : (P.info? e).map fi = some z) (hc : P.cellsOf e = GoT.k β) (ha : ∀ w, (isAgg e).run P w = .ok (GoT.agg β) w) (hs : ∀ w, (sizeOf e).run P w = .ok (GoT.k β) w) (he : CkD P β D e) : CkD P (Vector β n) (D + 1) t := fun em d x w a m wx hx => by
 obtain ⟨cs, ⟨_, hx⟩, rfl⟩ := hx
 obtain ⟨i, hi, _⟩ := Option.map_eq_some_iff.1 hi
 have each : ∀ j ∈ List.range' 0 n, ∃ v, (part e cs.toArray (j * P.cellsOf e)).run P w = .ok v w ∧ (Instr.checkKey em (d + D) e v).run P w = .ok () w := fun j hj => by
  have hj : j < n := by simpa using hj
  obtain ⟨v, rv, pv⟩ := part_rep (P := P) ha hs (hx j hj) w
  exact ⟨v, by rw [hc]; exact pv, he _ _ _ _ _ _ _ rv⟩
 rw [← Nat.add_assoc]
 show (Instr.checkKey em (d + D + 1) t (.agg cs.toArray)).run P w = _
 rw [Instr.checkKey]
 simp only [Sem.run_bind, run_underlying hu, Result.andThen_ok]
 simp only [Std.Legacy.Range.forIn_eq_forIn_range', Std.Legacy.Range.size, Nat.sub_zero, Nat.add_one_sub_one, Nat.div_one]
 generalize List.range' 0 n = is at each
 induction is with
 | nil => simp
 | cons j is ih =>
  obtain ⟨v, p1, p2⟩ := each j (by simp)
  simp only [List.forIn_cons, Sem.run_bind, run_sizeOf w hi, Result.andThen_ok, p1, p2, Sem.run_pure]
  exact ih fun y hy => each y (by simp [hy])
end
section
variable {P : Program} {e : Env} {x y : Operand}
end
/-! ### Values that lie in one way -/
section
variable {α β : Type} [GoT α] [GoT β]
def Pl (α : Type) [GoT α] : Prop := ∀ x : α, ∃ cs, (∀ m w cs', GoT.rep m w x cs' ↔ cs' = cs) ∧ ∀ c ∈ cs, ∀ n, Instr.sameBits n c c = true
theorem Pl.int : Pl Int := fun x => ⟨[.int .i64 x], fun m w cs' => Iff.rfl, fun c hc n => by rw [List.mem_singleton.1 hc]; cases n <;> simp [Instr.sameBits]⟩
theorem Pl.bool : Pl Bool := fun x => ⟨[.bool x], fun m w cs' => Iff.rfl, fun c hc n => by rw [List.mem_singleton.1 hc]; cases n <;> simp [Instr.sameBits]⟩
theorem Pl.len {x : α} {cs : List Value} (h : ∀ m w cs', GoT.rep m w x cs' ↔ cs' = cs) : cs.length = GoT.k α := GoT.len ((h (fun _ => 0) default cs).2 rfl)
omit [GoT β] in
theorem chunks {k : Nat} {cf : β → List Value} (hk : ∀ y, (cf y).length = k) : ∀ (ys : List β) (cs : List Value), (cs.length = ys.length * k ∧ ∀ i (h : i < ys.length), (cs.drop (i * k)).take k = cf ys[i]) ↔ cs = (ys.map cf).flatten
 | [], cs => by simp
 | y :: ys, cs => by
  constructor
  ·rintro ⟨h1, h2⟩
   have h0 := h2 0 (by simp)
   simp only [Nat.zero_mul, List.drop_zero, List.getElem_cons_zero] at h0
   have ih := (chunks hk ys (cs.drop k)).1 ⟨by simp only [List.length_drop, List.length_cons, Nat.succ_mul] at h1 ⊢; omega, fun i hi => by
    have := h2 (i + 1) (by simp; omega)
    rw [List.drop_drop, Nat.add_comm k, ← Nat.succ_mul]
    exact this⟩
   rw [List.map_cons, List.flatten_cons, ← ih, ← h0, List.take_append_drop]
  ·rintro rfl
   rw [List.map_cons, List.flatten_cons]
   obtain ⟨g1, g2⟩ := (chunks hk ys (ys.map cf).flatten).2 rfl
   refine ⟨by rw [List.length_append, hk, g1, List.length_cons, Nat.succ_mul, Nat.add_comm], fun i hi => ?_⟩
   cases i with
   | zero => rw [Nat.zero_mul, List.drop_zero, List.take_left' (hk y)]; rfl
   | succ i =>
    rw [Nat.succ_mul, Nat.add_comm, ← List.drop_drop, List.drop_left' (hk y)]
    exact g2 i (by simpa using hi)
theorem Pl.array {n : Nat} (h : Pl β) : Pl (Vector β n) := fun x => by
 have hcl : ∀ y, (Classical.choose (h y)).length = GoT.k β := fun y => Pl.len (Classical.choose_spec (h y)).1
 have hch := chunks hcl x.toList
 refine ⟨(x.toList.map fun y => Classical.choose (h y)).flatten, fun m w cs' => ?_, fun c hc n => ?_⟩
 ·rw [← hch cs']
  constructor
  ·intro hr
   refine ⟨by rw [hr.1]; simp, fun i hi => ?_⟩
   have hi' : i < n := by simpa using hi
   have := ((Classical.choose_spec (h x[i])).1 m w _).1 (hr.2 i hi')
   simpa using this
  ·intro hr
   refine ⟨by rw [hr.1]; simp, fun i hi => ?_⟩
   have := hr.2 i (by simpa using hi)
   exact ((Classical.choose_spec (h x[i])).1 m w _).2 (by simpa using this)
 ·obtain ⟨l, hl, hc⟩ := List.mem_flatten.1 hc
  obtain ⟨y, _, rfl⟩ := List.mem_map.1 hl
  exact (Classical.choose_spec (h y)).2 c hc n
end
end Go.Proofs.YtkmbkaoolacofaaGreat
