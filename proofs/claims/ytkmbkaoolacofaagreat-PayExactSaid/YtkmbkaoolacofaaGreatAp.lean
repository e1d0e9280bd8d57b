/- What is lent for a call; maps that are only read; cells of arrays by a number that varies; more of makeSlice. No program is named here. -/
import Derived.Test.YtkmbkaoolacofaaGreatOa
import Derived.Test.YtkmbkaoolacofaaGreatKey
import Derived.Lib.AppendZerosOnto
namespace Go.Proofs.YtkmbkaoolacofaaGreat
open Go.RowKit

/-! ### Lending: all that there is may be read for the time of a call -/
def allM (w : World) (m : Nat → Nat) : Nat → Nat := fun b => match w.heap[b]? with
 | some (.cells cs _ _) => if m b < cs.size then cs.size else m b
 | _ => m b
theorem allM_le (w : World) (m : Nat → Nat) (b : Nat) : m b ≤ allM w m b := by
 unfold allM
 split
 ·split <;> omega
 ·exact Nat.le_refl _
theorem allM_cells {w : World} {m : Nat → Nat} {b : Nat} {cs : Array Value} {t : TypeId} {fr : Nat × Nat} (h : w.heap[b]? = some (.cells cs t fr)) : cs.size ≤ allM w m b := by
 unfold allM
 rw [h]
 simp only
 split <;> omega
theorem ch_all (m : Nat → Nat) (w : World) : Ch m w (allM w m) w := ⟨Nat.le_refl _, fun b _ => allM_le w m b, fun _ _ _ _ => rfl⟩
def lent (g : Gh) (w : World) : Gh := { m := allM w g.m, o := g.o }
section
variable {α : Type} [GoT α] {i : Nat} {g g' : Gh} {w w' : World} {t : TypeId} {x : α} {xs : List α} {p v : Value}
theorem OM.lent (h : OM i g w t xs v) : RV (allM w g.m) w xs v := by
 rcases h with ⟨rfl, rfl⟩ | ⟨b, c, cs, rfl, hc, ho, hm, hh, hsz, hf⟩
 ·exact RV_nil
 obtain ⟨fr, hh1, _⟩ := hh
 refine RV_list_mk rfl hc fun _ => ⟨b, 0, rfl, lt_of_heap hh1, ?_, (hf.ch (ch_all _ _)).row fun j v hj => ?_⟩
 ·have := allM_cells (m := g.m) hh1
  omega
 ·rw [List.getElem?_take] at hj
  split at hj
  ·rw [CF.cell ⟨fr, hh1, by assumption⟩, Nat.zero_add]
   simpa using hj
  ·cases hj
theorem RV.lent {y : α} (h : RV g.m w y v) : RV (allM w g.m) w y v := h.ch (ch_all _ _)
end
section
variable {P : Program} {e : Env} {w : World} {g : Gh} {K : Value → World → Prop} {x y z : Operand}
theorem unlend {g : Gh} {w : World} {g1 : Gh} {w' : World} (hx : Ext (lent g w) w g1 w') : Ext g w { m := fun b => if b < w.heap.size then g.m b else g1.m b, o := g1.o } w' :=
 ⟨hx.below, fun b hb => by simp [hb], hx.o⟩
theorem D_callF {f : FuncId} {xs : List Operand} {vs : List Value} {ats : Array TypeId} {R : Value → Prop} (hent : Enters P f) (ha : Args e xs vs)
  (hc : Fn P f vs.toArray (lent g w) w (fun _ _ v => R v)) (h : ∀ g' w' v, Ext g w g' w' → R v → K v w') : Doe P (.call { callee := .value (.func f), args := xs.toArray, argTypes := ats }) e w K :=
 D_call (g := lent g w) hent ha hc fun _ _ _ hx hr => h _ _ _ (unlend hx) hr
theorem D_callGF {f : FuncId} {xs : List Operand} {vs : List Value} {ats : Array TypeId} {R : Gh → World → Value → Prop} (hent : Enters P f) (ha : Args e xs vs)
  (hc : FnG P f vs.toArray (lent g w) w R) (h : ∀ g1 w' v, Ext (lent g w) w g1 w' → R g1 w' v → K v w') : Doe P (.call { callee := .value (.func f), args := xs.toArray, argTypes := ats }) e w K :=
 D_callG (g := lent g w) hent ha hc h
end

/-! ### Maps that are only read -/
section
variable {κ ν : Type} [GoT ν] {enc : κ → Value}
def MR (enc : κ → Value) (g : Gh) (w : World) (m : List (κ × ν)) (v : Value) : Prop := (v = .map none ∧ m = []) ∨ ∃ i, MP enc i g w m v
def MQ (enc : κ → Value) (n : Nat) (g : Gh) (w : World) (m : List (κ × ν)) (v : Value) : Prop := (v = .map none ∧ m = []) ∨ (MP enc 0 g w m v ∧ ∀ b, v = .map (some b) → b < n)
variable {g g' : Gh} {w w' : World} {m : List (κ × ν)} {v : Value} {i n : Nat}
theorem MR.nil : MR enc g w ([] : List (κ × ν)) (.map none) := .inl ⟨rfl, rfl⟩
theorem MP.r (h : MP enc i g w m v) : MR enc g w m v := .inr ⟨_, h⟩
theorem MQ.r (h : MQ enc n g w m v) : MR enc g w m v := h.imp id fun h => ⟨_, h.1⟩
theorem MP.lt {b : Nat} (h : MP enc i g w m (.map (some b))) : b < w.heap.size := by
 obtain ⟨b', es, cl, hv, _, hh, _⟩ := h
 injection hv with hv; injection hv with hv; subst hv
 exact lt_of_heap hh
theorem MQ.enter {g0 gI : Gh} {wI : World} (h : MR enc gI wI m v) (hm : g0.m = gI.m) (hfr : Fr gI wI g0 wI) : MQ enc wI.heap.size g0 wI m v := by
 rcases h with h | ⟨i, h⟩
 ·exact .inl h
 refine .inr ⟨?_, fun b hb => by subst hb; exact h.lt⟩
 obtain ⟨b, es, cl, hv, ho, hh, h1, h2, h3⟩ := h
 exact ⟨b, es, cl, hv, hfr.o b (lt_of_heap hh), hh, h1, h2, hm ▸ h3⟩
theorem MQ.ext (h : MQ enc n g w m v) (k : Ext g w g' w') : MQ enc n g' w' m v := h.imp id fun h => ⟨h.1.ext k, h.2⟩
theorem MQ.stp {j : Nat} (h : MQ enc n g w m v) (k : Stp (j + 1) g w g' w') : MQ enc n g' w' m v := h.imp id fun h => ⟨h.1.stp k (by cases j <;> rfl), h.2⟩
variable {P : Program} {e : Env} {K : Value → World → Prop} {x y z : Operand} [DecidableEq κ]
end

/-! ### Cells of an array, by a number that varies -/
section
variable {β : Type} [GoT β] {n : Nat}
def vset {β : Type} {n : Nat} (v : Vector β n) (i : Int) (y : β) : Vector β n := v.setIfInBounds i.toNat y
def vat {β : Type} {n : Nat} (i : Nat) (h : i < n) (v : Vector β n) : β := v[i]
omit [GoT β] in
theorem vat_idx {v : Vector β n} {i : Int} {a : β} (h : idx v.toList i = some a) : ∃ hi : i.toNat < n, vat i.toNat hi v = a := let ⟨_, hi, h⟩ := vec_idx h; ⟨hi, h⟩
theorem SubS.dyn {i : Int} (hi : i.toNat < n) : SubS (α := Vector β n) (i.toNat * GoT.k β) (vat i.toNat hi) (fun v y => vset v i y) := by
 have h := SubS.vec (β := β) hi
 refine ⟨h.1, fun m w x y cs cy hx hy => ?_⟩
 have := h.2 m w x y cs cy hx hy
 have he : vset x i y = x.set i.toNat y hi := by
  unfold vset
  apply Vector.ext
  intro j hj
  simp [Vector.getElem_setIfInBounds, Vector.getElem_set]
 show GoT.rep m w (vset x i y) _
 rw [he]; exact this
variable {P : Program} {e : Env} {w : World} {g : Gh} {K : Value → World → Prop} {a1 : Operand}
theorem D_loadD {α β : Type} [GoT α] [GoT β] {i off : Nat} {f : α → β} {t t2 : TypeId} {p : Value} {a : α} {b : β} (hsub : Sub off f) (he : f a = b) (ha : ∀ w, (isAgg t).run P w = .ok (GoT.agg β) w) (hs : ∀ w, (sizeOf t).run P w = .ok (GoT.k β) w) (hx : ev e a1 = fPtr p off) (hp : OB i g w t2 a p)
  (h : ∀ v, RV g.m w b v → K v w) : Doe P (.load t a1) e w K := by
 subst he; exact D_loadF hsub ha hs hx hp h
theorem L_loadOD {α β : Type} [GoT α] [GoT β] {i off : Nat} {f : α → β} {P : Program} {g0 : Gh} {w0 : World} {t t2 : TypeId} {x : Operand} {p : Value} {a : α} {b : β} {K : Prop} (hsub : Sub off f) (he : f a = b) (ha : ∀ w, (isAgg t).run P w = .ok (GoT.agg β) w) (hs : ∀ w, (sizeOf t).run P w = .ok (GoT.k β) w) (hp : OB i g0 w0 t2 a p)
  (k : ∀ v, RV g0.m w0 b v → (∀ (e : Env) (g : Gh) (w : World), (Ch g0.m w0 g.m w ∧ ∀ b, b < w0.heap.size → g0.o b = i → w.heap[b]? = w0.heap[b]?) → ev e x = fPtr p off → ∀ d ty pos af gd, (execOp (ev e) ⟨d, .load t x, ty, pos, af, gd⟩).run P w = .ok (.value v) w) → K) : K := by
 subst he; exact L_loadO hsub ha hs hp k
end
/-! ### A pointer to an element, or nil -/
section
variable {P : Program} {e : Env} {x y : Operand}
end

/-! ### A variable that a draw makes and stores to -/
def varA {α : Type} [GoT α] (i : Nat) (t2 : TypeId) (a0 a1 : α) (v : Value) : Fact := fun g w => OB i g w t2 a0 v ∨ OB i g w t2 a1 v
def varRel {α : Type} [GoT α] (i : Nat) (t2 : TypeId) (a0 a1 : α) : StepRel := { rel := fun g w g' w' => Stp i g w g' w' ∧ ∀ v, (OB i g w t2 a1 v → OB i g' w' t2 a1 v) ∧ (varA i t2 a0 a1 v g w → varA i t2 a0 a1 v g' w') }
section
variable {α : Type} [GoT α] {i : Nat} {t2 : TypeId} {a0 a1 : α} {g g' : Gh} {w w' : World}
theorem var_ext (h : Ext g w g' w') : (varRel i t2 a0 a1).rel g w g' w' := ⟨h.stp, fun _ => ⟨fun k => k.ext h, fun k => k.imp (·.ext h) (·.ext h)⟩⟩
theorem up_var0 {v : Value} : Up (varRel i t2 a0 a1) (varA i t2 a0 a1 v) := fun _ _ _ _ hx h => (hx.2 v).2 h
theorem up_var1 {v : Value} : Up (varRel i t2 a0 a1) (fun g w => OB i g w t2 a1 v) := fun _ _ _ _ hx h => (hx.2 v).1 h
theorem upV_ob {β : Type} [GoT β] {j : Nat} {t : TypeId} {x : β} {v : Value} (hj : Nat.beq j i = false := by rfl) : Up (varRel i t2 a0 a1) (fun g w => OB j g w t x v) := fun _ _ _ _ hx h => h.stp hx.1 hj
variable {P : Program} {N : Nat}
def UpE (SR : StepRel) : List (Nat × (Env → Value → Fact)) → Prop
 | [] => True
 | (_, φ) :: l => (∀ e v, Up SR (φ e v)) ∧ UpE SR l
def WokE (ops : Array Oper) : List (Nat × (Env → Value → Fact)) → Prop
 | [] => True
 | (i, φ) :: l => (∀ oi d e v, ops[i]? = some oi → clearOf ops oi d = true → φ (updO e d v) = φ e) ∧ WokE ops l
theorem upE_get {SR : StepRel} : ∀ {l : List (Nat × (Env → Value → Fact))}, UpE SR l → ∀ i φ e v, l.lookup i = some φ → Up SR (φ e v)
 | [], _, i, φ, e, v, h => by cases h
 | (k, ψ) :: l, hu, i, φ, e, v, h => by
  rw [List.lookup_cons] at h
  split at h
  ·injection h with h; subst h; exact hu.1 e v
  ·exact upE_get hu.2 i φ e v h
theorem wokE_get {ops : Array Oper} : ∀ {l : List (Nat × (Env → Value → Fact))}, WokE ops l → WOk ops (fun i => l.lookup i)
 | [], _, i, φ, _, _, _, _, h, _, _ => by cases h
 | (k, ψ) :: l, hu, i, φ, oi, d, e, v, h, ho, hc => by
  simp only [List.lookup_cons] at h
  split at h
  ·rename_i hk
   injection h with h; subst h
   have hk : i = k := by simpa using hk
   subst hk
   exact hu.1 oi d e v ho hc
  ·exact wokE_get hu.2 i φ oi d e v h ho hc
theorem wok_store {ops : Array Oper} {i : Nat} {t : TypeId} {x y : Operand} {A : Value → Fact} (ho : (ops[i]?).map (·.op) = some (.store t x y)) : ∀ oi d e v, ops[i]? = some oi → clearOf ops oi d = true → (fun (_ : Value) => A (ev (updO e d v) x)) = (fun _ => A (ev e x)) := fun oi d e v hoi hc => by
 rw [hoi] at ho
 have ho' : oi.op = .store t x y := Option.some.inj ho
 have : ev (updO e d v) x = ev e x := by
  cases d with
  | none => rfl
  | some d =>
   refine ev_clear fun t' ht => upd_ne _ _ fun h => ?_
   subst ht; subst h
   have : t' ∈ oi.looksAt ops := List.mem_append_left _ (List.mem_filterMap.2 ⟨.tmp t', by rw [ho']; simp [Op.operands], rfl⟩)
   simp [clearOf, this] at hc
 rw [this]
theorem E_drawV {n : Nat} {ro : Option Nat} {Q' : Post} {id : Nat} {ops : List Oper} {e : Env} {ds : List Deferred} (words : List (Nat × (Env → Value → Fact))) (ix : List Nat) (hix : ix = List.range n) (hm : P.follows .mixedOrders = true) (hok : lexOk N ops.toArray n = true) (hΦ : UpE (varRel i t2 a0 a1) words) (hW : WokE ops.toArray words)
  (h : Lex (varRel i t2 a0 a1) P ops.toArray (fun g' w' => Stp i g w g' w') (fun i => words.lookup i) (fun e' _ w' => EL P N ro ops.toArray (ops.drop n) Q' e' ds w') ix (fun _ _ _ => True) e) : E P N ro (.region id ops.toArray true) Q' e ds w :=
 E_drawR (SR := varRel i t2 a0 a1) (fun g' w' => Stp i g w g' w') (fun i => words.lookup i) hm hok (fun _ _ _ _ hx h => h.trans hx.1) (ext_drew g w).stp (upE_get hΦ) (wokE_get hW) (hix ▸ h)
theorem D_storeV {i : Nat} {t2 : TypeId} {a0 a1 : α} {g : Gh} {w : World} {e : Env} {o1 o2 : Operand} {t : TypeId} {p v : Value} (hs : ∀ w, (sizeOf t).run P w = .ok (GoT.k α) w) (hx : ev e o1 = p) (hp : varA i t2 a0 a1 p g w) (hy : ev e o2 = v) (hv : RV g.m w a1 v) :
  Doe P (.store t o1 o2) e w fun _ w' => ∃ g', (varRel i t2 a0 a1).rel g w g' w' ∧ OB i g' w' t2 a1 p := fun d ty pos af gd => by
 have key : ∀ a : α, OB i g w t2 a p → doE P ⟨d, .store t o1 o2, ty, pos, af, gd⟩ e w fun _ w' => ∃ g', (varRel i t2 a0 a1).rel g w g' w' ∧ OB i g' w' t2 a1 p := fun a hp => by
  obtain ⟨b, cs, rfl, ho, hm, hh, hr⟩ := hp
  have hsz := cells_size hv
  have hl := GoT.len hr
  have hrow : cs.toList.take 0 ++ v.cells.toList ++ cs.toList.drop (0 + v.cells.size) = v.cells.toList := by
   rw [List.take_zero, List.nil_append, List.drop_of_length_le (by simp at hl; simp; omega), List.append_nil]
  have hrun := storeVar_run (P := P) (t := t) (v := v) (b := b) (o := 0) (by rw [hsz]; exact hs) hh (by simp at hl; omega) (GoT.one hv.cells)
  rw [hrow] at hrun
  have hstp : Stp i g w g (w.setRow b v.cells.toList.toArray) := stp_row hh ho (fun j hj => by rw [hm] at hj; omega)
  have hrun2 : (execOp (ev e) ⟨d, .store t o1 o2, ty, pos, af, gd⟩).run P w = .ok .skip (w.setRow b v.cells.toList.toArray) := by
   simp [execOp, hx, hy, Instr.storeAt, Instr.sureAddr, Result.andThen, hrun]
  unfold doE; rw [hrun2]
  have hb : OB i g (w.setRow b v.cells.toList.toArray) t2 a1 (.pointer (some ⟨b, 0, none⟩)) := ⟨b, _, rfl, ho, hm, setRow_cells _ _ hh, by simpa using GoT.mono hstp.ch hv.cells⟩
  have oth : ∀ (a : α) (u : Value), u ≠ .pointer (some ⟨b, 0, none⟩) → OB i g w t2 a u → OB i g (w.setRow b v.cells.toList.toArray) t2 a u := fun a u hne ⟨b2, cs2, hu, ho2, hm2, hh2, hr2⟩ => by
   have hbb : b2 ≠ b := fun he => hne (by rw [hu, he])
   refine ⟨b2, cs2, hu, ho2, hm2, ?_, GoT.mono hstp.ch hr2⟩
   have hset : (w.setRow b v.cells.toList.toArray).heap[b2]? = w.heap[b2]? := setRow_other _ _ hbb
   rw [hset]; exact hh2
  refine ⟨g, ⟨hstp, fun u => ?_⟩, hb⟩
  by_cases hu : u = .pointer (some ⟨b, 0, none⟩)
  ·subst hu; exact ⟨fun _ => hb, fun _ => .inr hb⟩
  ·exact ⟨oth _ _ hu, fun k => k.imp (oth _ _ hu) (oth _ _ hu)⟩
 rcases hp with hp | hp
 ·exact key _ hp
 ·exact key _ hp
end

/-! ### A variable that holds an own slice -/
def BX {α : Type} [GoT α] (i j : Nat) (g : Gh) (w : World) (et bt : TypeId) (xs : List α) (p : Value) : Prop := ∃ q : Fv, OB i g w bt q p ∧ OM j g w et xs q.v
section
variable {α : Type} [GoT α] {i j k : Nat} {g g' : Gh} {w w' : World} {et bt : TypeId} {xs : List α} {p : Value}
theorem BX.ext (h : BX i j g w et bt xs p) (hx : Ext g w g' w') : BX i j g' w' et bt xs p := let ⟨q, h1, h2⟩ := h; ⟨q, h1.ext hx, h2.ext hx⟩
theorem BX.stp (h : BX i j g w et bt xs p) (hx : Stp k g w g' w') (h1 : Nat.beq i k = false) (h2 : Nat.beq j k = false := by rfl) : BX i j g' w' et bt xs p := let ⟨q, k1, k2⟩ := h; ⟨q, k1.stp hx h1, k2.stp hx h2⟩
variable {P : Program} {e : Env} {K : Value → World → Prop} {x y : Operand}
end
section
variable {P : Program} {e : Env} {w : World} {g : Gh} {K : Value → World → Prop} {x y z : Operand}
end

theorem flat_replicate {α : Type} [GoT α] {m : Nat → Nat} {w : World} {x : α} {cs : List Value} (h : GoT.rep m w x cs) : ∀ n : Nat, FlatR m w (List.replicate n x) (List.replicate n cs).flatten
 | 0 => rfl
 | n + 1 => ⟨cs, (List.replicate n cs).flatten, rfl, h, flat_replicate h n⟩
theorem rep_replicate {α : Type} [GoT α] {n : Nat} {m : Nat → Nat} {w : World} {x : α} {cs : List Value} (h : GoT.rep m w x cs) : GoT.rep m w (Vector.replicate n x) (List.replicate n cs).flatten := by
 have := rep_vec (n := n) (flat_replicate h n) (by simp)
 have he : (⟨(List.replicate n x).toArray, by simp⟩ : Vector α n) = Vector.replicate n x := by
  apply Vector.toList_inj.1; simp [Vector.toList]
 rw [he] at this; exact this

/-! ### makeSlice, of structs too -/
section
variable {P : Program} {e : Env} {w : World} {g : Gh} {K : Value → World → Prop} {x y z : Operand}
end
/-! ### bits.Len of small numbers -/
section
variable {P : Program} {e : Env} {x y : Operand}
def u8shr (c : UInt8) (n : Int) : Option UInt8 := if n < 0 then none else some (UInt8.ofNat (c.toNat / 2 ^ (min n.toNat 8)))
theorem P_shr8 {t t2 : TypeId} {c v : UInt8} {n : Int} {k : IntKind} (hx : ev e x = .int .u8 c.toNat) (hy : ev e y = .int k n) (hv : u8shr c n = some v) : Pur P (.binOp .shr t x y t2) e (.int .u8 v.toNat) :=
 P_bin hx hy (fun w => eqGuard_int w) fun w => by
  unfold u8shr at hv
  split at hv
  ·cases hv
  ·rename_i hn
   injection hv with hv; subst hv
   have h1 : c.toNat / 2 ^ (min n.toNat 8) < 256 := Nat.lt_of_le_of_lt (Nat.div_le_self _ _) c.toNat_lt
   have h2 : ((c.toNat : Int)).fdiv (2 ^ (min n.toNat 8)) = ((c.toNat / 2 ^ (min n.toNat 8) : Nat) : Int) := by
    rw [Int.fdiv_eq_ediv_of_nonneg _ (Int.pow_nonneg (by decide))]
    simp
   have h3 : (UInt8.ofNat (c.toNat / 2 ^ (min n.toNat 8))).toNat = c.toNat / 2 ^ (min n.toNat 8) := by
    rw [UInt8.toNat_ofNat']; exact Nat.mod_eq_of_lt h1
   rw [h3, ← h2]
   simp only [binOp, Op.shift, if_neg hn]; rfl
theorem P_and8 {t t2 : TypeId} {c d : UInt8} (hx : ev e x = .int .u8 c.toNat) (hy : ev e y = .int .u8 d.toNat) : Pur P (.binOp .and t x y t2) e (.int .u8 (c &&& d).toNat) :=
 P_bin hx hy (fun w => eqGuard_int w) fun w => by
  have h1 : (BitVec.ofInt 8 (c.toNat : Int) &&& BitVec.ofInt 8 (d.toNat : Int)).toNat = (c &&& d).toNat := by
   rw [UInt8.toNat_and]
   simp [BitVec.toNat_and]
  have h2 : IntKind.u8.wrap ((c &&& d).toNat : Int) = ((c &&& d).toNat : Int) := by
   rw [wrap_u8]; have := (c &&& d).toNat_lt; omega
  have h3 : (binOp .and t (.int .u8 c.toNat) (.int .u8 d.toNat)).run P w = .ok (.int .u8 (IntKind.u8.wrap ((BitVec.ofInt 8 (c.toNat : Int) &&& BitVec.ofInt 8 (d.toNat : Int)).toNat : Int))) w := by
   simp only [binOp, ne_eq, not_true_eq_false, if_false, Op.intBits]; rfl
  rw [h3, h1, h2]
end
end Go.Proofs.YtkmbkaoolacofaaGreat
/- Steps of a walk under short names. No program is named here. -/
namespace Go.Proofs.YtkmbkaoolacofaaGreat
open Go.RowKit
section
variable {P : Program} {N : Nat} {ro : Option Nat} {Q : Post} {e : Env} {ds : List Deferred} {w : World} {ops : Array Oper} {rest : List Oper} {d : Option Tmp} {ty : TypeId} {pos : String} {af : Array Edge} {x y : Operand}
theorem EL_mv {v : Value} (hx : ev e x = v) (hd : okO N d = true) (h : EL P N ro ops rest Q (updO e d v) ds w) : EL P N ro ops (⟨d, .move x, ty, pos, af, none⟩ :: rest) Q e ds w :=
 EL_pur (P_move hx) .plain (by simpa [nodef] using hd) h
theorem EL_as {v : Value} (hx : ev e x = v) (hd : okO N d = true) (h : EL P N ro ops rest Q (updO e d v) ds w) : EL P N ro ops (⟨d, .assign x, ty, pos, af, none⟩ :: rest) Q e ds w :=
 EL_pur (P_assign hx) .plain (by simpa [nodef] using hd) h
theorem EL_mw (v : Value) (hx : ev e x = v) (hd : okO N d = true) (h : EL P N ro ops rest Q (updO e d v) ds w) : EL P N ro ops (⟨d, .move x, ty, pos, af, none⟩ :: rest) Q e ds w := EL_mv hx hd h
theorem EL_at (v : Value) (hx : ev e x = v) (hd : okO N d = true) (h : EL P N ro ops rest Q (updO e d v) ds w) : EL P N ro ops (⟨d, .assign x, ty, pos, af, none⟩ :: rest) Q e ds w := EL_as hx hd h
theorem EL_in {op : BinOp} {t t2 : TypeId} {m n : Int} (v : Value) (hx : ev e x = .int .i64 m) (hy : ev e y = .int .i64 n) (hv : iop op m n = some v) (hd : okO N d = true) (h : EL P N ro ops rest Q (updO e d v) ds w) : EL P N ro ops (⟨d, .binOp op t x y t2, ty, pos, af, none⟩ :: rest) Q e ds w :=
 EL_pur (P_int hx hy hv) .plain (by simpa [nodef] using hd) h
theorem E_ct {c : Operand} {a b : Code} {t : Bool} (ht : t = true) (hc : ev e c = .bool t) (h : E P N ro a Q e ds w) : E P N ro (.cond c a b) Q e ds w := E_cond_true (hc.trans (congrArg Value.bool ht)) h
theorem E_cf {c : Operand} {a b : Code} {t : Bool} (ht : t = false) (hc : ev e c = .bool t) (h : E P N ro b Q e ds w) : E P N ro (.cond c a b) Q e ds w := E_cond_false (hc.trans (congrArg Value.bool ht)) h
end
section
variable {SR : StepRel} {P : Program} {N : Nat} {ops : Array Oper} {C : Fact} {Φ : Words} {F : Nat → Fact} {Q : Env → Fact} {e : Env} {i : Nat} {l : List Nat} {ro : Option Nat} {R : Post} {ds : List Deferred} {w : World} {rest : List Oper}
variable {op : Op} {ty : TypeId} {pos : String} {af : Array Edge} {gd : Option (Nat × Bool)} {d : Option Tmp} {j t : Nat} {b b' c' : Bool}
theorem L_p (c : Value) (ho : ops[i]? = some ⟨d, op, ty, pos, af, none⟩) (hφ : Φ i = none) (hc : Pur P op e c)
  (k : Lex SR P ops C Φ Q l (setF F i (fun g w => ∀ j ∈ directOf ⟨d, op, ty, pos, af, none⟩, F j g w)) (updO e d c)) (hnl : SR.late i = false := by rfl) : Lex SR P ops C Φ Q (i :: l) F e :=
 L_pur (c := c) ho hφ .plain (fun _ _ _ => hc) k hnl
theorem L_y (c : Value) (ho : ops[i]? = some ⟨d, op, ty, pos, af, some (j, b)⟩) (hφ : Φ i = none) (hd : (ops[j]?).bind (·.dst) = some t) (he : e t = .bool b') (hb : b' = b) (hc : Pur P op e c)
  (k : Lex SR P ops C Φ Q l (setF F i (fun g w => ∀ j' ∈ directOf ⟨d, op, ty, pos, af, some (j, b)⟩, F j' g w)) (updO e d c)) (hnl : SR.late i = false := by rfl) : Lex SR P ops C Φ Q (i :: l) F e :=
 L_pur (c := c) ho hφ (.yes2 hd he hb) (fun _ _ _ => hc) k hnl
theorem L_s (ho : ops[i]? = some ⟨d, op, ty, pos, af, some (j, b)⟩) (hd : (ops[j]?).bind (·.dst) = some t) (he : e t = .bool b') (hb : b' = c') (hc : (c' == b) = false) (k : Lex SR P ops C Φ Q l (setF F i (fun _ _ => True)) (updO e d undef)) : Lex SR P ops C Φ Q (i :: l) F e :=
 L_skip ho (.no2 hd he hb hc) k
theorem L_nl (h : ∀ g w, C g w → Q e g w) : Lex SR P ops C Φ Q [] F e := L_nil fun g w ha => h g w ha.1
theorem EL_p (v : Value) (h1 : Pur P op e v) (hd : (nodef op && okO N d) = true) (h : EL P N ro ops rest R (updO e d v) ds w) : EL P N ro ops (⟨d, op, ty, pos, af, none⟩ :: rest) R e ds w := EL_pur h1 .plain hd h
theorem EL_y (v : Value) (h1 : Pur P op e v) (hd : (ops[j]?).bind (·.dst) = some t) (he : e t = .bool b') (hb : b' = b) (hd' : (nodef op && okO N d) = true) (h : EL P N ro ops rest R (updO e d v) ds w) : EL P N ro ops (⟨d, op, ty, pos, af, some (j, b)⟩ :: rest) R e ds w := EL_pur h1 (.yes2 hd he hb) hd' h
theorem EL_s (hd : (ops[j]?).bind (·.dst) = some t) (he : e t = .bool b') (hb : b' = c') (hc : (c' == b) = false) (hd' : okO N d = true) (h : EL P N ro ops rest R (updO e d undef) ds w) : EL P N ro ops (⟨d, op, ty, pos, af, some (j, b)⟩ :: rest) R e ds w := EL_skip (.no2 hd he hb hc) hd' h
end
section
variable {P : Program} {e : Env} {w : World} {g : Gh} {K : Value → World → Prop} {x y : Operand}
end
theorem sinj.{u} {α : Type u} {a b : α} (h : some a = some b) : a = b := Option.some.inj h
end Go.Proofs.YtkmbkaoolacofaaGreat
/- slices.Grow of nil: an own slice of nothing, with room. No program is named here. -/
namespace Go.Proofs.YtkmbkaoolacofaaGreat
open Go.RowKit Go.Lib

section
variable {P : Program} {e : Env} {w : World} {g : Gh} {K : Value → World → Prop} {x y z : Operand}
end
section
variable {P : Program} {N : Nat} {w : World} {g : Gh}
end
end Go.Proofs.YtkmbkaoolacofaaGreat
/- Appends to own slices in regions that draw their order. No program is named here. -/
namespace Go.Proofs.YtkmbkaoolacofaaGreat
open Go.RowKit

section
variable {α : Type} [GoT α] {i : Nat} {et : TypeId} {xs r : List α} {u : Value} {g g' : Gh} {w w' : World}
variable {P : Program} {N : Nat}
end
end Go.Proofs.YtkmbkaoolacofaaGreat
