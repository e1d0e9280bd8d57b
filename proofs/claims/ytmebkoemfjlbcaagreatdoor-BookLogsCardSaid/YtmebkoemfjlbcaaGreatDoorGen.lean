/- Laws that printed proofs lean on: loops and joins of a plain function, parts of a variable that are written, steps of a drawing region. No program is named here. -/
import Derived.Test.YtmebkoemfjlbcaaGreatDoorLex
import Derived.Laws.StructEq
import Derived.Laws.Cover3
namespace Go.Proofs.YtmebkoemfjlbcaaGreatDoor
open Go.RowKit

theorem Z1.{u, v} {α : Type u} {β : Type v} {x : Option α} {f : α → Option β} {r : β} (h : x.bind f = some r) : ∃ a, x = some a ∧ f a = some r := by
 cases x with
 | none => cases h
 | some a => exact ⟨a, rfl, h⟩
theorem Zt {β : Type} {c : Bool} {x y : Option β} {r : β} (h : (bif c then x else y) = some r) : (c = true ∧ x = some r) ∨ (c = false ∧ y = some r) := by
 cases c
 ·exact .inr ⟨rfl, h⟩
 ·exact .inl ⟨rfl, h⟩
def lp {σ ρ : Type} (body : (σ → Option ρ) → σ → Option ρ) (m : Nat) : σ → Option ρ := Nat.rec (fun _ => none) (fun _ ih s => body ih s) m
theorem Sr {σ ρ : Type} (body : (σ → Option ρ) → σ → Option ρ) (m : Nat) (s : σ) : lp body (m + 1) s = body (lp body m) s := rfl
theorem Lk {σ ρ : Type} (body : (σ → Option ρ) → σ → Option ρ) (s : σ) : lp body 0 s = none := rfl
@[irreducible] def big : Nat := 18446744073709551616
theorem Nu : ∀ n, n < 18446744073709551616 → n < big := by unfold big; exact fun _ h => h
def jn {σ ρ : Type} (k : σ → Option ρ) (f : (σ → Option ρ) → Option ρ) : Option ρ := f k

theorem Jb {α β : Type} {a a' : α} {b b' : β} (h : some (a, b) = some (a', b')) : a = a' ∧ b = b' := by simpa using h
def Nl (a b : Str) : Option Str := if a.b.length + b.b.length ≤ 9223372036854775807 then some ⟨a.b ++ b.b⟩ else none
theorem C8 {a b c : Str} (h : Nl a b = some c) : sop .add a b = some c.v := by
 unfold Nl at h; unfold sop
 split at h
 ·rename_i hn; injection h with h; subst h; simp only [if_pos hn]
 ·cases h
theorem Tc {b : Bool} {x y v : Value} (h : b = true) (hx : x = v) : (bif b then x else y) = v := by subst h; exact hx
theorem Gz {b : Bool} {x y v : Value} (h : b = false) (hy : y = v) : (bif b then x else y) = v := by subst h; exact hy
section
variable {P : Program} {N : Nat} {ro : Option Nat} {Q : Kx} {e : Env} {ds : List Deferred} {w : World} {x y c : Code}
theorem Zd {K : Env → List Deferred → World → Prop} (h : K e ds w) : thn K Q .normal e ds w := h
theorem Tf {id : Nat} (h : Q .normal e ds w) : Dy id Q (.exit id) e ds w := by simp only [Dy, if_true]; exact h
theorem G5 {K : Env → List Deferred → World → Prop} {i : Nat} (h : Q (.exit i) e ds w) : thn K Q (.exit i) e ds w := h
theorem Gf {K : Env → List Deferred → World → Prop} (h : Q .ret e ds w) : thn K Q .ret e ds w := h
theorem G2 {id : Nat} (h : Q .ret e ds w) : Dy id Q .ret e ds w := h
theorem Th {id : Nat} (h : Q .normal e ds w) : Dy id Q .normal e ds w := h
theorem G6 (R : Env → World → Prop) (h1 : ∀ Q' : Kx, (∀ e w, R e w → Q' .normal e ds w) → E P N ro x Q' e ds w) (h2 : ∀ e w, R e w → E P N ro y Q e ds w) : E P N ro (.seq x y) Q e ds w :=
 Zf (h1 _ h2)
theorem Zq {σ ρ : Type} {r : ρ} {k : σ → Option ρ} {f : (σ → Option ρ) → Option ρ} (hr : jn k f = some r) (R : σ → Env → World → Prop)
  (h1 : ∀ (X : Env → List Deferred → World → Prop) (k : σ → Option ρ), (∀ s e w, R s e w → k s = some r → X e ds w) → f k = some r → E P N ro x (thn X Q) e ds w)
  (h2 : ∀ s e w, R s e w → k s = some r → E P N ro y Q e ds w) : E P N ro (.seq x y) Q e ds w :=
 Zf (h1 _ k (fun s e w hR hk => h2 s e w hR hk) hr)
theorem Kv {σ ρ : Type} {r : ρ} {m : Nat} {s : σ} {body : (σ → Option ρ) → σ → Option ρ} (hr : lp body m s = some r) (R : σ → Env → World → Prop) (h0 : R s e w)
  (step : ∀ (X : Env → List Deferred → World → Prop) (rec : σ → Option ρ), (∀ s e w, R s e w → rec s = some r → X e ds w) → ∀ s e w, R s e w → body rec s = some r → E P N ro c (thn X Q) e ds w) : E P N ro (.loop c) Q e ds w := by
 refine A7 m ?_
 revert s e w
 induction m with
 | zero => intro e w s hr h0; rw [Lk] at hr; cases hr
 | succ m ih =>
  intro e w s hr h0
  rw [Sr] at hr
  exact step _ (lp body m) (fun s e w hR hk => ih hk hR) s e w h0 hr

/-! ### Parts of a variable that are written -/
def Gr {α β : Type} [GoT α] [GoT β] (off : Nat) (f : α → β) (s : α → β → α) : Prop :=
 Sub off f ∧ ∀ m w x y (cs cy : List Value), GoT.rep m w x cs → GoT.rep m w y cy → GoT.rep m w (s x y) (cs.take off ++ cy ++ cs.drop (off + cy.length))
theorem Gr.fst {α β : Type} [GoT α] [GoT β] : Gr (α := α × β) 0 Prod.fst (fun x y => (y, x.2)) := by
 refine ⟨Sub.fst, ?_⟩
 rintro m w x y cs cy ⟨c1, c2, rfl, h1, h2⟩ hy
 refine ⟨cy, c2, ?_, hy, h2⟩
 rw [GoT.len hy, Nat.zero_add, ← GoT.len h1, List.take_zero, List.nil_append, List.drop_left']
 rfl
theorem Gr.snd {α β : Type} [GoT α] [GoT β] : Gr (α := α × β) (GoT.k α) Prod.snd (fun x y => (x.1, y)) := by
 refine ⟨Sub.snd, ?_⟩
 rintro m w x y cs cy ⟨c1, c2, rfl, h1, h2⟩ hy
 refine ⟨c1, cy, ?_, h1, hy⟩
 rw [GoT.len hy, ← GoT.len h1, List.take_left' rfl, List.drop_of_length_le, List.append_nil]
 rw [List.length_append, GoT.len h2]
 exact Nat.le_refl _
theorem Gr.id_ {α : Type} [GoT α] : Gr (α := α) 0 (fun x => x) (fun _ y => y) := by
 refine ⟨Sub.id_, fun m w x y cs cy h hy => ?_⟩
 rw [List.take_zero, List.nil_append, List.drop_of_length_le, List.append_nil]
 ·exact hy
 ·rw [GoT.len hy, ← GoT.len h, Nat.zero_add]; exact Nat.le_refl _
theorem D5 {a n : Nat} (l : List Value) (h : a ≤ n) : (l.take n).drop a ++ l.drop n = l.drop a := by
 by_cases hn : n ≤ l.length
 ·have h1 : l.drop a = (l.take n ++ l.drop n).drop a := by rw [List.take_append_drop]
  rw [h1, List.drop_append_of_le_length (by rw [List.length_take]; omega)]
 ·rw [List.take_of_length_le (by omega), List.drop_of_length_le (i := n) (by omega), List.append_nil]
theorem Gr.comp {α β γ : Type} [GoT α] [GoT β] [GoT γ] {o1 o2 o : Nat} {f : α → β} {h : β → γ} {s : α → β → α} {t : β → γ → β} (h1 : Gr o1 f s) (h2 : Gr o2 h t) (ho : o = o1 + o2) :
  Gr o (fun x => h (f x)) (fun x y => s x (t (f x) y)) := by
 subst ho
 refine ⟨h1.1.comp h2.1 rfl, fun m w x y cs cy hx hy => ?_⟩
 have hf := h1.1.2 m w x cs hx
 have ht := h2.2 m w _ y _ cy hf hy
 have hs := h1.2 m w x _ cs _ hx ht
 have hb1 := h1.1.1
 have hb2 := h2.1.1
 have hl := GoT.len hx
 have hly := GoT.len hy
 have hlt := GoT.len ht
 rw [hlt] at hs
 have e1 : (cs.drop o1).take o2 = (cs.drop o1).take o2 := rfl
 have : cs.take (o1 + o2) ++ cy ++ cs.drop (o1 + o2 + cy.length) = cs.take o1 ++ (List.take o2 (List.take (GoT.k β) (List.drop o1 cs)) ++ cy ++ List.drop (o2 + cy.length) (List.take (GoT.k β) (List.drop o1 cs))) ++ cs.drop (o1 + GoT.k β) := by
  rw [List.take_add, List.take_take, Nat.min_eq_left (by omega)]
  have hd : List.drop (o2 + cy.length) (List.take (GoT.k β) (List.drop o1 cs)) ++ cs.drop (o1 + GoT.k β) = cs.drop (o1 + o2 + cy.length) := by
   rw [hly]
   have : List.drop (o1 + o2 + GoT.k γ) cs = List.drop (o2 + GoT.k γ) (List.drop o1 cs) := by rw [List.drop_drop]; congr 1; omega
   have this2 : List.drop (o1 + GoT.k β) cs = List.drop (GoT.k β) (List.drop o1 cs) := by rw [List.drop_drop]
   rw [this, this2]
   exact D5 _ (by omega)
  rw [← hd]
  simp only [List.append_assoc]
 rw [this]
 exact hs
variable {g : Gh} {K : Value → World → Prop} {a1 a2 : Operand}
theorem Ry {α β : Type} [GoT α] [GoT β] {i off : Nat} {f : α → β} {s : α → β → α} {t t2 : TypeId} {p v : Value} {a : α} {b : β} (hsub : Gr off f s) (hs : ∀ w, (sizeOf t).run P w = .ok (GoT.k β) w) (hx : ev e a1 = Gc p off) (hp : OB i g w t2 a p) (hy : ev e a2 = v) (hv : RV g.m w b v)
  (h : ∀ g' w', Stp i g w g' w' → OB i g' w' t2 (s a b) p → K undef w') : Doe P (.store t a1 a2) e w K := fun d ty pos af gd => by
 obtain ⟨bl, cs, rfl, ho, hm, hh, hr⟩ := hp
 have hsz := T4 hv
 have hl := GoT.len hr
 have hb := hsub.1.1
 have hrun := Ki (P := P) (t := t) (v := v) (b := bl) (o := off) (by rw [hsz]; exact hs) hh (by simp at hl; omega) (GoT.one hv.cells)
 have hrep := hsub.2 _ _ _ _ _ _ hr hv.cells
 rw [show v.cells.toList.length = v.cells.size from by simp] at hrep
 generalize hrow : cs.toList.take off ++ v.cells.toList ++ cs.toList.drop (off + v.cells.size) = row at hrun hrep
 have hstp : Stp i g w g (w.setRow bl row.toArray) := Uo hh ho (fun j hj => by rw [hm] at hj; omega)
 have hrun2 : (execOp (ev e) ⟨d, .store t a1 a2, ty, pos, af, gd⟩).run P w = .ok .skip (w.setRow bl row.toArray) := by
  simp [execOp, hx, hy, Gc, Instr.storeAt, Instr.sureAddr, Result.andThen, hrun]
 unfold doE; rw [hrun2]
 exact h g _ hstp ⟨bl, _, rfl, ho, hm, Qa _ _ hh, by simpa using GoT.mono hstp.ch hrep⟩
theorem Hz {α β : Type} [GoT α] [GoT β] {i off : Nat} {f : α → β} {t t2 : TypeId} {p : Value} {a : α} (hsub : Sub off f) (ha : ∀ w, (isAgg t).run P w = .ok (GoT.agg β) w) (hs : ∀ w, (sizeOf t).run P w = .ok (GoT.k β) w) (hx : ev e a1 = Gc p off) (hp : OB i g w t2 a p)
  (h : ∀ v, RV g.m w (f a) v → K v w) : Doe P (.load t a1) e w K := fun d ty pos af gd => by
 obtain ⟨b, cs, rfl, ho, hm, hh, hr⟩ := hp
 have hr2 := hsub.2 _ _ _ _ hr
 have hc : ∀ j c, ((cs.toList.drop off).take (GoT.k β))[j]? = some c → w.cell? ⟨b, off + j, none⟩ = some c := fun j c hj => by
  rw [List.getElem?_take] at hj
  split at hj
  ·rw [List.getElem?_drop] at hj
   simpa [World.cell?, hh] using hj
  ·cases hj
 have hrun : (execOp (ev e) ⟨d, .load t a1, ty, pos, af, gd⟩).run P w = .ok (.value (toV (GoT.agg β) ((cs.toList.drop off).take (GoT.k β)))) w := by
  simp [execOp, hx, Gc, Instr.loadAt, Instr.sureAddr, Result.andThen, T3 ha hs hr2 hc]
 unfold doE; rw [hrun]; exact h _ ⟨_, hr2, rfl⟩
end

theorem Zw {m : Nat → Nat} {w : World} {x : Int} : GoT.rep m w x [.int .i64 x] := rfl
theorem Ba {m : Nat → Nat} {w : World} {x : Bool} : GoT.rep m w x [.bool x] := rfl
theorem Ty {m : Nat → Nat} {w : World} {x : UInt8} : GoT.rep m w x [.int .u8 x.toNat] := rfl
theorem Db {m : Nat → Nat} {w : World} {x : Str} : GoT.rep m w x [x.v] := rfl
theorem Q0 {m : Nat → Nat} {w : World} {α : Type} [GoT α] : GoT.rep m w ([] : List α) [.slice none 0 0] := ⟨none, 0, rfl, Nat.le_refl _, fun h => absurd h (by simp)⟩
theorem Gk {m : Nat → Nat} {w : World} {α β : Type} [GoT α] [GoT β] {a : α} {b : β} {c d : List Value} (h1 : GoT.rep m w a c) (h2 : GoT.rep m w b d) : GoT.rep m w (a, b) (c ++ d) := ⟨c, d, rfl, h1, h2⟩
theorem Qy {P : Program} {α : Type} [GoT α] {i : Nat} {g : Gh} {w : World} {t t2 : TypeId} {p : Value} {a : α} (ha : ∀ w, (isAgg t).run P w = .ok (GoT.agg α) w) (hs : ∀ w, (sizeOf t).run P w = .ok (GoT.k α) w) (hp : OB i g w t2 a p) :
  ∃ ad v, p = .pointer (some ad) ∧ (loadVar t ad).run P w = .ok v w ∧ RV g.m w a v := by
 obtain ⟨b, cs, rfl, ho, hm, hh, hr⟩ := hp
 have hc : ∀ j c, cs.toList[j]? = some c → w.cell? ⟨b, 0 + j, none⟩ = some c := fun j c hj => by simpa [World.cell?, hh] using hj
 exact ⟨_, _, rfl, T3 ha hs hr hc, ⟨_, hr, rfl⟩⟩
theorem Wi {P : Program} {t : TypeId} {cs : Array Value} {i : Nat} {v : Value} {w : World} (ha : ∀ w, (isAgg t).run P w = .ok false w) (h : cs[i]? = some v) : (part t cs i).run P w = .ok v w := by
 unfold part; simp [Sem.run_bind, ha, Result.andThen, h]
def SEq {α : Type} [GoT α] [DecidableEq α] (P : Program) (t : TypeId) : Prop := ∀ (d : Nat) (x y : α) (w : World) (a b : Value) (m : Nat → Nat) (wx : World) (m' : Nat → Nat) (wy : World), RV m wx x a → RV m' wy y b → (Op.equalIn (d + 2) t a b).run P w = .ok (decide (x = y)) w
section
variable {P : Program} {e : Env} {x y : Operand}
theorem C0 {op : BinOp} {t : TypeId} {cs ds : Array Value} (hg : P.eqGuardType P.depth t = false) (w : World) : (eqGuard op t x y (.agg cs) (.agg ds)).run P w = .ok () w := by
 unfold eqGuard
 cases op <;> simp [Sem.run_bind, run_program, hg, Result.andThen]
theorem M4 {α : Type} [GoT α] [DecidableEq α] {t t2 : TypeId} {u v : Value} {a b : α} {m m' : Nat → Nat} {w w' : World} (hs : SEq (α := α) P t) (hagg : GoT.agg α = true) (hg : P.eqGuardType P.depth t = false) (hx : ev e x = u) (hy : ev e y = v) (hu : RV m w a u) (hv : RV m' w' b v) :
  Pur P (.binOp .neq t x y t2) e (.bool (!decide (a = b))) := by
 have h := fun w => hs 9998 a b w u v _ _ _ _ hu hv
 obtain ⟨cs, _, rfl⟩ := hu
 obtain ⟨ds, _, rfl⟩ := hv
 rw [hagg] at *
 exact H6 hx hy (fun w => C0 hg w) fun w => by
  have := h w
  simp only [toV, cond_true] at this ⊢
  simp only [binOp, Op.equal, Op.maxDepth, Sem.run_bind, this, Result.andThen, Sem.run_pure]
end

/-! ### Counts of shifts that are unsigned -/
def T2 (n : Int) : Int := IntKind.u64.wrap n
section
variable {P : Program} {e : Env} {x y : Operand}
theorem Vm {s t : TypeId} {n : Int} (hs : P.underlying s = some (.int .i64)) (ht : P.underlying t = some (.int .u64)) (hx : ev e x = .int .i64 n) : Pur P (.convert s t x) e (.int .u64 (T2 n)) := fun _ _ _ _ _ _ => by
 simp [execOp, hx, convert, run_underlying hs, run_underlying ht, Conv.intToInt, T2]
theorem P_shlu {t t2 : TypeId} {m n v : Int} (hx : ev e x = .int .i64 m) (hy : ev e y = .int .u64 n) (hv : Ve m n = some v) : Pur P (.binOp .shl t x y t2) e (.int .i64 v) :=
 H6 hx hy (fun w => Wc w) fun w => by
  unfold Ve at hv
  split at hv
  ·cases hv
  ·rename_i hn; injection hv with hv; subst hv
   simp only [binOp, Op.shift, if_neg hn, w64]; rfl
theorem P_shru {t t2 : TypeId} {m n v : Int} (hx : ev e x = .int .i64 m) (hy : ev e y = .int .u64 n) (hv : Kz m n = some v) : Pur P (.binOp .shr t x y t2) e (.int .i64 v) :=
 H6 hx hy (fun w => Wc w) fun w => by
  unfold Kz at hv
  split at hv
  ·cases hv
  ·rename_i hn; injection hv with hv; subst hv
   simp only [binOp, Op.shift, if_neg hn]; rfl
end

theorem Ob {P : Program} {e : Env} {x : Operand} {t et t2 : TypeId} {a : Option Addr} {n c : Nat} (ht : P.underlying t = some (.slice et)) (hx : ev e x = .slice a n c) : Pur P (.binOp .eql t x (.const (.slice none 0 0)) t2) e (.bool a.isNone) :=
 H6 (u2 := .slice none 0 0) hx rfl (fun w => by unfold eqGuard; simp) fun w => by
  simp only [binOp, Sem.run_bind, run_equal_slice_nil w t et a n c ht, Result.andThen, Sem.run_pure]

/-! ### Function values -/
def H9 {α β : Type} [GoT α] [GoT β] (P : Program) (φ : α → Option β) (v : Value) (g : Gh) (w : World) : Prop :=
 ∃ f first caps, v = .func (.func f) first caps ∧ Enters P f ∧ ∀ (g' : Gh) (w' : World), Ch g.m w g'.m w' → ∀ x u r, RV g'.m w' x u → φ x = some r → Fn P f (first ++ #[u] ++ caps) g' w' (fun m w v => RV m w r v)
theorem H9.ch {α β : Type} [GoT α] [GoT β] {P : Program} {φ : α → Option β} {v : Value} {g g' : Gh} {w w' : World} (h : H9 P φ v g w) (k : Ch g.m w g'.m w') : H9 P φ v g' w' := by
 obtain ⟨f, a, c, h1, h2, h3⟩ := h; exact ⟨f, a, c, h1, h2, fun g'' w'' k' => h3 g'' w'' (k.trans k')⟩
/-! ### Steps of a drawing region -/
section
variable {SR : Kt} {P : Program} {N : Nat} {ops : Array Oper} {C : To} {Φ : Yw} {F : Nat → To} {Q : Env → To} {e : Env} {i : Nat} {l : List Nat}
variable {op : Op} {ty : TypeId} {pos : String} {af : Array Edge} {gd : Option (Nat × Bool)} {d : Option Tmp}
theorem Yx {c : Value} (ho : ops[i]? = some ⟨d, op, ty, pos, af, gd⟩) (hφ : Φ i = none) (hw : Wants ops e gd true) (hc : ∀ g w, Dep C F ⟨d, op, ty, pos, af, gd⟩ g w → Pur P op e c)
  (k : Lex SR P ops C Φ Q l (Wj F i (fun g w => ∀ j ∈ Gl ⟨d, op, ty, pos, af, gd⟩, F j g w)) (Te e d c)) (hnl : SR.late i = false := by rfl) : Lex SR P ops C Φ Q (i :: l) F e := by
 unfold Lex
 rw [ho]
 unfold Wy
 have hw' : Region.wanted ⟨d, op, ty, pos, af, gd⟩ (yieldE ops e) = true := Wants.yieldE (o := ⟨d, op, ty, pos, af, gd⟩) hw
 simp only [hw', if_true, hφ]
 exact ⟨c, ⟨fun g w hd => hc g w hd _ _ _ _ _ w, fun h => by rw [hnl] at h; cases h⟩, k⟩
theorem Xh {c : Value} (ho : ops[i]? = some ⟨d, op, ty, pos, af, gd⟩) (hφ : Φ i = none) (hw : Wants ops e gd true) (hc : Pur P op e c)
  (k : Lex SR P ops C Φ Q l (Wj F i (fun g w => ∀ j ∈ Gl ⟨d, op, ty, pos, af, gd⟩, F j g w)) (Te e d c)) : Lex SR P ops C Φ Q (i :: l) F e := by
 unfold Lex
 rw [ho]
 unfold Wy
 have hw' : Region.wanted ⟨d, op, ty, pos, af, gd⟩ (yieldE ops e) = true := Wants.yieldE (o := ⟨d, op, ty, pos, af, gd⟩) hw
 simp only [hw', if_true, hφ]
 exact ⟨c, ⟨fun g w hd => hc _ _ _ _ _ w, fun _ w _ => hc _ _ _ _ _ w⟩, k⟩
theorem L_val {c : Value} (ho : ops[i]? = some ⟨d, op, ty, pos, af, gd⟩) (hφ : Φ i = none) (hw : Wants ops e gd true) (hc : ∀ g w, Dep C F ⟨d, op, ty, pos, af, gd⟩ g w → (execOp (ev e) ⟨d, op, ty, pos, af, gd⟩).run P w = .ok (.value c) w)
  (k : Lex SR P ops C Φ Q l (Wj F i (fun g w => ∀ j ∈ Gl ⟨d, op, ty, pos, af, gd⟩, F j g w)) (Te e d c)) (hnl : SR.late i = false := by rfl) : Lex SR P ops C Φ Q (i :: l) F e := by
 unfold Lex
 rw [ho]
 unfold Wy
 have hw' : Region.wanted ⟨d, op, ty, pos, af, gd⟩ (yieldE ops e) = true := Wants.yieldE (o := ⟨d, op, ty, pos, af, gd⟩) hw
 simp only [hw', if_true, hφ]
 exact ⟨c, ⟨hc, fun h => by rw [hnl] at h; cases h⟩, k⟩
theorem Ti {c p : Value} {x : Operand} {t : TypeId} (ho : ops[i]? = some ⟨d, .load t x, ty, pos, af, gd⟩) (hφ : Φ i = none) (hw : Wants ops e gd true) {B : To} (hC : ∀ g w, C g w → B g w)
  (hl : ∀ e g w, B g w → ev e x = p → ∀ d ty pos af gd, (execOp (ev e) ⟨d, .load t x, ty, pos, af, gd⟩).run P w = .ok (.value c) w) (hx : ev e x = p)
  (k : Lex SR P ops C Φ Q l (Wj F i (fun g w => ∀ j ∈ Gl ⟨d, .load t x, ty, pos, af, gd⟩, F j g w)) (Te e d c)) (hnl : SR.late i = false := by rfl) : Lex SR P ops C Φ Q (i :: l) F e :=
 L_val ho hφ hw (fun g w hd => hl e g w (hC g w hd.1) hx _ _ _ _ _) k hnl
theorem Hn {φ : Value → To} {ψ : Env → Value → To} (ho : ops[i]? = some ⟨d, op, ty, pos, af, gd⟩) (hφ : Φ i = some ψ) (hw : Wants ops e gd true)
  (hc : ∀ g w, Dep C F ⟨d, op, ty, pos, af, gd⟩ g w → Doe P op e w fun v w' => ∃ g', SR.rel g w g' w' ∧ φ v g' w')
  (k : ∀ v, (∃ g w, All C F g w ∧ φ v g w) → Lex SR P ops C Φ Q l (Wj F i (fun g w => φ v g w ∧ ∀ j ∈ Gl ⟨d, op, ty, pos, af, gd⟩, F j g w)) (Te e d v)) (he : ψ e = φ := by rfl) : Lex SR P ops C Φ Q (i :: l) F e := by
 subst he
 unfold Lex
 rw [ho]
 unfold Wy
 have hw' : Region.wanted ⟨d, op, ty, pos, af, gd⟩ (yieldE ops e) = true := Wants.yieldE (o := ⟨d, op, ty, pos, af, gd⟩) hw
 simp only [hw', if_true, hφ]
 exact ⟨fun g w hd => hc g w hd _ _ _ _ _, k⟩
theorem Ae (ho : ops[i]? = some ⟨d, op, ty, pos, af, gd⟩) (hw : Wants ops e gd false) (k : Lex SR P ops C Φ Q l (Wj F i (fun _ _ => True)) (Te e d undef)) : Lex SR P ops C Φ Q (i :: l) F e := by
 unfold Lex
 rw [ho]
 unfold Wy
 have hw' : Region.wanted ⟨d, op, ty, pos, af, gd⟩ (yieldE ops e) = false := Wants.yieldE (o := ⟨d, op, ty, pos, af, gd⟩) hw
 simp only [hw']
 exact k
theorem Zs {α : Type} [GoT α] {g0 : Gh} {w0 : World} {t : TypeId} {x : Operand} {p : Value} {a : α} {K : Prop} (ha : ∀ w, (isAgg t).run P w = .ok (GoT.agg α) w) (hs : ∀ w, (sizeOf t).run P w = .ok (GoT.k α) w) (hp : PT g0.m w0 a p)
  (k : ∀ v, RV g0.m w0 a v → (∀ (e : Env) (g : Gh) (w : World), Ch g0.m w0 g.m w → ev e x = p → ∀ d ty pos af gd, (execOp (ev e) ⟨d, .load t x, ty, pos, af, gd⟩).run P w = .ok (.value v) w) → K) : K := by
 obtain ⟨b, off, cs, rfl, hb, hm, hr, hc⟩ := hp
 refine k _ ⟨cs, hr, rfl⟩ fun e g w hx he d ty pos af gd => ?_
 have hl := GoT.len hr
 have hc' : ∀ j c, cs[j]? = some c → w.cell? ⟨b, off + j, none⟩ = some c := fun j c hj => (hx.cells b hb (off + j) (by have := (List.getElem?_eq_some_iff.1 hj).1; omega)).trans (hc j c hj)
 have hrun := T3 (P := P) ha hs (GoT.mono hx hr) hc'
 simp [execOp, he, Instr.loadAt, Instr.sureAddr, hrun]
theorem V7 {α β : Type} [GoT α] [GoT β] {off i : Nat} {f : α → β} {g0 : Gh} {w0 : World} {t t2 : TypeId} {x : Operand} {p : Value} {a : α} {K : Prop} (hsub : Sub off f) (ha : ∀ w, (isAgg t).run P w = .ok (GoT.agg β) w) (hs : ∀ w, (sizeOf t).run P w = .ok (GoT.k β) w) (hp : OB i g0 w0 t2 a p)
  (k : ∀ v, RV g0.m w0 (f a) v → (∀ (e : Env) (g : Gh) (w : World), (Ch g0.m w0 g.m w ∧ ∀ b, b < w0.heap.size → g0.o b = i → w.heap[b]? = w0.heap[b]?) → ev e x = Gc p off → ∀ d ty pos af gd, (execOp (ev e) ⟨d, .load t x, ty, pos, af, gd⟩).run P w = .ok (.value v) w) → K) : K := by
 obtain ⟨b, cs, rfl, ho, hm, hh, hr⟩ := hp
 have hr2 := hsub.2 _ _ _ _ hr
 refine k _ ⟨_, hr2, rfl⟩ fun e g w hx he d ty pos af gd => ?_
 have hh' : w.heap[b]? = some (.cells cs t2 (0, 0)) := (hx.2 b (Gw hh) ho).trans hh
 have hc : ∀ j c, ((cs.toList.drop off).take (GoT.k β))[j]? = some c → w.cell? ⟨b, off + j, none⟩ = some c := fun j c hj => by
  rw [List.getElem?_take] at hj
  split at hj
  ·rw [List.getElem?_drop] at hj
   simpa [World.cell?, hh'] using hj
  ·cases hj
 simp only [Gc, Nat.zero_add] at he
 have hrun := T3 (P := P) ha hs (GoT.mono hx.1 hr2) hc
 simp [execOp, he, Instr.loadAt, Instr.sureAddr, hrun]
def Np (F : Nat → To) (o : Oper) : To := fun g w => ∀ j ∈ Gl o, F j g w
theorem Ju {o : Oper} {g : Gh} {w : World} (hd : Dep C F o g w) : Np F o g w := hd.2
theorem Cq {A B : To} {o : Oper} (j : Nat) (h : (Gl o).contains j = true) (hF : F j = fun g w => A g w ∧ B g w) {g : Gh} {w : World} (hd : Np F o g w) : A g w :=
 (show A g w ∧ B g w from by have := hd j (by simpa using h); rw [hF] at this; exact this).1
theorem hop {F2 : Nat → To} {o o2 : Oper} (j : Nat) (h : (Gl o).contains j = true) (hF : F j = fun g w => ∀ k ∈ Gl o2, F2 k g w) {g : Gh} {w : World} (hd : Np F o g w) : Np F2 o2 g w := by
 have := hd j (by simpa using h); rw [hF] at this; exact this
theorem Kd {A B : To} (j : Nat) (hF : F j = fun g w => A g w ∧ B g w) {g : Gh} {w : World} (hd : All C F g w) : A g w :=
 (show A g w ∧ B g w from by have := hd.2 j; rw [hF] at this; exact this).1
theorem Ha (p : Prop) : Up SR (fun _ _ => p) := fun _ _ _ _ _ h => h
theorem Dx {α : Type} [GoT α] {x : α} {v : Value} : Up Yk (fun g w => RV g.m w x v) := fun _ _ _ _ hx h => h.ext hx
theorem Mh {α : Type} [GoT α] {i : Nat} {t : TypeId} {x : List α} {v : Value} : Up Yk (fun g w => OS i g w t x v) := fun _ _ _ _ hx h => h.ext hx
theorem Xc {A B : To} (hA : Up SR A) (hB : Up SR B) : Up SR (fun g w => A g w ∧ B g w) := fun _ _ _ _ hx h => ⟨hA _ _ _ _ hx h.1, hB _ _ _ _ hx h.2⟩
def UpL (SR : Kt) : List (Nat × (Value → To)) → Prop
 | [] => True
 | (_, φ) :: l => (∀ v, Up SR (φ v)) ∧ UpL SR l
theorem Ly : ∀ {l : List (Nat × (Value → To))}, UpL SR l → ∀ i φ v, l.lookup i = some φ → Up SR (φ v)
 | [], _, i, φ, v, h => by cases h
 | (k, ψ) :: l, hu, i, φ, v, h => by
  rw [List.lookup_cons] at h
  split at h
  ·injection h with h; subst h; exact hu.1 v
  ·exact Ly hu.2 i φ v h
abbrev Hx (words : List (Nat × (Value → To))) : Yw := fun i => (words.lookup i).map fun φ _ => φ
theorem upC {words : List (Nat × (Value → To))} (h : UpL SR words) : ∀ i φ e v, Hx words i = some φ → Up SR (φ e v) := fun i φ e v hw => by
 unfold Hx at hw
 cases hl : words.lookup i with
 | none => rw [hl] at hw; cases hw
 | some ψ => rw [hl] at hw; injection hw with hw; subst hw; exact Ly h i ψ v hl
theorem Oa {ops : Array Oper} {words : List (Nat × (Value → To))} : WOk ops (Hx words) := fun i φ oi d e v hw _ _ => by
 unfold Hx at hw
 cases hl : words.lookup i with
 | none => rw [hl] at hw; cases hw
 | some ψ => rw [hl] at hw; injection hw with hw; subst hw; rfl
theorem T6 {n : Nat} {ro : Option Nat} {Q' : Kx} {id : Nat} {ops : List Oper} {e : Env} {ds : List Deferred} {g : Gh} {w : World} (words : List (Nat × (Value → To))) (ix : List Nat) (hix : ix = List.range n) (hm : P.follows .mixedOrders = true) (hok : Cn N ops.toArray n = true) (hΦ : UpL Yk words)
  (h : Lex Yk P ops.toArray (fun g' w' => Ext g w g' w') (Hx words) (fun e' _ w' => EL P N ro ops.toArray (ops.drop n) Q' e' ds w') ix (fun _ _ _ => True) e) : E P N ro (.region id ops.toArray true) Q' e ds w :=
 Sq (SR := Yk) (fun g' w' => Ext g w g' w') (Hx words) hm hok (fun _ _ _ _ hx h => h.trans hx) (Hp g w) (upC hΦ) Oa (hix ▸ h)
def Bd (i : Nat) (A0 A1 : To) : Kt := { rel := fun g w g' w' => Stp i g w g' w' ∧ (A1 g w → A1 g' w') ∧ (A0 g w ∨ A1 g w → A0 g' w' ∨ A1 g' w') }
theorem Ext.stp {i : Nat} {g g' : Gh} {w w' : World} (h : Ext g w g' w') : Stp i g w g' w' :=
 ⟨h.below.os, h.below.tape, h.below.output, h.ch, fun b hb _ => h.below.block b hb, fun b hb _ => h.m b hb, fun b hb _ => h.o b hb⟩
theorem Stp.trans {i : Nat} {g g' g'' : Gh} {w w' w'' : World} (h : Stp i g w g' w') (k : Stp i g' w' g'' w'') : Stp i g w g'' w'' :=
  ⟨k.os.trans h.os, k.tape.trans h.tape, k.output.trans h.output, h.ch.trans k.ch,
   fun b hb hn => (k.block b (Nat.lt_of_lt_of_le hb h.ch.size) (by rw [h.o b hb hn]; exact hn)).trans (h.block b hb hn),
   fun b hb hn => (k.m b (Nat.lt_of_lt_of_le hb h.ch.size) (by rw [h.o b hb hn]; exact hn)).trans (h.m b hb hn),
   fun b hb hn => (k.o b (Nat.lt_of_lt_of_le hb h.ch.size) (by rw [h.o b hb hn]; exact hn)).trans (h.o b hb hn)⟩
theorem Ah {i : Nat} {A0 A1 : To} : Up (Bd i A0 A1) A1 := fun _ _ _ _ hx h => hx.2.1 h
theorem Lf {α : Type} [GoT α] {a0 a1 : α} {p : Value} {t2 : TypeId} {n i : Nat} {ro : Option Nat} {Q' : Kx} {id : Nat} {ops : List Oper} {e : Env} {ds : List Deferred} {g : Gh} {w : World} (h0 : OB i g w t2 a0 p) (words : List (Nat × (Value → To))) (ix : List Nat) (hix : ix = List.range n) (hm : P.follows .mixedOrders = true) (hok : Cn N ops.toArray n = true)
  (hΦ : UpL (Bd i (fun g w => OB i g w t2 a0 p) (fun g w => OB i g w t2 a1 p)) words)
  (h : Lex (Bd i (fun g w => OB i g w t2 a0 p) (fun g w => OB i g w t2 a1 p)) P ops.toArray (fun g' w' => Stp i g w g' w' ∧ (OB i g' w' t2 a0 p ∨ OB i g' w' t2 a1 p)) (Hx words) (fun e' _ w' => EL P N ro ops.toArray (ops.drop n) Q' e' ds w') ix (fun _ _ _ => True) e) : E P N ro (.region id ops.toArray true) Q' e ds w :=
 Sq (SR := Bd i (fun g w => OB i g w t2 a0 p) (fun g w => OB i g w t2 a1 p)) _ (Hx words) hm hok (fun _ _ _ _ hx h => ⟨h.1.trans hx.1, hx.2.2 h.2⟩) ⟨(Hp g w).stp, .inl (h0.ext (Hp g w))⟩ (upC hΦ) Oa (hix ▸ h)
def Di (m0 : Nat → Nat) (w0 : World) (w : World) : Prop := ∃ m, Ch m0 w0 m w
def Lt (m0 : Nat → Nat) (w0 : World) (g : Gh) (w : World) : Prop := Ch m0 w0 g.m w
theorem Lt.stp {m0 : Nat → Nat} {w0 : World} {i : Nat} {g g' : Gh} {w w' : World} (h : Lt m0 w0 g w) (k : Stp i g w g' w') : Lt m0 w0 g' w' := h.trans k.ch
theorem Lt.w {m0 : Nat → Nat} {w0 : World} {g : Gh} {w : World} (h : Lt m0 w0 g w) : Di m0 w0 w := ⟨_, h⟩
theorem Al {SR : Kt} {P : Program} {ops : Array Oper} {C : To} {Φ : Yw} {F : Nat → To} {Q : Env → To} {e : Env} {i : Nat} {l : List Nat} {ty : TypeId} {pos : String} {af : Array Edge} {gd : Option (Nat × Bool)} {d : Option Tmp} {m0 : Nat → Nat} {w0 : World}
  {c p : Value} {x : Operand} {t : TypeId} (ho : ops[i]? = some ⟨d, .load t x, ty, pos, af, gd⟩) (hφ : Φ i = none) (hw : Wants ops e gd true) (hC : ∀ g w, C g w → Ch m0 w0 g.m w) (hlt : SR.lt = Di m0 w0)
  (hl : ∀ (e : Env) (g : Gh) (w : World), Ch m0 w0 g.m w → ev e x = p → ∀ d ty pos af gd, (execOp (ev e) ⟨d, .load t x, ty, pos, af, gd⟩).run P w = .ok (.value c) w) (hx : ev e x = p)
  (k : Lex SR P ops C Φ Q l (Wj F i (fun g w => ∀ j ∈ Gl ⟨d, .load t x, ty, pos, af, gd⟩, F j g w)) (Te e d c)) : Lex SR P ops C Φ Q (i :: l) F e := by
 unfold Lex
 rw [ho]
 unfold Wy
 have hw' : Region.wanted ⟨d, .load t x, ty, pos, af, gd⟩ (yieldE ops e) = true := Wants.yieldE (o := ⟨d, .load t x, ty, pos, af, gd⟩) hw
 simp only [hw', if_true, hφ]
 exact ⟨c, ⟨fun g w hd => hl e g w (hC g w hd.1) hx _ _ _ _ _, fun _ w hL => by
  rw [hlt] at hL
  obtain ⟨m, hm⟩ := hL
  exact hl e ⟨m, fun _ => 0⟩ w hm hx _ _ _ _ _⟩, k⟩
theorem R9 {n : Nat} {ro : Option Nat} {Q' : Kx} {id : Nat} {ops : List Oper} {e : Env} {ds : List Deferred} {g : Gh} {w : World} (late : List Nat) (words : List (Nat × (Value → To))) (ix : List Nat) (hix : ix = List.range n) (hm : P.follows .mixedOrders = true) (hok : Fe N ops.toArray n late = true) (hΦ : UpL Yk words)
  (hlw : late.all (fun k => (words.lookup k).isNone) = true)
  (h : Lex { rel := Ext, late := fun k => late.contains k, lt := Di g.m w } P ops.toArray (fun g' w' => Ext g w g' w') (Hx words) (fun e' _ w' => TL P (fun k => late.contains k) (Di g.m w) ops.toArray (fun e w => Q' .normal e ds w) n (ops.drop n) e' w') ix (fun _ _ _ => True) e) : E P N ro (.region id ops.toArray true) Q' e ds w :=
 Nf Ext (Di g.m w) late (fun g' w' => Ext g w g' w') (Hx words) hm hok (fun _ _ _ _ hx h => h.trans hx) (Hp g w) (upC hΦ) Oa
  (fun k hk => by rw [List.all_eq_true] at hlw; have := hlw k (by simpa using hk); simpa [Hx] using this) (hix ▸ h)
variable {R : Env → World → Prop} {rest : List Oper} {w : World} {L : World → Prop} {late : Nat → Bool} {n : Nat}
theorem Mk (hL : L w) (h : R e w) : TL P late L ops R n [] e w := ⟨hL, h⟩
theorem F1 (hL : L w) {v : Value} (h1 : Pur P op e v) (hw : Wants ops e gd true) (_hd : Yz op = true) (h : TL P late L ops R (n + 1) rest (Te e d v) w) (hn : late n = false := by rfl) : TL P late L ops R n (⟨d, op, ty, pos, af, gd⟩ :: rest) e w := by
 have hw' : Region.wanted ⟨d, op, ty, pos, af, gd⟩ (yieldE ops e) = true := Wants.yieldE (o := ⟨d, op, ty, pos, af, gd⟩) hw
 refine ⟨hL, ?_⟩
 simp only [hn, Bool.false_eq_true, if_false, hw', if_true]
 unfold doE
 rw [h1 d ty pos af gd w]
 exact h
theorem O9 (hL : L w) (hw : Wants ops e gd true) (_hd : Yz op = true) (h : Doe P op e w fun v w' => TL P late L ops R (n + 1) rest (Te e d v) w') (hn : late n = false := by rfl) : TL P late L ops R n (⟨d, op, ty, pos, af, gd⟩ :: rest) e w := by
 have hw' : Region.wanted ⟨d, op, ty, pos, af, gd⟩ (yieldE ops e) = true := Wants.yieldE (o := ⟨d, op, ty, pos, af, gd⟩) hw
 refine ⟨hL, ?_⟩
 simp only [hn, Bool.false_eq_true, if_false, hw', if_true]
 exact h _ _ _ _ _
theorem Y7 (h : ∀ g w, All C F g w → Q e g w) : Lex SR P ops C Φ Q [] F e := h
end
end Go.Proofs.YtmebkoemfjlbcaaGreatDoor
