/- Uz values: told apart, and as keys of maps. No program is named here. -/
import Derived.Test.YtmebkoemfjlbcaaGreatDoorDead
import Derived.WideKeyRuns
namespace Go.Proofs.YtmebkoemfjlbcaaGreatDoor
open Go.RowKit

section
variable {P : Program} {α β : Type} [GoT α] [GoT β]
theorem D2 {m : Nat → Nat} {w : World} {y : β} {cs : List Value} {off : Nat} {ft : TypeId} (ha : ∀ w, (isAgg ft).run P w = .ok (GoT.agg β) w) (hs : ∀ w, (sizeOf ft).run P w = .ok (GoT.k β) w)
  (hr : GoT.rep m w y ((cs.drop off).take (GoT.k β))) (w2 : World) : ∃ v, RV m w y v ∧ (part ft cs.toArray off).run P w2 = .ok v w2 := by
 refine ⟨toV (GoT.agg β) ((cs.drop off).take (GoT.k β)), ⟨_, hr, rfl⟩, ?_⟩
 unfold part
 cases hg : GoT.agg β with
 | true =>
  rw [hg] at ha
  simp [Sem.run_bind, ha, hs, Result.andThen, List.extract_toArray, toV]
 | false =>
  rw [hg] at ha
  have hl := GoT.len hr
  rw [GoT.k1 hg] at hl
  have hlt : off < cs.length := by simp at hl; omega
  have hget : (cs.toArray)[off]? = some cs[off] := by rw [List.getElem?_toArray, List.getElem?_eq_getElem hlt]
  have hv : (List.take 1 (List.drop off cs)).headD undef = cs[off] := by rw [List.drop_eq_getElem_cons hlt]; rfl
  rw [GoT.k1 hg]
  unfold toV
  rw [cond_false, hv]
  simp only [Sem.run_bind, ha, Result.andThen, hget, Bool.false_eq_true, if_false, Sem.run_pure]
def EqD (P : Program) (α : Type) [GoT α] [DecidableEq α] (D : Nat) (t : TypeId) : Prop := ∀ (d : Nat) (x y : α) (w : World) (a b : Value) (m : Nat → Nat) (wx : World) (m' : Nat → Nat) (wy : World), RV m wx x a → RV m' wy y b → (Op.equalIn (d + D) t a b).run P w = .ok (decide (x = y)) w
def CkD (P : Program) (α : Type) [GoT α] (D : Nat) (t : TypeId) : Prop := ∀ (em : Bool) (d : Nat) (x : α) (w : World) (a : Value) (m : Nat → Nat) (wx : World), RV m wx x a → (Instr.checkKey em (d + D) t a).run P w = .ok () w
theorem EqD.int {t : TypeId} (hu : P.underlying t = some (.int .i64)) : EqD P Int 1 t := fun d x y w a b m wx m' wy hx hy => by
 obtain ⟨_, rfl, rfl⟩ := hx
 obtain ⟨_, rfl, rfl⟩ := hy
 refine (run_equalIn_int _ _ _ _ _ _ _ hu).trans ?_
 congr 1
theorem CkD.int {t : TypeId} (hu : P.underlying t = some (.int .i64)) : CkD P Int 1 t := fun em d x w a m wx hx => by
 obtain ⟨_, rfl, rfl⟩ := hx
 simp [Instr.checkKey, Sem.run_bind, run_underlying hu, toV]
def FEq (P : Program) (α : Type) [GoT α] (D : Nat) (fs : List Field) (q : α → α → Bool) : Prop := ∀ (d : Nat) (x y : α) (w : World) (cs cs' : List Value) (m : Nat → Nat) (wx : World) (m' : Nat → Nat) (wy : World), GoT.rep m wx x cs → GoT.rep m' wy y cs' → (Op.eqFields (d + D) cs.toArray cs'.toArray fs).run P w = .ok (q x y) w
theorem FEq.nil {D : Nat} : FEq P α D [] fun _ _ => true := fun d x y w cs cs' m wx m' wy _ _ => by simp [Op.eqFields]
theorem FEq.cons [DecidableEq β] {D : Nat} {f : Field} {fs : List Field} {pr : α → β} {q : α → α → Bool} (hn : f.name ≠ "_") (hsub : Sub f.offset pr) (ha : ∀ w, (isAgg f.type).run P w = .ok (GoT.agg β) w) (hs : ∀ w, (sizeOf f.type).run P w = .ok (GoT.k β) w)
    (he : EqD P β D f.type) (hr : FEq P α D fs q) : FEq P α D (f :: fs) fun x y => decide (pr x = pr y) && q x y := fun d x y w cs cs' m wx m' wy hx hy => by
  obtain ⟨v1, r1, p1⟩ := D2 (P := P) ha hs (hsub.2 _ _ _ _ hx) w
  obtain ⟨v2, r2, p2⟩ := D2 (P := P) ha hs (hsub.2 _ _ _ _ hy) w
  have h1 := he d _ _ w _ _ _ _ _ _ r1 r2
  have h2 := hr d x y w cs cs' m wx m' wy hx hy
  simp only [Op.eqFields, Sem.run_bind, hn, ne_eq, not_false_eq_true, if_true, p1, p2, Result.andThen_ok, h1, Sem.run_ite, Sem.run_pure, h2]
  cases decide (pr x = pr y) <;> simp
theorem EqD.struct [DecidableEq α] {D : Nat} {t : TypeId} {q : α → α → Bool} (hagg : GoT.agg α = true) (hu : P.underlying t = some (.struct (P.fieldsOf t))) (hp : P.stoodInHeld t = false) (hf : FEq P α D (P.fieldsOf t).toList q) (hq : ∀ x y, q x y = decide (x = y)) : EqD P α (D + 1) t := fun d x y w a b m wx m' wy hx hy => by
 obtain ⟨cs, hx, rfl⟩ := hx
 obtain ⟨cs', hy, rfl⟩ := hy
 rw [hagg]
 refine (run_equalIn_struct w (d + D) t _ _ hu hp).trans ?_
 rw [hf d x y w cs cs' m wx m' wy hx hy, hq]
theorem CkD.struct {D : Nat} {t : TypeId} {fs : Array Field} (hagg : GoT.agg α = true) (hu : P.underlying t = some (.struct fs))
    (each : ∀ f ∈ fs.toList, f.name ≠ "_" ∧ ∃ (β : Type) (_ : GoT β) (pr : α → β), Sub f.offset pr ∧ (∀ w, (isAgg f.type).run P w = .ok (GoT.agg β) w) ∧ (∀ w, (sizeOf f.type).run P w = .ok (GoT.k β) w) ∧ CkD P β D f.type) : CkD P α (D + 1) t := fun em d x w a m wx hx => by
  obtain ⟨cs, hx, rfl⟩ := hx
  rw [hagg]
  have each : ∀ f ∈ fs.toList, f.name ≠ "_" ∧ ∃ v, (part f.type cs.toArray f.offset).run P w = .ok v w ∧ (Instr.checkKey em (d + D) f.type v).run P w = .ok () w := fun f hf => by
    obtain ⟨hn, β, _, pr, hsub, ha, hs, hc⟩ := each f hf
    obtain ⟨v, rv, pv⟩ := D2 (P := P) ha hs (hsub.2 _ _ _ _ hx) w
    exact ⟨hn, v, pv, hc _ _ _ _ _ _ _ rv⟩
  rw [← Nat.add_assoc, Instr.checkKey]
  simp only [toV, cond_true, Sem.run_bind, run_underlying hu, Result.andThen_ok]
  rw [← Array.forIn_toList]
  generalize fs.toList = L at each
  induction L with
  | nil => simp
  | cons f L ih =>
    obtain ⟨hn, v, p1, p2⟩ := each f (by simp)
    simp only [List.forIn_cons, Sem.run_bind, hn, ne_eq, not_false_eq_true, if_true, Result.andThen_ok, p1, p2, Sem.run_pure]
    exact ih fun y hy => each y (by simp [hy])
end
/-! ### Values that lie in one way -/
section
variable {α β : Type} [GoT α] [GoT β]
def Pl (α : Type) [GoT α] : Prop := ∀ x : α, ∃ cs, (∀ m w cs', GoT.rep m w x cs' ↔ cs' = cs) ∧ ∀ c ∈ cs, ∀ n, Instr.sameBits n c c = true
theorem Pl.int : Pl Int := fun x => ⟨[.int .i64 x], fun m w cs' => Iff.rfl, fun c hc n => by rw [List.mem_singleton.1 hc]; cases n <;> simp [Instr.sameBits]⟩
theorem Pl.prod (h1 : Pl α) (h2 : Pl β) : Pl (α × β) := fun x => by
 obtain ⟨c1, a1, b1⟩ := h1 x.1
 obtain ⟨c2, a2, b2⟩ := h2 x.2
 refine ⟨c1 ++ c2, fun m w cs' => ⟨?_, ?_⟩, fun c hc n => ?_⟩
 ·rintro ⟨d1, d2, rfl, r1, r2⟩
  rw [(a1 m w d1).1 r1, (a2 m w d2).1 r2]
 ·rintro rfl
  exact ⟨c1, c2, rfl, (a1 m w c1).2 rfl, (a2 m w c2).2 rfl⟩
 ·rcases List.mem_append.1 hc with hc | hc
  ·exact b1 c hc n
  ·exact b2 c hc n
theorem Pl.of {α β : Type} [GoT β] {to : α → β} (h : Pl β) : @Pl α (GoT.struct α to) := fun x => h (to x)
noncomputable def Y2 (h : Pl α) (x : α) : Value := toV (GoT.agg α) (Classical.choose (h x))
theorem Ro (h : Pl α) (m : Nat → Nat) (w : World) (x : α) : RV m w x (Y2 h x) := ⟨_, ((Classical.choose_spec (h x)).1 m w _).2 rfl, rfl⟩
theorem Ll (h : Pl α) {m : Nat → Nat} {w : World} {x : α} {v : Value} (hv : RV m w x v) : v = Y2 h x := by
 obtain ⟨cs, hr, rfl⟩ := hv
 rw [((Classical.choose_spec (h x)).1 m w cs).1 hr]; rfl
theorem Sc {P : Program} {kt : TypeId} [DecidableEq α] {D : Nat} (h : Pl α) (he : EqD P α D kt) (hD : D ≤ 10000) (a : α) (w : World) : ∀ (es : List MapEntry) (ks : List α) (j : Nat), es.map (·.key) = ks.map (Y2 h) →
  (Instr.findAsking kt (Y2 h a) es j).run P w = .ok ((ks.findIdx? fun x => decide (x = a)).bind fun i => (es[i]?).map fun e => (j + i, e.val)) w
 | [], [], _, _ => by simp [Instr.findAsking]
 | [], _ :: _, _, h' => by simp at h'
 | _ :: _, [], _, h' => by simp at h'
 | e :: es, k :: ks, j, h' => by
  simp only [List.map_cons, List.cons.injEq] at h'
  obtain ⟨h1, h2⟩ := h'
  have ih := Sc h he hD a w es ks (j + 1) h2
  have hq := he (10000 - D) a k w _ _ _ _ _ _ (Ro h (fun _ => 0) w a) (Ro h (fun _ => 0) w k)
  rw [Nat.sub_add_cancel hD] at hq
  have hq : (Op.equal kt (Y2 h a) (Y2 h k)).run P w = .ok (decide (a = k)) w := hq
  simp only [Instr.findAsking, h1, Sem.run_bind, hq, Result.andThen_ok]
  by_cases hak : a = k
  ·subst hak
   simp [List.findIdx?_cons]
  ·have hka : ¬ k = a := fun h => hak h.symm
   simp only [hak, decide_false, Bool.false_eq_true, if_false, ih, List.findIdx?_cons, hka]
   cases ks.findIdx? (fun x => decide (x = a)) with
   | none => rfl
   | some i => simp [Nat.add_assoc, Nat.add_comm 1 i]
theorem L5 {P : Program} {kt : TypeId} [DecidableEq α] {D : Nat} (h : Pl α) (hw : (match P.underlying kt with | some (.array _ _) | some (.struct _) => true | _ => false) = true) (hagg : GoT.agg α = true) (he : EqD P α D kt) (hk : CkD P α D kt) (hD : D ≤ 10000) : Rl P kt (Y2 h) := by
 refine ⟨fun a w em => ?_, fun a w => ?_, fun a w es ks hes => ?_⟩
 ·have := hk em (10000 - D) a w _ _ _ (Ro h (fun _ => 0) w a)
  rwa [Nat.sub_add_cancel hD] at this
 ·have hs : Instr.sameBits 10000 (Y2 h a) (Y2 h a) = true := by
   unfold Y2 toV
   rw [hagg, cond_true]
   have hb := (Classical.choose_spec (h a)).2
   generalize Classical.choose (h a) = cs at hb
   simp only [Instr.sameBits, beq_self_eq_true, Bool.true_and, List.all_eq_true]
   intro p hp
   have : ∀ (l : List Value) (p : Value × Value), p ∈ l.zip l → p.1 = p.2 ∧ p.1 ∈ l := fun l => by
    induction l with
    | nil => intro p hp; simp at hp
    | cons x l ih =>
     intro p hp
     rcases List.mem_cons.1 hp with rfl | hp
     ·exact ⟨rfl, List.mem_cons_self⟩
     ·exact ⟨(ih p hp).1, List.mem_cons_of_mem _ (ih p hp).2⟩
   obtain ⟨e1, e2⟩ := this _ p hp
   obtain ⟨p1, p2⟩ := p
   simp only at e1 e2
   subst e1
   exact hb _ e2 _
  unfold Instr.keyThatStays
  rw [hs, if_pos rfl]; rfl
 ·rw [run_findKey_eq w hw, Sc h he hD a w es ks 0 hes]
  simp
end
end Go.Proofs.YtmebkoemfjlbcaaGreatDoor
