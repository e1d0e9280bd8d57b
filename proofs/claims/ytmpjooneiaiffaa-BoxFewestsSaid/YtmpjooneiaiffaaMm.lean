/- Values that the function owns with all that they lead to: from and to own slices; struct values; what calls hand out. No program is named here. -/
import Derived.Test.YtmpjooneiaiffaaOy
namespace Go.Proofs.Ytmpjooneiaiffaa
open Go.RowKit

def OVb {α : Type} [GoT α] (A : Ow α) (i : Nat) (g : Gh) (w : World) (t : TypeId) (x : α) (b : Nat) : Prop := ∃ s, OV A i g w t x b s ∧ A.ok s
section
variable {α β γ : Type} [GoT α] [GoT β] [GoT γ] {A : Ow α} {B : Ow β} {i j b : Nat} {g g' : Gh} {w w' : World} {t : TypeId} {x : α} {s : A.S} {v : Value}
theorem sh_flat : ∀ l : List (Ow.sh α).S, l.flatMap (Ow.sh α).bl = []
 | [] => rfl
 | s :: l => by rw [List.flatMap_cons, sh_flat l]; rfl
theorem OA.toW {et : TypeId} {xs : List α} (h : OA i g w et xs v) : OWx (Ow.list et (Ow.sh α)) i g w xs v := by
 rcases h with ⟨rfl, rfl⟩ | ⟨b, c, cs, rfl, ho, hm, hh, h1, h2, h3, hf⟩
 ·exact ⟨.nil, ⟨_, rfl, ⟨rfl, rfl⟩, List.nodup_nil, fun c hc => by cases hc⟩, trivial⟩
 ·have hbl : (Ow.list et (Ow.sh α)).bl (.at b c (List.replicate xs.length ())) = [b] := congrArg (List.cons b) (sh_flat (α := α) _)
  refine ⟨.at b c (List.replicate xs.length ()), ⟨_, rfl, ⟨rfl, h1, h2, cs, hh, h3, flat_rows hf⟩, by rw [hbl]; simp, fun x hx => ?_⟩, fun _ _ => trivial⟩
  rw [hbl, List.mem_singleton] at hx
  rw [hx]; exact ⟨ho, hm⟩
structure Wn (A : Ow α) (i : Nat) (g : Gh) (w : World) (x : α) (s : A.S) (cs : List Value) : Prop where
 ow : A.ow s g.m w x cs
 nd : (A.bl s).Nodup
 tg : ∀ c ∈ A.bl s, g.o c = i ∧ g.m c = 0
theorem OW.wn (h : OW A i g w x s v) : Wn A i g w x s v.cells.toList := by
 have hc := h.cells
 obtain ⟨cs, h1, h4, h5, h6⟩ := h
 exact ⟨hc, h5, h6⟩
theorem Wn.mk_ {cs : List Value} (h : Wn A i g w x s cs) : OW A i g w x s (toV (GoT.agg α) cs) := ⟨cs, rfl, h.ow, h.nd, h.tg⟩
theorem Wn.pair {x : α} {y : β} {s : A.S} {t : B.S} {c1 c2 : List Value} (h1 : Wn A i g w x s c1) (h2 : Wn B j g w y t c2) (hij : Nat.beq i j = false) : ∃ g', Stp i g w g' w ∧ g'.m = g.m ∧ Wn (Ow.pair A B) j g' w (x, y) (s, t) (c1 ++ c2) := by
 have hne : i ≠ j := fun e => by rw [e] at hij; simp at hij
 have hd : ∀ c, c ∈ A.bl s → c ∉ B.bl t := fun c a1 a2 => hne ((h1.tg c a1).1.symm.trans (h2.tg c a2).1)
 refine ⟨retB (A.bl s) j g, retB_stp (fun c hc => (h1.tg c hc).1) j, rfl, ⟨c1, c2, rfl, h1.ow, h2.ow⟩, List.nodup_append.2 ⟨h1.nd, h2.nd, fun a ha b hb e => hd a ha (e ▸ hb)⟩, fun c hc => ?_⟩
 rcases List.mem_append.1 hc with hc | hc
 ·exact ⟨if_pos hc, (h1.tg c hc).2⟩
 ·exact ⟨by show (if _ then _ else _) = _; rw [if_neg fun h => hd c h hc]; exact (h2.tg c hc).1, (h2.tg c hc).2⟩
theorem Wn.shl {y : β} {c2 : List Value} (h : GoT.rep g.m w y c2) (j : Nat) : Wn (Ow.sh β) j g w y () c2 := ⟨h, List.nodup_nil, fun c hc => by cases hc⟩
theorem Wn.struct {α : Type} {to : α → β} {x : α} {s : B.S} {cs : List Value} (h : Wn B i g w (to x) s cs) : @Wn α (GoT.struct α to) (Ow.struct to B) i g w x s cs :=
 @Wn.mk α (GoT.struct α to) (Ow.struct to B) i g w x s cs h.ow h.nd h.tg
theorem Wn.fl {cs : List Value} (h : Wn A i g w x s cs) : Wn A i g w x s (cs ++ []) := by rw [List.append_nil]; exact h
theorem OW.csz (h : OW A i g w x s v) : v.cells.size = GoT.k α := by have := A.len h.cells; simpa using this
/-! ### What calls hand out -/
def Ow.free (A : Ow α) : Prop := ∀ {s : A.S} {m m' : Nat → Nat} {w : World} {x : α} {cs : List Value}, A.ok s → A.ow s m w x cs → A.ow s m' w x cs
theorem set_unit {ss : List Unit} {i : Nat} : ss.set i () = ss := by
 apply List.ext_getElem (by simp)
 intro j h1 h2; rfl
end
/-! ### In regions that draw their order -/
section
variable {α β γ : Type} [GoT α] [GoT β] [GoT γ] {A : Ow α} {B : Ow β} {E : Ow γ} {P : Program} {e : Env} {w : World} {g : Gh} {x y : Operand} {i b b1 off : Nat} {t t2 : TypeId} {a0 a1 : α} {s : A.S}
theorem up_ov {a : α} : Up extRel (fun g w => OV A i g w t a b s) := fun _ _ _ _ hx h => h.ext hx
theorem D_storeOVR {st : β → α} {put : Unit → A.S} {u u' : β} {v : Value} (c : Cxt A b (Ow.sh β) st b1 off put) (hx0 : st u = a0) (hx1 : st u' = a1) (hs : put () = s) (hsz : ∀ w, (sizeOf t).run P w = .ok (GoT.k β) w) (hp : ev e x = .pointer (some ⟨b1, off, none⟩)) (h : OV A i g w t2 a0 b s ∨ OV A i g w t2 a1 b s) (hy : ev e y = v) (hv : RV g.m w u' v) (hk : 0 < GoT.k β := by decide) :
  Doe P (.store t x y) e w fun _ w' => ∃ g', (boxRel i (fun g w => OV A i g w t2 a0 b s) (fun g w => OV A i g w t2 a1 b s)).rel g w g' w' ∧ OV A i g' w' t2 a1 b s := by
 have key : ∀ u0, st u0 = a0 ∨ st u0 = a1 → OV A i g w t2 (st u0) b s → Doe P (.store t x y) e w fun _ w' => ∃ g', (boxRel i (fun g w => OV A i g w t2 a0 b s) (fun g w => OV A i g w t2 a1 b s)).rel g w g' w' ∧ OV A i g' w' t2 a1 b s := fun u0 _ h =>
  D_storeOV c rfl hs hsz hp h hy hv (fun g' w' hst hb => by
   rw [hx1] at hb
   exact ⟨g', ⟨hst, fun _ => hb, fun _ => .inr hb⟩, hb⟩) hk
 rcases h with h | h
 ·exact key u (.inl hx0) (hx0 ▸ h)
 ·exact key u' (.inr hx1) (hx1 ▸ h)
theorem loadHAB {et : TypeId} {st0 st1 : List γ → α} {put0 put1 : (Ow.list et E).S → A.S} {ys0 ys1 : List γ} {s' : (Ow.list et E).S} {d : Option Tmp} {ty : TypeId} {pos : String} {af : Array Edge} {gd : Option (Nat × Bool)} (c0 : Cxt A b (Ow.list et E) st0 b1 off put0) (hx0 : st0 ys0 = a0) (hs0 : put0 s' = s) (c1 : Cxt A b (Ow.list et E) st1 b1 off put1) (hx1 : st1 ys1 = a1) (hs1 : put1 s' = s) (hn : ys1.length = ys0.length)
  (ho : (Ow.list et E).ok s') (ha : ∀ w, (isAgg t).run P w = .ok false w) (hp : ev e x = .pointer (some ⟨b1, off, none⟩)) (h : OV A i g w t2 a0 b s ∨ OV A i g w t2 a1 b s) : (execOp (ev e) ⟨d, .load t x, ty, pos, af, gd⟩).run P w = .ok (.value (hdrV s' ys0.length)) w := by
 rcases h with h | h
 ·subst hx0; subst hs0
  simp [execOp, hp, Instr.loadAt, Instr.sureAddr, load1_run ha (loc_hdr (c0.rd h.loc) ho)]
 ·rw [← hn]
  subst hx1; subst hs1
  simp [execOp, hp, Instr.loadAt, Instr.sureAddr, load1_run ha (loc_hdr (c1.rd h.loc) ho)]
theorem SubS.at_ {α β : Type} [GoT α] [GoT β] {o off : Nat} {f : α → β} {s : α → β → α} (h : SubS o f s) (ho : off = o) : SubS off f s := ho ▸ h
theorem vmod_vmod {β : Type} {n : Nat} {v : Vector β n} {i : Int} {h : β → β} (hh : ∀ b, h (h b) = h b) : vmod (vmod v i h) i h = vmod v i h := by
 unfold vmod
 split
 ·simp [hh]
 ·rfl
theorem D_storeR0 {α : Type} [GoT α] {t t2 : TypeId} {i : Nat} {p v : Value} {a0 a1 : α} (hs : ∀ w, (sizeOf t).run P w = .ok (GoT.k α) w) (hx : ev e x = p) (hp : OB i g w t2 a0 p ∨ OB i g w t2 a1 p) (hy : ev e y = v) (hv : RV g.m w a1 v) :
  Doe P (.store t x y) e w fun _ w' => ∃ g', (boxRel i (fun g w => OB i g w t2 a0 p) (fun g w => OB i g w t2 a1 p)).rel g w g' w' ∧ OB i g' w' t2 a1 p := by
 rcases hp with hp | hp
 ·exact D_storeO hs hx hp hy hv fun g' w' hst hb => ⟨g', ⟨hst, fun _ => hb, fun _ => .inr hb⟩, hb⟩
 ·exact D_storeO hs hx hp hy hv fun g' w' hst hb => ⟨g', ⟨hst, fun _ => hb, fun _ => .inr hb⟩, hb⟩
end
end Go.Proofs.Ytmpjooneiaiffaa
/- Appends to a slice that lies in an own variable, in regions that draw their order. No program is named here. -/
namespace Go.Proofs.Ytmpjooneiaiffaa
open Go.RowKit

section
variable {P : Program} {e : Env} {w : World} {g : Gh} {K : Value → World → Prop} {x y : Operand}
end
theorem FlatR.split {α : Type} [GoT α] {m : Nat → Nat} {w : World} : ∀ {xs ys : List α} {cs : List Value}, FlatR m w (xs ++ ys) cs → ∃ o1 o2, cs = o1 ++ o2 ∧ FlatR m w xs o1 ∧ FlatR m w ys o2
 | [], _, cs, h => ⟨[], cs, rfl, rfl, h⟩
 | _ :: _, _, _, ⟨c1, _, rfl, h1, h2⟩ => by
  obtain ⟨o1, o2, rfl, k1, k2⟩ := FlatR.split h2
  exact ⟨c1 ++ o1, o2, by rw [List.append_assoc], ⟨c1, o1, rfl, h1, k1⟩, k2⟩

section
variable {α : Type} [GoT α] {i : Nat} {et : TypeId} {xs r : List α} {u : Value} {g g' : Gh} {w w' : World}
variable {P : Program} {N : Nat}
end
theorem L_self {α : Type} [GoT α] {A : Ow α} {P : Program} {g0 : Gh} {w0 : World} {i b : Nat} {t t2 : TypeId} {a : α} {s : A.S} {K : Prop} (ha : ∀ w, (isAgg t).run P w = .ok (GoT.agg α) w) (hsz : ∀ w, (sizeOf t).run P w = .ok (GoT.k α) w) (hag : GoT.agg α = true) (h : OV A i g0 w0 t2 a b s)
  (k : ∀ v, (∀ (x : Operand) (e : Env) (g : Gh) (w : World), (Ch g0.m w0 g.m w ∧ ∀ c, c < w0.heap.size → g0.o c = i → w.heap[c]? = w0.heap[c]?) → ev e x = .pointer (some ⟨b, 0, none⟩) → ∀ d ty pos af gd, (execOp (ev e) ⟨d, .load t x, ty, pos, af, gd⟩).run P w = .ok (.value v) w) →
   (∀ (x y : Operand) (e : Env) (g : Gh) (w : World), (Ch g0.m w0 g.m w ∧ ∀ c, c < w0.heap.size → g0.o c = i → w.heap[c]? = w0.heap[c]?) → ev e x = .pointer (some ⟨b, 0, none⟩) → ev e y = v → Doe P (.store t x y) e w fun _ w' => ∃ g', Ext g w g' w' ∧ True) → K) : K := by
 obtain ⟨cs, p1, p2, p3, p4, p5, p6⟩ := h
 have hl := A.len p4
 have hl2 : cs.size = GoT.k α := by simpa using hl
 refine k (.agg cs) (fun x e g w hc hx d ty pos af gd => ?_) (fun x y e g w hc hx hy d ty pos af gd => ?_)
 ·have hh : w.heap[b]? = some (.cells cs t2 (0, 0)) := (hc.2 b (lt_of_heap p3) p1).trans p3
  have h1 := run_loadCells_list (P := P) w ⟨b, 0, none⟩ cs.toList (fun j c hj => by rw [addr_add]; simpa [World.cell?, hh] using hj)
  rw [hl] at h1
  have hrun : (loadVar t ⟨b, 0, none⟩).run P w = .ok (.agg cs) w := by
   unfold loadVar
   rw [hag] at ha
   simp [Sem.run_bind, ha, hsz, Result.andThen, h1]
  simp [execOp, hx, Instr.loadAt, Instr.sureAddr, Result.andThen, hrun]
 ·have hh : w.heap[b]? = some (.cells cs t2 (0, 0)) := (hc.2 b (lt_of_heap p3) p1).trans p3
  have hrow : cs.toList.take 0 ++ (Value.agg cs).cells.toList ++ cs.toList.drop (0 + (Value.agg cs).cells.size) = cs.toList := by
   rw [List.take_zero, List.nil_append, List.drop_of_length_le (by show _ ≤ 0 + cs.size; simp), List.append_nil]; rfl
  have hrun := storeVar_run (P := P) (t := t) (v := .agg cs) (b := b) (o := 0) (w := w) (by show ∀ w, (sizeOf t).run P w = .ok cs.size w; rw [hl2]; exact hsz) hh (by show 0 + cs.size ≤ _; simp) (by show ∀ c ∈ cs.toList, _; exact A.one p4)
  rw [hrow] at hrun
  have hrun2 : (execOp (ev e) ⟨d, .store t x y, ty, pos, af, gd⟩).run P w = .ok .skip (w.setRow b cs.toList.toArray) := by
   simp [execOp, hx, hy, Instr.storeAt, Instr.sureAddr, Result.andThen, hrun]
  unfold doE; rw [hrun2]
  refine ⟨g, ⟨⟨rfl, rfl, rfl, by rw [setRow_size]; exact Nat.le_refl _, fun b' _ => ?_⟩, fun _ _ => rfl, fun _ _ => rfl⟩, trivial⟩
  by_cases hbb : b' = b
  ·subst hbb; rw [setRow_cells _ _ hh, hh]
  ·exact setRow_other b _ hbb
theorem P_fieldAddrH {P : Program} {e : Env} {x : Operand} {b d off : Nat} {s : TypeId} {i : Nat} (hf : ∀ (a : Addr) w, (Instr.fieldAt s (.pointer (some a)) i).run P w = .ok (.pointer (some (a.add d))) w) (hx : ev e x = .pointer (some ⟨b, off, none⟩)) : Pur P (.fieldAddr s x i) e (.pointer (some ⟨b, off + d, none⟩)) :=
 P_fieldAddr hf hx ⟨_, _, rfl⟩
theorem L_selfO {α : Type} [GoT α] {P : Program} {g0 : Gh} {w0 : World} {i : Nat} {t t2 : TypeId} {a : α} {p : Value} {K : Prop} (ha : ∀ w, (isAgg t).run P w = .ok (GoT.agg α) w) (hsz : ∀ w, (sizeOf t).run P w = .ok (GoT.k α) w) (hag : GoT.agg α = true) (h : OB i g0 w0 t2 a p)
  (k : ∀ v, (∀ (x : Operand) (e : Env) (g : Gh) (w : World), (Ch g0.m w0 g.m w ∧ ∀ c, c < w0.heap.size → g0.o c = i → w.heap[c]? = w0.heap[c]?) → ev e x = p → ∀ d ty pos af gd, (execOp (ev e) ⟨d, .load t x, ty, pos, af, gd⟩).run P w = .ok (.value v) w) →
   (∀ (x y : Operand) (e : Env) (g : Gh) (w : World), (Ch g0.m w0 g.m w ∧ ∀ c, c < w0.heap.size → g0.o c = i → w.heap[c]? = w0.heap[c]?) → ev e x = p → ev e y = v → Doe P (.store t x y) e w fun _ w' => ∃ g', Ext g w g' w' ∧ True) → K) : K := by
 obtain ⟨b, cs, rfl, p1, p2, p3, p4⟩ := h
 exact L_self (A := Ow.sh α) (s := ()) ha hsz hag ⟨cs, p1, p2, p3, p4, by simp [Ow.sh], fun c hc => by cases hc⟩ k
end Go.Proofs.Ytmpjooneiaiffaa
/- Maps that lie in variables and behind pointers; pointers as data. No program is named here. -/
namespace Go.Proofs.Ytmpjooneiaiffaa
open Go.RowKit
/-! ### Pointers as data -/
structure Ptr (α : Type) where
 x : α
theorem PT.one {α : Type} [GoT α] {m : Nat → Nat} {w : World} {x : α} {v : Value} (h : PT m w x v) : v.oneCell' = true := by
 obtain ⟨b, o, cs, rfl, _⟩ := h; simp [Value.oneCell']
instance {α : Type} [GoT α] : GoT (Ptr α) where
 k := 1
 agg := false
 rep m w p cs := ∃ v, cs = [v] ∧ PT m w p.x v
 len h := by obtain ⟨v, rfl, _⟩ := h; rfl
 one h := by obtain ⟨v, rfl, h⟩ := h; simpa using h.one
 mono k h := by obtain ⟨v, rfl, h⟩ := h; exact ⟨v, rfl, h.ch k⟩
 k1 _ := rfl
theorem RV_ptr {α : Type} [GoT α] {m : Nat → Nat} {w : World} {p : Ptr α} {v : Value} : RV m w p v ↔ PT m w p.x v :=
 ⟨fun ⟨cs, ⟨u, h1, h2⟩, hv⟩ => by subst h1; subst hv; exact h2, fun h => ⟨[v], ⟨v, rfl, h⟩, rfl⟩⟩
structure MapRef where
 deriving DecidableEq, Inhabited
instance : GoT MapRef where
 k := 1
 agg := false
 rep _ _ _ cs := ∃ b, cs = [.map b]
 len h := by obtain ⟨b, rfl⟩ := h; rfl
 one h := by obtain ⟨b, rfl⟩ := h; simp [Value.oneCell']
 mono _ h := h
 k1 _ := rfl
/-! ### A cell that stays -/
def FC (m : Nat → Nat) (w : World) (off : Nat) (v p : Value) : Prop := ∃ b o, p = .pointer (some ⟨b, o, none⟩) ∧ b < w.heap.size ∧ o + off < m b ∧ w.cell? ⟨b, o + off, none⟩ = some v
section
variable {m m' : Nat → Nat} {w w' : World} {g g' : Gh} {off : Nat} {v p : Value}
theorem FC.ch (h : FC m w off v p) (k : Ch m w m' w') : FC m' w' off v p := by
 obtain ⟨b, o, rfl, hb, hm, hc⟩ := h
 exact ⟨b, o, rfl, Nat.lt_of_lt_of_le hb k.size, Nat.lt_of_lt_of_le hm (k.marks b hb), (k.cells b hb _ hm).trans hc⟩
theorem FC.ext (h : FC g.m w off v p) (k : Ext g w g' w') : FC g'.m w' off v p := h.ch k.ch
theorem FC.stp {i : Nat} (h : FC g.m w off v p) (k : Stp i g w g' w') : FC g'.m w' off v p := h.ch k.ch
theorem FC.ist {B : Nat} (h : FC g.m w off v p) (k : IStp B g w g' w') : FC g'.m w' off v p := h.ch k.st.ch
theorem PT.ptrOf {α : Type} [GoT α] {q : Fv} {x : α} {c : Value} (h : PT m w q c) (k : PT m w x q.v) : PT m w (⟨x⟩ : Ptr α) c := by
 obtain ⟨b, o, cs, rfl, hb, hm, hr, hc⟩ := h
 exact ⟨b, o, cs, rfl, hb, hm, ⟨q.v, hr, k⟩, hc⟩
end
section
variable {P : Program} {e : Env} {w : World} {g : Gh} {K : Value → World → Prop} {x y : Operand} {off : Nat} {u p : Value} {t : TypeId}
theorem fc_run (ha : ∀ w, (isAgg t).run P w = .ok false w) (hs : ∀ w, (sizeOf t).run P w = .ok 1 w) (hu : u.oneCell' = true) {m : Nat → Nat} (hf : FC m w off u p) : ∀ a, fPtr p off = .pointer (some a) → (loadVar t a).run P w = .ok u w := by
 obtain ⟨b, o, rfl, hb, hm, hc⟩ := hf
 intro a he
 have he' : a = ⟨b, o + off, none⟩ := by simpa [fPtr] using he.symm
 subst he'
 have := loadVar_run (P := P) (α := Fv) (t := t) (a := ⟨u, hu⟩) (b := b) (off := o + off) (cs := [u]) (w := w) ha hs (m := m) rfl (fun j c hj => by
  cases j with
  | zero => simp at hj; subst hj; exact hc
  | succ j => simp at hj)
 simpa [toV, show GoT.agg Fv = false from rfl] using this
theorem L_loadFC {g0 : Gh} {w0 : World} (ha : ∀ w, (isAgg t).run P w = .ok false w) (hs : ∀ w, (sizeOf t).run P w = .ok 1 w) (hu : u.oneCell' = true) (hf : FC g0.m w0 off u p) :
  ∀ (e : Env) (g : Gh) (w : World), Ch g0.m w0 g.m w → ev e x = fPtr p off → ∀ d ty pos af gd, (execOp (ev e) ⟨d, .load t x, ty, pos, af, gd⟩).run P w = .ok (.value u) w := fun e g w hx he d ty pos af gd => by
 obtain ⟨b, o, hp, _⟩ := id hf
 have h1 := fc_run (P := P) ha hs hu (hf.ch hx) ⟨b, o + off, none⟩ (by rw [hp]; rfl)
 have he2 : ev e x = .pointer (some ⟨b, o + off, none⟩) := by rw [he, hp]; rfl
 simp [execOp, he2, Instr.loadAt, Instr.sureAddr, h1]
theorem D_boxF {α : Type} [GoT α] {v : Value} {a : α} (hx : ev e x = v) (hv : RV g.m w a v) (hc : v.cells.toList[off]? = some u) (h : ∀ g' w' p, Ext g w g' w' → PT g'.m w' a p → FC g'.m w' off u p → K p w') : Doe P (.box t x) e w K := fun d ty pos af gd => by
 have hl : off < v.cells.size := by have := (List.getElem?_eq_some_iff.1 hc).1; simpa using this
 have hrun : (execOp (ev e) ⟨d, .box t x, ty, pos, af, gd⟩).run P w = .ok (.value (.pointer (some ⟨w.heap.size, 0, none⟩))) (w.alloc (.cells v.cells t)) := by
  simp [execOp, hx, Instr.box, newVar, newRow, Result.andThen]
 unfold doE; rw [hrun]
 refine h _ _ _ (ext_new g w _ t) (pt_new hv.cells) ⟨w.heap.size, 0, rfl, by simp, ?_, ?_⟩
 ·show 0 + off < updN g.m w.heap.size v.cells.size w.heap.size
  rw [updN_same]; omega
 ·rw [Nat.zero_add, cell_new_at, ← Array.getElem?_toList]; exact hc
end
/-! ### Maps in variables -/
section
variable {κ ν : Type} [GoT ν] {enc : κ → Value} {i j k : Nat} {g g' : Gh} {w w' : World} {bt : TypeId} {xs : List (κ × ν)} {p v : Value}
theorem mp_one (h : MP enc i g w xs v) : v.oneCell' = true := by obtain ⟨b, es, cl, rfl, _⟩ := h; simp [Value.oneCell']
theorem mp_cells (h : MP enc i g w xs v) : v.cells = #[v] := by obtain ⟨b, es, cl, rfl, _⟩ := h; rfl
theorem MP.ref {m : Nat → Nat} (h : MP enc i g w xs v) : RV m w' (⟨⟩ : MapRef) v := by obtain ⟨b, es, cl, rfl, _⟩ := h; exact ⟨_, ⟨some b, rfl⟩, rfl⟩
theorem MP.handm {j i : Nat} {g0 g : Gh} {w0 w : World} {m : List (κ × ν)} {v : Value} (hfr : Fr g0 w0 g w) (h : MP enc (j + 1) g w m v) : ∃ g', Ext g0 w0 g' w ∧ g'.m = g.m ∧ MP enc i g' w m v := by
 obtain ⟨b, es, cl, rfl, ho, hh, h1, h2, h3⟩ := h
 have hb : ¬ b < w0.heap.size := fun hb => by have := hfr.o b hb; omega
 refine ⟨{ m := g.m, o := fun c => if c < w0.heap.size then g0.o c else if c = b then i else 0 }, ⟨hfr.below, hfr.m, fun c hc => by simp [hc]⟩, rfl, b, es, cl, rfl, ?_, hh, h1, h2, h3⟩
 simp [hb]
theorem fnDM_of_E {P : Program} {f : FuncId} {fn : Func} {c : Code} {args : Array Value} {i : Nat} {g : Gh} {w : World} {R : Gh → World → Value → Prop} (hf : P.funcs[f]? = some fn) (hb : fn.body = some c) (hN : args.size ≤ fn.ntmps)
  (h : ∀ g0, g0 = { m := g.m, o := fun b => if g.o b = i then 1 else 0 } → FrM i g w g0 w → E P fn.ntmps none c (atEndM P fn (OutM i g w R)) (envAt args) [] w) : FnM P f args i g w R := by
 refine Calls.mono (callsM_of_E hf hb hN (h _ rfl (FrM.start i g w))) ?_
 rintro r w' ⟨v, rfl, g', hfr, hr⟩
 exact ⟨v, rfl, _, hfr.fin, hr⟩
end
end Go.Proofs.Ytmpjooneiaiffaa
