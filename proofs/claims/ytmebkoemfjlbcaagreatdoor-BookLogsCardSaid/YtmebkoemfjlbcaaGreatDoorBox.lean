/- Own slices that lie in own variables. No program is named here. -/
import Derived.Test.YtmebkoemfjlbcaaGreatDoorRfn
namespace Go.Proofs.YtmebkoemfjlbcaaGreatDoor
open Go.RowKit

def OSF {β : Type} [GoT β] (i j off : Nat) (g : Gh) (w : World) (et t : TypeId) (xs : List β) (p : Value) : Prop :=
 ∃ b v cs, p = .pointer (some ⟨b, 0, none⟩) ∧ g.o b = i ∧ w.heap[b]? = some (.cells cs t (0, 0)) ∧ cs[off]? = some v ∧ OS j g w et xs v
section
variable {β : Type} [GoT β] {i j k off : Nat} {g g' : Gh} {w w' : World} {et t : TypeId} {xs : List β} {p : Value}
theorem OSF.ext (h : OSF i j off g w et t xs p) (hx : Ext g w g' w') : OSF i j off g' w' et t xs p := by
 obtain ⟨b, v, cs, hp, ho, hh, hv, hs⟩ := h
 exact ⟨b, v, cs, hp, (hx.o b (Gw hh)).trans ho, (hx.below.block b (Gw hh)).trans hh, hv, hs.ext hx⟩
theorem OSF.stp (h : OSF i j off g w et t xs p) (hx : Stp k g w g' w') (h1 : Nat.beq i k = false) (h2 : Nat.beq j k = false := by rfl) : OSF i j off g' w' et t xs p := by
 obtain ⟨b, v, cs, hp, ho, hh, hv, hs⟩ := h
 have hij : g.o b ≠ k := by rw [ho]; intro he; rw [he] at h1; simp at h1
 exact ⟨b, v, cs, hp, (hx.o b (Gw hh) hij).trans ho, (hx.block b (Gw hh) hij).trans hh, hv, hs.stp hx h2⟩
theorem OSF.ist {B : Nat} (h : OSF i j off g w et t xs p) (hx : Dq B g w g' w') (h1 : Nat.beq i 0 = false := by rfl) (h2 : Nat.beq j 0 = false := by rfl) : OSF i j off g' w' et t xs p := h.stp hx.st h1 h2
end
def CB (i : Nat) (g : Gh) (w : World) (t : TypeId) (p : Value) (cs : Array Value) : Prop := ∃ b, p = .pointer (some ⟨b, 0, none⟩) ∧ g.o b = i ∧ w.heap[b]? = some (.cells cs t (0, 0))
theorem CB.osf {β : Type} [GoT β] {i j off : Nat} {g : Gh} {w : World} {et t : TypeId} {p : Value} {cs : Array Value} (h : CB i g w t p cs) (hz : cs[off]? = some (.slice none 0 0)) : OSF i j off g w et t ([] : List β) p := by
 obtain ⟨b, hp, ho, hh⟩ := h
 exact ⟨b, _, cs, hp, ho, hh, hz, OS.nil⟩
theorem CB.osfv {β : Type} [GoT β] {i j off : Nat} {g : Gh} {w : World} {et t : TypeId} {p v : Value} {cs : Array Value} {xs : List β} (h : CB i g w t p cs) (hz : cs[off]? = some v) (hs : OS j g w et xs v) : OSF i j off g w et t xs p := by
 obtain ⟨b, hp, ho, hh⟩ := h
 exact ⟨b, _, cs, hp, ho, hh, hz, hs⟩
theorem CB.osfr {β : Type} [GoT β] {i j : Nat} {g : Gh} {w : World} {et t : TypeId} {p v : Value} {xs : List β} (h : CB i g w t p v.cells) (hr : v.cells = #[v]) (hs : OS j g w et xs v) : OSF i j 0 g w et t xs p := h.osfv (by rw [hr]; rfl) hs
section
variable {P : Program} {e : Env} {w : World} {g : Gh} {K : Value → World → Prop} {x y z : Operand}
theorem F5 {α : Type} [GoT α] (i : Nat) {t : TypeId} {v : Value} {a : α} (hx : ev e x = v) (hv : RV g.m w a v) (h : ∀ g' w' p, Stp i g w g' w' → OB i g' w' t a p → CB i g' w' t p v.cells → K p w') : Doe P (.box t x) e w K := fun d ty pos af gd => by
 have hrun : (execOp (ev e) ⟨d, .box t x, ty, pos, af, gd⟩).run P w = .ok (.value (.pointer (some ⟨w.heap.size, 0, none⟩))) (w.alloc (.cells v.cells t)) := by
  simp [execOp, hx, Instr.box, newVar, newRow, Result.andThen]
 unfold doE; rw [hrun]; exact h _ _ _ (Hs i g w _ t 0) (S8 hv.cells) ⟨_, rfl, Tj _ _ _, Wd _ _⟩
theorem Td {α : Type} [GoT α] (i : Nat) {t : TypeId} {z : Value} (a : α) (hz : ∀ w, (zeroValue t).run P w = .ok z w) (hv : ∀ m w, RV m w a z) (h : ∀ g' w' p, Stp i g w g' w' → OB i g' w' t a p → CB i g' w' t p z.cells → K p w') : Doe P (.alloc t) e w K := fun d ty pos af gd => by
 have hrun : (execOp (ev e) ⟨d, .alloc t, ty, pos, af, gd⟩).run P w = .ok (.value (.pointer (some ⟨w.heap.size, 0, none⟩))) (w.alloc (.cells z.cells t)) := by
  simp [execOp, Instr.alloc, hz, newVar, newRow, Sem.run_bind, Result.andThen]
 unfold doE; rw [hrun]; exact h _ _ _ (Hs i g w _ t 0) (S8 (hv g.m w).cells) ⟨_, rfl, Tj _ _ _, Wd _ _⟩
theorem Gv {α : Type} [GoT α] {i : Nat} {t t2 : TypeId} {p v : Value} {a a' : α} (hs : ∀ w, (sizeOf t).run P w = .ok (GoT.k α) w) (hx : ev e x = p) (hp : OB i g w t2 a p) (hy : ev e y = v) (hv : RV g.m w a' v)
  (h : ∀ g' w', Stp i g w g' w' → OB i g' w' t2 a' p → CB i g' w' t2 p v.cells → K undef w') : Doe P (.store t x y) e w K := fun d ty pos af gd => by
 obtain ⟨b, cs, rfl, ho, hm, hh, hr⟩ := hp
 have hsz := T4 hv
 have hl := GoT.len hr
 have hrow : cs.toList.take 0 ++ v.cells.toList ++ cs.toList.drop (0 + v.cells.size) = v.cells.toList := by
  rw [List.take_zero, List.nil_append, List.drop_of_length_le (by simp at hl; simp; omega), List.append_nil]
 have hrun := Ki (P := P) (t := t) (v := v) (b := b) (o := 0) (by rw [hsz]; exact hs) hh (by simp at hl; omega) (GoT.one hv.cells)
 rw [hrow] at hrun
 have hstp : Stp i g w g (w.setRow b v.cells.toList.toArray) := Uo hh ho (fun j hj => by rw [hm] at hj; omega)
 have hrun2 : (execOp (ev e) ⟨d, .store t x y, ty, pos, af, gd⟩).run P w = .ok .skip (w.setRow b v.cells.toList.toArray) := by
  simp [execOp, hx, hy, Instr.storeAt, Instr.sureAddr, Result.andThen, hrun]
 unfold doE; rw [hrun2]
 exact h g _ hstp ⟨b, _, rfl, ho, hm, Qa _ _ hh, by simpa using GoT.mono hstp.ch hv.cells⟩ ⟨b, rfl, ho, by simpa using Qa b v.cells.toList.toArray hh⟩
def Rest (_i off k : Nat) (g : Gh) (w : World) (g' : Gh) (w' : World) (t : TypeId) (p : Value) : Prop :=
 ∃ b cs cs', p = .pointer (some ⟨b, 0, none⟩) ∧ g'.o b = g.o b ∧ w.heap[b]? = some (.cells cs t (0, 0)) ∧ w'.heap[b]? = some (.cells cs' t (0, 0)) ∧ (∀ j, j < off → cs'[j]? = cs[j]?) ∧ (∀ j, off + k ≤ j → cs'[j]? = cs[j]?)
theorem OSF.rest {β : Type} [GoT β] {i j off off2 k : Nat} {g g' : Gh} {w w' : World} {et t : TypeId} {xs : List β} {p : Value} (h : OSF i j off g w et t xs p) (hx : Stp i g w g' w') (hr : Rest i off2 k g w g' w' t p) (ho : (Nat.blt off off2 || Nat.ble (off2 + k) off) = true := by rfl) (hji : Nat.beq j i = false := by rfl) : OSF i j off g' w' et t xs p := by
 obtain ⟨b, v, cs, hp, ho', hh, hv, hs⟩ := h
 obtain ⟨b2, cs2, cs3, hp2, hgo, hh2, hh3, h1, h2⟩ := hr
 rw [hp] at hp2
 injection hp2 with he; injection he with he; injection he with he _
 subst he
 rw [hh] at hh2
 injection hh2 with he; injection he with he
 subst he
 refine ⟨b, v, cs3, hp, hgo.trans ho', hh3, ?_, hs.stp hx hji⟩
 rw [← hv]
 simp only [Bool.or_eq_true] at ho
 rcases ho with h | h
 ·exact h1 _ (Nat.le_of_ble_eq_true h)
 ·exact h2 _ (Nat.le_of_ble_eq_true h)
theorem Yf {α β : Type} [GoT α] [GoT β] {i off : Nat} {f : α → β} {s : α → β → α} {t t2 : TypeId} {p v : Value} {a : α} {b : β} (hsub : Gr off f s) (hs : ∀ w, (sizeOf t).run P w = .ok (GoT.k β) w) (hx : ev e x = Gc p off) (hp : OB i g w t2 a p) (hy : ev e y = v) (hv : RV g.m w b v)
  (h : ∀ g' w', Stp i g w g' w' → OB i g' w' t2 (s a b) p → Rest i off (GoT.k β) g w g' w' t2 p → (∀ (γ : Type) (_ : GoT γ) (j : Nat) (et : TypeId) (xs : List γ), (v.cells = #[v]) → Nat.beq j i = false → OS j g w et xs v → OSF i j off g' w' et t2 xs p) → K undef w') : Doe P (.store t x y) e w K := fun d ty pos af gd => by
 obtain ⟨bl, cs, rfl, ho, hm, hh, hr⟩ := hp
 have hsz := T4 hv
 have hl := GoT.len hr
 have hb := hsub.1.1
 have hrun := Ki (P := P) (t := t) (v := v) (b := bl) (o := off) (by rw [hsz]; exact hs) hh (by simp at hl; omega) (GoT.one hv.cells)
 have hrep := hsub.2 _ _ _ _ _ _ hr hv.cells
 rw [show v.cells.toList.length = v.cells.size from by simp] at hrep
 generalize hrow : cs.toList.take off ++ v.cells.toList ++ cs.toList.drop (off + v.cells.size) = row at hrun hrep
 have hstp : Stp i g w g (w.setRow bl row.toArray) := Uo hh ho (fun j hj => by rw [hm] at hj; omega)
 have hrun2 : (execOp (ev e) ⟨d, .store t x y, ty, pos, af, gd⟩).run P w = .ok .skip (w.setRow bl row.toArray) := by
  simp [execOp, hx, hy, Gc, Instr.storeAt, Instr.sureAddr, Result.andThen, hrun]
 have htk : (cs.toList.take off).length = off := by rw [List.length_take, Array.length_toList]; simp at hl; omega
 unfold doE; rw [hrun2]
 refine h g _ hstp ⟨bl, _, rfl, ho, hm, Qa _ _ hh, by simpa using GoT.mono hstp.ch hrep⟩ ⟨bl, cs, _, rfl, rfl, hh, Qa _ _ hh, fun j hj => ?_, fun j hj => ?_⟩ (fun γ _ j et xs hv1 hji hos => ⟨bl, v, _, rfl, ho, Qa _ _ hh, ?_, hos.stp hstp hji⟩)
 ·rw [List.getElem?_toArray, ← hrow, List.append_assoc, List.getElem?_append_left (by omega), List.getElem?_take, if_pos hj]; simp
 ·have hvl : v.cells.toList.length = GoT.k β := by simpa using hsz
  rw [List.getElem?_toArray, ← hrow, List.getElem?_append_right (by rw [List.length_append, htk, hvl]; omega), List.getElem?_drop, List.length_append, htk, hvl, hsz]
  have : off + GoT.k β + (j - (off + GoT.k β)) = j := by omega
  rw [this]; simp
 ·rw [List.getElem?_toArray, ← hrow, hv1, List.append_assoc, List.getElem?_append_right (by omega), htk, Nat.sub_self]; rfl
theorem Mq {α β : Type} [GoT α] [GoT β] {i j off : Nat} {f : α → List β} {t2 et : TypeId} {p : Value} {a : α} {xs : List β} (hsub : Sub off f) (hp : OB i g w t2 a p) (hf : OSF i j off g w et t2 xs p) :
  ∃ b cs v, p = .pointer (some ⟨b, 0, none⟩) ∧ w.heap[b]? = some (.cells cs t2 (0, 0)) ∧ GoT.rep g.m w (f a) [v] ∧ w.cell? ⟨b, off, none⟩ = some v ∧ OS j g w et xs v := by
 obtain ⟨b, cs, rfl, ho, hm, hh, hr⟩ := hp
 obtain ⟨b2, v, cs2, hp2, ho2, hh2, hv, hos⟩ := hf
 injection hp2 with he; injection he with he; injection he with he _
 subst he
 rw [hh] at hh2
 injection hh2 with he; injection he with he
 subst he
 have hr2 := hsub.2 _ _ _ _ hr
 have hv2 : cs.toList[off]? = some v := by simpa using hv
 have hlt := (List.getElem?_eq_some_iff.1 hv2).1
 have he : (cs.toList.drop off).take (GoT.k (List β)) = [v] := by
  show List.take 1 _ = _
  rw [List.drop_eq_getElem_cons hlt, (List.getElem?_eq_some_iff.1 hv2).2]; rfl
 rw [he] at hr2
 exact ⟨b, cs, v, rfl, hh, hr2, by simp only [World.cell?, hh, Option.isSome_none, Bool.false_eq_true, if_false]; exact hv, hos⟩
theorem Cl {α β : Type} [GoT α] [GoT β] {i j off : Nat} {f : α → List β} {t t2 et : TypeId} {p : Value} {a : α} {xs : List β} (hsub : Sub off f) (ha : ∀ w, (isAgg t).run P w = .ok false w) (hs : ∀ w, (sizeOf t).run P w = .ok 1 w) (hx : ev e x = Gc p off) (hp : OB i g w t2 a p) (hf : OSF i j off g w et t2 xs p)
  (h : ∀ v, RV g.m w (f a) v → OS j g w et xs v → K v w) : Doe P (.load t x) e w K := fun d ty pos af gd => by
 obtain ⟨b, cs, v, rfl, hh, hr, hc, hos⟩ := Mq hsub hp hf
 have hrun : (execOp (ev e) ⟨d, .load t x, ty, pos, af, gd⟩).run P w = .ok (.value v) w := by
  have h1 := T3 (P := P) (t := t) (b := b) (off := off) (a := f a) (cs := [v]) ha hs hr (fun j c hj => by
   have : j = 0 := by have := (List.getElem?_eq_some_iff.1 hj).1; simp at this; omega
   subst this; simp at hj; subst hj; exact hc)
  simp [execOp, hx, Gc, Instr.loadAt, Instr.sureAddr, Result.andThen, h1, toV, GoT.agg]
 unfold doE; rw [hrun]; exact h _ ⟨_, hr, rfl⟩ hos
theorem Pw {p : Value} (h : ∃ b o, p = .pointer (some ⟨b, o, none⟩)) : Gc p 0 = p := by obtain ⟨b, o, rfl⟩ := h; rfl
theorem D9 {β : Type} [GoT β] {i j : Nat} {t t2 et : TypeId} {p : Value} {a : List β} {xs : List β} (ha : ∀ w, (isAgg t).run P w = .ok false w) (hs : ∀ w, (sizeOf t).run P w = .ok 1 w) (hx : ev e x = p) (hp : OB i g w t2 a p) (hf : OSF i j 0 g w et t2 xs p)
  (h : ∀ v, RV g.m w a v → OS j g w et xs v → K v w) : Doe P (.load t x) e w K :=
 Cl (f := fun x => x) Sub.id_ ha hs (hx.trans (Pw hp.ptr).symm) hp hf h
theorem B7 {α β : Type} [GoT α] [GoT β] {i j off : Nat} {f : α → List β} {g0 : Gh} {w0 : World} {t t2 et : TypeId} {p : Value} {a : α} {xs : List β} {K : Prop} (hsub : Sub off f) (ha : ∀ w, (isAgg t).run P w = .ok false w) (hs : ∀ w, (sizeOf t).run P w = .ok 1 w) (hp : OB i g0 w0 t2 a p) (hf : OSF i j off g0 w0 et t2 xs p)
  (k : ∀ v, RV g0.m w0 (f a) v → OS j g0 w0 et xs v → (∀ (x : Operand) (e : Env) (g : Gh) (w : World), (Ch g0.m w0 g.m w ∧ ∀ b, b < w0.heap.size → g0.o b = i → w.heap[b]? = w0.heap[b]?) → ev e x = Gc p off → ∀ d ty pos af gd, (execOp (ev e) ⟨d, .load t x, ty, pos, af, gd⟩).run P w = .ok (.value v) w) → K) : K := by
 have hp0 := hp
 obtain ⟨b0, _, hpb, hob, _, hhb, _⟩ := hp0
 obtain ⟨b, cs, v, rfl, hh, hr, hc, hos⟩ := Mq hsub hp hf
 injection hpb with he; injection he with he; injection he with he _
 subst he
 refine k v ⟨_, hr, rfl⟩ hos fun x e g w hx he d ty pos af gd => ?_
 have hh' : w.heap[b]? = some (.cells cs t2 (0, 0)) := (hx.2 b (Gw hh) hob).trans hh
 have hc' : w.cell? ⟨b, off, none⟩ = some v := by rw [← hc]; simp only [World.cell?, hh', hh]
 have h1 := T3 (P := P) (t := t) (b := b) (off := off) (a := f a) (cs := [v]) ha hs (GoT.mono hx.1 hr) (fun j c hj => by
   have : j = 0 := by have := (List.getElem?_eq_some_iff.1 hj).1; simp at this; omega
   subst this; simp at hj; subst hj; exact hc')
 simp only [Gc, Nat.zero_add] at he
 simp [execOp, he, Instr.loadAt, Instr.sureAddr, h1, toV, GoT.agg]
theorem Av {α β : Type} [GoT α] [GoT β] {i j off : Nat} {f : α → List β} {g0 : Gh} {w0 : World} {t t2 et : TypeId} {x : Operand} {p : Value} {a : α} {xs : List β} {K : Prop} (hsub : Sub off f) (ha : ∀ w, (isAgg t).run P w = .ok false w) (hs : ∀ w, (sizeOf t).run P w = .ok 1 w) (hp : OB i g0 w0 t2 a p) (hf : OSF i j off g0 w0 et t2 xs p)
  (k : ∀ v, RV g0.m w0 (f a) v → OS j g0 w0 et xs v → (∀ (e : Env) (g : Gh) (w : World), (Ch g0.m w0 g.m w ∧ ∀ b, b < w0.heap.size → g0.o b = i → w.heap[b]? = w0.heap[b]?) → ev e x = Gc p off → ∀ d ty pos af gd, (execOp (ev e) ⟨d, .load t x, ty, pos, af, gd⟩).run P w = .ok (.value v) w) → K) : K :=
 B7 hsub ha hs hp hf fun v hr ho hl => k v hr ho (hl x)
theorem D1 {β : Type} [GoT β] {i j : Nat} {g0 : Gh} {w0 : World} {t t2 et : TypeId} {x : Operand} {p : Value} {a xs : List β} {K : Prop} (ha : ∀ w, (isAgg t).run P w = .ok false w) (hs : ∀ w, (sizeOf t).run P w = .ok 1 w) (hp : OB i g0 w0 t2 a p) (hf : OSF i j 0 g0 w0 et t2 xs p)
  (k : ∀ v, RV g0.m w0 a v → OS j g0 w0 et xs v → (∀ (e : Env) (g : Gh) (w : World), (Ch g0.m w0 g.m w ∧ ∀ b, b < w0.heap.size → g0.o b = i → w.heap[b]? = w0.heap[b]?) → ev e x = p → ∀ d ty pos af gd, (execOp (ev e) ⟨d, .load t x, ty, pos, af, gd⟩).run P w = .ok (.value v) w) → K) : K :=
 Av (f := fun x => x) Sub.id_ ha hs hp hf fun v hr ho hl => k v hr ho fun e g w hc he => hl e g w hc (he.trans (Pw hp.ptr).symm)
end
theorem Ul {β : Type} [GoT β] {m : Nat → Nat} {w : World} {xs : List β} {v : Value} (h : RV m w xs v) : v.cells = #[v] := by
 obtain ⟨a, c, rfl, _⟩ := Qc h; rfl
theorem H4 {α : Type} [GoT α] {i : Nat} {P : Program} {g0 : Gh} {w0 : World} {t t2 : TypeId} {x : Operand} {p : Value} {a : α} {K : Prop} (ha : ∀ w, (isAgg t).run P w = .ok (GoT.agg α) w) (hs : ∀ w, (sizeOf t).run P w = .ok (GoT.k α) w) (hp : OB i g0 w0 t2 a p)
  (k : ∀ v, RV g0.m w0 a v → (∀ (e : Env) (g : Gh) (w : World), (Ch g0.m w0 g.m w ∧ ∀ b, b < w0.heap.size → g0.o b = i → w.heap[b]? = w0.heap[b]?) → ev e x = p → ∀ d ty pos af gd, (execOp (ev e) ⟨d, .load t x, ty, pos, af, gd⟩).run P w = .ok (.value v) w) → K) : K :=
 V7 (f := fun x => x) Sub.id_ ha hs hp fun v hr hl => k v hr fun e g w hc he => hl e g w hc (he.trans (Pw hp.ptr).symm)
/-! ### Joints where marks may have come -/
section
variable {P : Program} {N : Nat} {ro : Option Nat} {Q : Kx} {e : Env} {ds : List Deferred} {w : World} {x y c : Code}
theorem Kl (R : Env → List Deferred → World → Prop) (h1 : ∀ Q' : Kx, (∀ e ds w, R e ds w → Q' .normal e ds w) → E P N ro x Q' e ds w) (h2 : ∀ e ds w, R e ds w → E P N ro y Q e ds w) : E P N ro (.seq x y) Q e ds w :=
 Zf (h1 _ h2)
theorem R4 {σ ρ : Type} {r : ρ} {k : σ → Option ρ} {f : (σ → Option ρ) → Option ρ} (hr : jn k f = some r) (R : σ → Env → List Deferred → World → Prop)
  (h1 : ∀ (X : Env → List Deferred → World → Prop) (k : σ → Option ρ), (∀ s e ds w, R s e ds w → k s = some r → X e ds w) → f k = some r → E P N ro x (thn X Q) e ds w)
  (h2 : ∀ s e ds w, R s e ds w → k s = some r → E P N ro y Q e ds w) : E P N ro (.seq x y) Q e ds w :=
 Zf (h1 _ k (fun s e ds w hR hk => h2 s e ds w hR hk) hr)
theorem Vt {σ ρ : Type} {r : ρ} {m : Nat} {s : σ} {body : (σ → Option ρ) → σ → Option ρ} (hr : lp body m s = some r) (R : σ → Env → List Deferred → World → Prop) (h0 : R s e ds w)
  (step : ∀ (X : Env → List Deferred → World → Prop) (rec : σ → Option ρ), (∀ s e ds w, R s e ds w → rec s = some r → X e ds w) → ∀ s e ds w, R s e ds w → body rec s = some r → E P N ro c (thn X Q) e ds w) : E P N ro (.loop c) Q e ds w := by
 refine A7 m ?_
 revert s e ds w
 induction m with
 | zero => intro e ds w s hr h0; rw [Lk] at hr; cases hr
 | succ m ih =>
  intro e ds w s hr h0
  rw [Sr] at hr
  exact step _ (lp body m) (fun s e ds w hR hk => ih hk hR) s e ds w h0 hr
end
theorem As {P : Program} {f : FuncId} {fn : Func} {c : Code} {args : Array Value} {g : Gh} {w : World} {R : (Nat → Nat) → World → Value → Prop} (hf : P.funcs[f]? = some fn) (hb : fn.body = some c) (hN : args.size ≤ fn.ntmps)
  (h : ∀ g0, g0.m = g.m → Fr g w g0 w → E P fn.ntmps none c (Dg P fn (Out g w R)) (W8 args) [] w) : Fn P f args g w R := by
 refine Calls.mono (Xj hf hb hN (h { m := g.m, o := fun _ => 0 } rfl (Fr.start g w))) ?_
 rintro r w' ⟨v, rfl, g', hfr, hr⟩
 exact ⟨v, rfl, _, hfr.fin, hr⟩
/-! ### Iterators -/
def Mz {σ : Type} (J : Inv σ) (s : σ) (_ : Value) (w : World) : Prop := ∃ gC, J s gC w
theorem FrY.done {σ : Type} {gI : Gh} {wI : World} {B : Nat} {J : Inv σ} {s : σ} {g : Gh} {w : World} {v : Value} (h : FrY gI wI B J s g w) : Mz J s v w := let ⟨gC, _, _, hJ⟩ := h.inv; ⟨gC, hJ⟩
theorem Pm {σ α : Type} {P : Program} {ra : Rds α} {f : FuncId} {fn : Func} {c : Code} {first caps : Array Value} {g : Gh} {w : World} {cons : U9 σ α} {s s' : σ} (hf : P.funcs[f]? = some fn) (hb : fn.body = some c) (hN : first.size + 1 + caps.size ≤ fn.ntmps)
  (h : ∀ (l B : Nat) (J : Inv σ) (g0 : Gh), g0.m = g.m → Cz B J → V6 P l ra cons J → FrY g w B J s g0 w → E P fn.ntmps none c (K3 P fn (Mz J s')) (W8 (first ++ #[.func (.yield l) #[] #[]] ++ caps)) [] w) : Rx P ra f first caps g w cons s s' := by
 intro l B J gC hm hB hab hro hJ
 refine Calls.mono (Qp hf hb (by simp; omega) (h l B J { m := g.m, o := fun b => if gC.o b = 0 then 0 else 2 } rfl hab hro (FrY.start hB hm hJ))) ?_
 rintro r w' ⟨v, rfl, gC', hd⟩
 exact ⟨⟨v, rfl⟩, gC', hd⟩
theorem Ft {σ α : Type} {P : Program} {ra : Rds α} {f : FuncId} {fn : Func} {c : Code} {first caps : Array Value} {g : Gh} {w : World} {cons : U9 σ α} {s s' : σ} (hf : P.funcs[f]? = some fn) (hb : fn.body = some c) (hN : first.size + 1 + caps.size ≤ fn.ntmps)
  (h : ∀ (l B : Nat) (J : Inv σ) (g0 : Gh), g0.m = g.m → Cz B J → V6 P l ra cons J → FrY g w B J s g0 w → E P fn.ntmps none c (Dg P fn (Mz J s')) (W8 (first ++ #[.func (.yield l) #[] #[]] ++ caps)) [] w) : Rx P ra f first caps g w cons s s' := by
 intro l B J gC hm hB hab hro hJ
 refine Calls.mono (Xj hf hb (by simp; omega) (h l B J { m := g.m, o := fun b => if gC.o b = 0 then 0 else 2 } rfl hab hro (FrY.start hB hm hJ))) ?_
 rintro r w' ⟨v, rfl, gC', hd⟩
 exact ⟨⟨v, rfl⟩, gC', hd⟩
def Rm {SV α : Type} (body : SV → α → Option (Bool × (Nat × SV))) : U9 (Nat × SV) α := fun s x => bif Nat.beq s.1 0 then body s.2 x else none
theorem Vp {SV α : Type} {body : SV → α → Option (Bool × (Nat × SV))} {s : Nat × SV} {x : α} {r : Bool × (Nat × SV)} (h : Rm body s x = some r) : s.1 = 0 ∧ body s.2 x = some r := by
 unfold Rm at h
 cases hb : Nat.beq s.1 0 with
 | true => rw [hb] at h; exact ⟨Nat.eq_of_beq_eq_true hb, h⟩
 | false => rw [hb] at h; cases h
theorem Ao {β : Type} {c : Bool} {x y : Option β} {r : β} (h : (bif c then x else y) = some r) (hc : c = true) : x = some r := by subst hc; exact h
theorem Pt {β : Type} {c : Bool} {x y : Option β} {r : β} (h : (bif c then x else y) = some r) (hc : c = false) : y = some r := by subst hc; exact h
theorem Lo {α : Type} [GoT α] {m : Nat → Nat} {w : World} {x : α} {vs : List Value} (h : RA1 m w x vs.toArray) : ∃ v, vs = [v] ∧ RV m w x v := by
 obtain ⟨v, h1, h2⟩ := h; exact ⟨v, by simpa using h1, h2⟩
theorem Rv {α : Type} [GoT α] (m : Nat → Nat) (w : World) (x : α) (vs : Array Value) (h : RA1 m w x vs) : vs.size = 1 := by obtain ⟨v, rfl, _⟩ := h; rfl
/-! ### Function values as data -/
structure Fv where
 v : Value
 h : v.oneCell' = true
instance : GoT Fv where
 k := 1
 agg := false
 rep _ _ x cs := cs = [x.v]
 len h := by subst h; rfl
 one {m w x cs} h := by subst h; simpa using x.h
 mono _ h := h
 k1 _ := rfl
theorem Xo {m : Nat → Nat} {w : World} {x : Fv} {v : Value} : RV m w x v ↔ v = x.v := ⟨fun ⟨_, h, hv⟩ => by rw [hv, h]; rfl, fun h => ⟨_, rfl, h⟩⟩
end Go.Proofs.YtmebkoemfjlbcaaGreatDoor
