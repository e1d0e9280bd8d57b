/- The statement that ranges over a function. No program is named here. -/
import Derived.Test.YtkmbkaoolacofaaGreatIter
import Derived.RangeFuncNested
import Derived.Lib.Builder
import Derived.Lib.UnsafeStr
import Derived.Laws.RangeString
import Derived.Laws.Externs
import Derived.Laws.Pointers
import Derived.Maps.RangeRun
import Derived.Laws.IdiomStrings
namespace Go.Proofs.YtkmbkaoolacofaaGreat
open Go.RowKit

theorem ext_alloc (i : Nat) (g : Gh) (w : World) (o : Obj) : Ext g w { m := updN g.m w.heap.size 0, o := updN g.o w.heap.size i } (w.alloc o) :=
 ⟨(Below.refl _ w).alloc (Nat.le_refl _) _, fun b hb => updN_ne _ _ (by omega), fun b hb => updN_ne _ _ (by omega)⟩
theorem MkF.push {g g' : Gh} {w w' : World} {ds : List Deferred} {D : Nat} (h0 : MkF g w ds) (h : MkF g' w' ds) (hD : w.heap.size ≤ D) (hb : HB 9 g' w' D (.deferred (some []))) : MkF g' w' ({ target := .collected D, args := #[] } :: ds) := by
 refine ⟨fun d hd => ?_, ?_⟩
 ·rcases List.mem_cons.1 hd with rfl | hd
  ·exact ⟨D, rfl, hb⟩
  ·exact h.mks d hd
 ·show (_ :: _).Nodup
  refine List.nodup_cons.2 ⟨fun hm => ?_, h.nd⟩
  obtain ⟨d, hd, he⟩ := List.mem_map.1 hm
  obtain ⟨D', rfl, h1⟩ := h0.mks d hd
  have hlt := lt_of_heap h1.2
  injection he with he
  omega

end Go.Proofs.YtkmbkaoolacofaaGreat
/- Own slices that lie in own variables. No program is named here. -/
namespace Go.Proofs.YtkmbkaoolacofaaGreat
open Go.RowKit

def OSF {β : Type} [GoT β] (i j off : Nat) (g : Gh) (w : World) (et t : TypeId) (xs : List β) (p : Value) : Prop :=
 ∃ b v cs, p = .pointer (some ⟨b, 0, none⟩) ∧ g.o b = i ∧ w.heap[b]? = some (.cells cs t (0, 0)) ∧ cs[off]? = some v ∧ OS j g w et xs v
section
variable {β : Type} [GoT β] {i j k off : Nat} {g g' : Gh} {w w' : World} {et t : TypeId} {xs : List β} {p : Value}
theorem OSF.ext (h : OSF i j off g w et t xs p) (hx : Ext g w g' w') : OSF i j off g' w' et t xs p := by
 obtain ⟨b, v, cs, hp, ho, hh, hv, hs⟩ := h
 exact ⟨b, v, cs, hp, (hx.o b (lt_of_heap hh)).trans ho, (hx.below.block b (lt_of_heap hh)).trans hh, hv, hs.ext hx⟩
theorem OSF.stp (h : OSF i j off g w et t xs p) (hx : Stp k g w g' w') (h1 : Nat.beq i k = false) (h2 : Nat.beq j k = false := by rfl) : OSF i j off g' w' et t xs p := by
 obtain ⟨b, v, cs, hp, ho, hh, hv, hs⟩ := h
 have hij : g.o b ≠ k := by rw [ho]; intro he; rw [he] at h1; simp at h1
 exact ⟨b, v, cs, hp, (hx.o b (lt_of_heap hh) hij).trans ho, (hx.block b (lt_of_heap hh) hij).trans hh, hv, hs.stp hx h2⟩
end
def CB (i : Nat) (g : Gh) (w : World) (t : TypeId) (p : Value) (cs : Array Value) : Prop := ∃ b, p = .pointer (some ⟨b, 0, none⟩) ∧ g.o b = i ∧ w.heap[b]? = some (.cells cs t (0, 0))
theorem CB.osf {β : Type} [GoT β] {i j off : Nat} {g : Gh} {w : World} {et t : TypeId} {p : Value} {cs : Array Value} (h : CB i g w t p cs) (hz : cs[off]? = some (.slice none 0 0)) : OSF i j off g w et t ([] : List β) p := by
 obtain ⟨b, hp, ho, hh⟩ := h
 exact ⟨b, _, cs, hp, ho, hh, hz, OS.nil⟩
section
variable {P : Program} {e : Env} {w : World} {g : Gh} {K : Value → World → Prop} {x y z : Operand}
theorem D_allocOc {α : Type} [GoT α] (i : Nat) {t : TypeId} {z : Value} (a : α) (hz : ∀ w, (zeroValue t).run P w = .ok z w) (hv : ∀ m w, RV m w a z) (h : ∀ g' w' p, Stp i g w g' w' → OB i g' w' t a p → CB i g' w' t p z.cells → K p w') : Doe P (.alloc t) e w K := fun d ty pos af gd => by
 have hrun : (execOp (ev e) ⟨d, .alloc t, ty, pos, af, gd⟩).run P w = .ok (.value (.pointer (some ⟨w.heap.size, 0, none⟩))) (w.alloc (.cells z.cells t)) := by
  simp [execOp, Instr.alloc, hz, newVar, newRow, Sem.run_bind, Result.andThen]
 unfold doE; rw [hrun]; exact h _ _ _ (stp_new i g w _ t 0) (ob_new (hv g.m w).cells) ⟨_, rfl, updN_same _ _ _, heap_new_at _ _⟩
theorem D_storeOc {α : Type} [GoT α] {i : Nat} {t t2 : TypeId} {p v : Value} {a a' : α} (hs : ∀ w, (sizeOf t).run P w = .ok (GoT.k α) w) (hx : ev e x = p) (hp : OB i g w t2 a p) (hy : ev e y = v) (hv : RV g.m w a' v)
  (h : ∀ g' w', Stp i g w g' w' → OB i g' w' t2 a' p → CB i g' w' t2 p v.cells → K undef w') : Doe P (.store t x y) e w K := fun d ty pos af gd => by
 obtain ⟨b, cs, rfl, ho, hm, hh, hr⟩ := hp
 have hsz := cells_size hv
 have hl := GoT.len hr
 have hrow : cs.toList.take 0 ++ v.cells.toList ++ cs.toList.drop (0 + v.cells.size) = v.cells.toList := by
  rw [List.take_zero, List.nil_append, List.drop_of_length_le (by simp at hl; simp; omega), List.append_nil]
 have hrun := storeVar_run (P := P) (t := t) (v := v) (b := b) (o := 0) (by rw [hsz]; exact hs) hh (by simp at hl; omega) (GoT.one hv.cells)
 rw [hrow] at hrun
 have hstp : Stp i g w g (w.setRow b v.cells.toList.toArray) := stp_row hh ho (fun j hj => by rw [hm] at hj; omega)
 have hrun2 : (execOp (ev e) ⟨d, .store t x y, ty, pos, af, gd⟩).run P w = .ok .skip (w.setRow b v.cells.toList.toArray) := by
  simp [execOp, hx, hy, Instr.storeAt, Instr.sureAddr, Result.andThen, hrun]
 unfold doE; rw [hrun2]
 exact h g _ hstp ⟨b, _, rfl, ho, hm, setRow_cells _ _ hh, by simpa using GoT.mono hstp.ch hv.cells⟩ ⟨b, rfl, ho, by simpa using setRow_cells b v.cells.toList.toArray hh⟩
def Rest (_i off k : Nat) (g : Gh) (w : World) (g' : Gh) (w' : World) (t : TypeId) (p : Value) : Prop :=
 ∃ b cs cs', p = .pointer (some ⟨b, 0, none⟩) ∧ g'.o b = g.o b ∧ w.heap[b]? = some (.cells cs t (0, 0)) ∧ w'.heap[b]? = some (.cells cs' t (0, 0)) ∧ (∀ j, j < off → cs'[j]? = cs[j]?) ∧ (∀ j, off + k ≤ j → cs'[j]? = cs[j]?)
theorem OSF.rest {β : Type} [GoT β] {i j off off2 k : Nat} {g g' : Gh} {w w' : World} {et t : TypeId} {xs : List β} {p : Value} (h : OSF i j off g w et t xs p) (hx : Stp i g w g' w') (hr : Rest i off2 k g w g' w' t p) (ho : (Nat.blt off off2 || Nat.ble (off2 + k) off) = true := by rfl) (hji : Nat.beq j i = false := by rfl) : OSF i j off g' w' et t xs p := by
 obtain ⟨b, v, cs, hp, ho', hh, hv, hs⟩ := h
 obtain ⟨b2, cs2, cs3, hp2, hgo, hh2, hh3, h1, h2⟩ := hr
 rw [hp] at hp2
 injection hp2 with he; injection he with he; injection he with he _
 subst he
 rw [hh] at hh2
 injection hh2 with he; injection he with he
 subst he
 refine ⟨b, v, cs3, hp, hgo.trans ho', hh3, ?_, hs.stp hx hji⟩
 rw [← hv]
 simp only [Bool.or_eq_true] at ho
 rcases ho with h | h
 ·exact h1 _ (Nat.le_of_ble_eq_true h)
 ·exact h2 _ (Nat.le_of_ble_eq_true h)
theorem D_storeFc {α β : Type} [GoT α] [GoT β] {i off : Nat} {f : α → β} {s : α → β → α} {t t2 : TypeId} {p v : Value} {a : α} {b : β} (hsub : SubS off f s) (hs : ∀ w, (sizeOf t).run P w = .ok (GoT.k β) w) (hx : ev e x = fPtr p off) (hp : OB i g w t2 a p) (hy : ev e y = v) (hv : RV g.m w b v)
  (h : ∀ g' w', Stp i g w g' w' → OB i g' w' t2 (s a b) p → Rest i off (GoT.k β) g w g' w' t2 p → (∀ (γ : Type) (_ : GoT γ) (j : Nat) (et : TypeId) (xs : List γ), (v.cells = #[v]) → Nat.beq j i = false → OS j g w et xs v → OSF i j off g' w' et t2 xs p) → K undef w') : Doe P (.store t x y) e w K := fun d ty pos af gd => by
 obtain ⟨bl, cs, rfl, ho, hm, hh, hr⟩ := hp
 have hsz := cells_size hv
 have hl := GoT.len hr
 have hb := hsub.1.1
 have hrun := storeVar_run (P := P) (t := t) (v := v) (b := bl) (o := off) (by rw [hsz]; exact hs) hh (by simp at hl; omega) (GoT.one hv.cells)
 have hrep := hsub.2 _ _ _ _ _ _ hr hv.cells
 rw [show v.cells.toList.length = v.cells.size from by simp] at hrep
 generalize hrow : cs.toList.take off ++ v.cells.toList ++ cs.toList.drop (off + v.cells.size) = row at hrun hrep
 have hstp : Stp i g w g (w.setRow bl row.toArray) := stp_row hh ho (fun j hj => by rw [hm] at hj; omega)
 have hrun2 : (execOp (ev e) ⟨d, .store t x y, ty, pos, af, gd⟩).run P w = .ok .skip (w.setRow bl row.toArray) := by
  simp [execOp, hx, hy, fPtr, Instr.storeAt, Instr.sureAddr, Result.andThen, hrun]
 have htk : (cs.toList.take off).length = off := by rw [List.length_take, Array.length_toList]; simp at hl; omega
 unfold doE; rw [hrun2]
 refine h g _ hstp ⟨bl, _, rfl, ho, hm, setRow_cells _ _ hh, by simpa using GoT.mono hstp.ch hrep⟩ ⟨bl, cs, _, rfl, rfl, hh, setRow_cells _ _ hh, fun j hj => ?_, fun j hj => ?_⟩ (fun γ _ j et xs hv1 hji hos => ⟨bl, v, _, rfl, ho, setRow_cells _ _ hh, ?_, hos.stp hstp hji⟩)
 ·rw [List.getElem?_toArray, ← hrow, List.append_assoc, List.getElem?_append_left (by omega), List.getElem?_take, if_pos hj]; simp
 ·have hvl : v.cells.toList.length = GoT.k β := by simpa using hsz
  rw [List.getElem?_toArray, ← hrow, List.getElem?_append_right (by rw [List.length_append, htk, hvl]; omega), List.getElem?_drop, List.length_append, htk, hvl, hsz]
  have : off + GoT.k β + (j - (off + GoT.k β)) = j := by omega
  rw [this]; simp
 ·rw [List.getElem?_toArray, ← hrow, hv1, List.append_assoc, List.getElem?_append_right (by omega), htk, Nat.sub_self]; rfl
theorem fPtr0 {p : Value} (h : ∃ b o, p = .pointer (some ⟨b, o, none⟩)) : fPtr p 0 = p := by obtain ⟨b, o, rfl⟩ := h; rfl
end
theorem rv_cells1 {β : Type} [GoT β] {m : Nat → Nat} {w : World} {xs : List β} {v : Value} (h : RV m w xs v) : v.cells = #[v] := by
 obtain ⟨a, c, rfl, _⟩ := RV_list h; rfl
theorem L_loadO0 {α : Type} [GoT α] {i : Nat} {P : Program} {g0 : Gh} {w0 : World} {t t2 : TypeId} {x : Operand} {p : Value} {a : α} {K : Prop} (ha : ∀ w, (isAgg t).run P w = .ok (GoT.agg α) w) (hs : ∀ w, (sizeOf t).run P w = .ok (GoT.k α) w) (hp : OB i g0 w0 t2 a p)
  (k : ∀ v, RV g0.m w0 a v → (∀ (e : Env) (g : Gh) (w : World), (Ch g0.m w0 g.m w ∧ ∀ b, b < w0.heap.size → g0.o b = i → w.heap[b]? = w0.heap[b]?) → ev e x = p → ∀ d ty pos af gd, (execOp (ev e) ⟨d, .load t x, ty, pos, af, gd⟩).run P w = .ok (.value v) w) → K) : K :=
 L_loadO (f := fun x => x) Sub.id_ ha hs hp fun v hr hl => k v hr fun e g w hc he => hl e g w hc (he.trans (fPtr0 hp.ptr).symm)
/-! ### Joints where marks may have come -/
section
variable {P : Program} {N : Nat} {ro : Option Nat} {Q : Post} {e : Env} {ds : List Deferred} {w : World} {x y c : Code}
end
/-! ### Iterators -/
def DoneY {σ : Type} (J : Inv σ) (s : σ) (_ : Value) (w : World) : Prop := ∃ gC, J s gC w
theorem FrY.done {σ : Type} {gI : Gh} {wI : World} {B : Nat} {J : Inv σ} {s : σ} {g : Gh} {w : World} {v : Value} (h : FrY gI wI B J s g w) : DoneY J s v w := let ⟨gC, _, _, hJ⟩ := h.inv; ⟨gC, hJ⟩
/-! ### Function values as data -/
structure Fv where
 v : Value
 h : v.oneCell' = true
instance : GoT Fv where
 k := 1
 agg := false
 rep _ _ x cs := cs = [x.v]
 len h := by subst h; rfl
 one {m w x cs} h := by subst h; simpa using x.h
 mono _ h := h
 k1 _ := rfl
end Go.Proofs.YtkmbkaoolacofaaGreat
/- Builders of strings, iterators over strings, functions without a body. No program is named here. -/
namespace Go.Proofs.YtkmbkaoolacofaaGreat
open Go.RowKit

/-! ### Iterators over strings -/
def SI (i : Nat) (g : Gh) (w : World) (s : Str) (pos : Nat) (p : Value) : Prop := ∃ b, p = .pointer (some ⟨b, 0, none⟩) ∧ HB i g w b (.stringIter ⟨⟨s.b⟩⟩ pos)
section
variable {i j pos B : Nat} {g g' : Gh} {w w' : World} {s : Str} {p : Value}
theorem SI.ext (h : SI i g w s pos p) (k : Ext g w g' w') : SI i g' w' s pos p := let ⟨b, h1, h2⟩ := h; ⟨b, h1, h2.ext k⟩
theorem SI.stp (h : SI i g w s pos p) (k : Stp j g w g' w') (hne : Nat.beq i j = false) : SI i g' w' s pos p := let ⟨b, h1, h2⟩ := h; ⟨b, h1, h2.stp k hne⟩
end
def dec (s : Str) (pos : Nat) : Int × Nat := let r := Utf8.decode ⟨⟨s.b⟩⟩ pos; ((r.1 : Int), r.2)
section
variable {P : Program} {e : Env} {w : World} {g : Gh} {K : Value → World → Prop} {x y z : Operand}
/-! ### Unsigned numbers -/
/-! ### A function without a body -/
theorem D_callC {f : FuncId} {xs : List Operand} {vs : List Value} {ats : Array TypeId} {R : Value → World → Prop} (hent : Enters P f) (ha : Args e xs vs) (hc : Calls P f vs.toArray w fun r w' => ∃ v, r = .returned v ∧ R v w')
  (h : ∀ v w', R v w' → K v w') : Doe P (.call { callee := .value (.func f), args := xs.toArray, argTypes := ats }) e w K := fun d ty pos af gd => by
 have he := hent vs.toArray w
 have hrun : (execOp (ev e) ⟨d, .call { callee := .value (.func f), args := xs.toArray, argTypes := ats }, ty, pos, af, gd⟩).run P w = .ok (.enter f vs.toArray) w := by
  simp only [execOp, resolve, ev, Deferred.ofValue, Sem.run_bind, Sem.run_pure, Result.andThen_ok, invoke, List.map_toArray, ha.map, Array.empty_append, Array.append_empty, he]
 unfold doE; rw [hrun]
 refine Calls.mono hc ?_
 rintro r w'' ⟨v, rfl, hr⟩
 exact ⟨v, rfl, h v w'' hr⟩

theorem D_allocX {α : Type} [GoT α] (i : Nat) {t : TypeId} {z : Value} (a : α) (hz : ∀ w, (zeroValue t).run P w = .ok z w) (hv : ∀ m w, RV m w a z) (h : ∀ g' w' p, Ext g w g' w' → OB i g' w' t a p → K p w') : Doe P (.alloc t) e w K := fun d ty pos af gd => by
 have hrun : (execOp (ev e) ⟨d, .alloc t, ty, pos, af, gd⟩).run P w = .ok (.value (.pointer (some ⟨w.heap.size, 0, none⟩))) (w.alloc (.cells z.cells t)) := by
  simp [execOp, Instr.alloc, hz, newVar, newRow, Sem.run_bind, Result.andThen]
 unfold doE; rw [hrun]; exact h _ _ _ (ext_alloc i g w (.cells z.cells t)) (ob_new (hv g.m w).cells)
theorem up_ob {α : Type} [GoT α] {i : Nat} {t : TypeId} {a : α} {v : Value} : Up extRel (fun g w => OB i g w t a v) := fun _ _ _ _ hx h => h.ext hx
/-! ### A builder of strings: its own address (or nil), and its bytes -/
def SB (i j : Nat) (g : Gh) (w : World) (et t : TypeId) (xs : List UInt8) (p : Value) : Prop := ∃ a : Fv, OB i g w t (a, xs) p ∧ OSF i j 1 g w et t xs p ∧ (a.v = .pointer none ∨ a.v = p)
end
section
variable {i j k B : Nat} {g g' : Gh} {w w' : World} {et t : TypeId} {xs : List UInt8} {p : Value}
theorem SB.ext (h : SB i j g w et t xs p) (hx : Ext g w g' w') : SB i j g' w' et t xs p := let ⟨a, h1, h2, h3⟩ := h; ⟨a, h1.ext hx, h2.ext hx, h3⟩
theorem SB.stp (h : SB i j g w et t xs p) (hx : Stp k g w g' w') (hi : Nat.beq i k = false) (hj : Nat.beq j k = false := by rfl) : SB i j g' w' et t xs p := let ⟨a, h1, h2, h3⟩ := h; ⟨a, h1.stp hx hi, h2.stp hx hi hj, h3⟩
end
end Go.Proofs.YtkmbkaoolacofaaGreat
/- Own maps, conversions of strings and bytes, slices handed out. No program is named here. -/
namespace Go.Proofs.YtkmbkaoolacofaaGreat
open Go.RowKit
open Go.ChangeMaps (setBlock)

/-! ### Maps as lists of entries, in the order in which they were laid -/
class GoKey (κ : Type) extends GoT κ where
 enc : κ → Value
 dec : DecidableEq κ
def EntR {κ ν : Type} [GoT ν] (enc : κ → Value) (m : Nat → Nat) (w : World) : List MapEntry → List (κ × ν) → Prop
 | [], l => l = []
 | e :: es, l => ∃ p l', l = p :: l' ∧ e.key = enc p.1 ∧ RV m w p.2 e.val ∧ EntR enc m w es l'
def MP {κ ν : Type} [GoT ν] (enc : κ → Value) (i : Nat) (g : Gh) (w : World) (m : List (κ × ν)) (v : Value) : Prop :=
 ∃ b es clock, v = .map (some b) ∧ g.o b = i ∧ w.heap[b]? = some (.map es clock) ∧ (∀ e ∈ es.toList, e.born < clock) ∧ (es.toList.map (·.born)).Nodup ∧ EntR enc g.m w es.toList m
section
variable {κ ν : Type} [GoT ν] {enc : κ → Value}
theorem EntR.ch {m m' : Nat → Nat} {w w' : World} (k : Ch m w m' w') : ∀ {es : List MapEntry} {l : List (κ × ν)}, EntR enc m w es l → EntR enc m' w' es l
 | [], _, h => h
 | _ :: _, _, ⟨p, l', h1, h2, h3, h4⟩ => ⟨p, l', h1, h2, h3.ch k, EntR.ch k h4⟩
theorem EntR.keys {m : Nat → Nat} {w : World} : ∀ {es : List MapEntry} {l : List (κ × ν)}, EntR enc m w es l → es.map (·.key) = (l.map (·.1)).map enc
 | [], _, h => by rw [show _ = [] from h]; rfl
 | _ :: _, _, ⟨p, l', h1, h2, _, h4⟩ => by subst h1; simp [h2, h4.keys]
theorem EntR.len {m : Nat → Nat} {w : World} : ∀ {es : List MapEntry} {l : List (κ × ν)}, EntR enc m w es l → es.length = l.length
 | [], _, h => by rw [show _ = [] from h]; rfl
 | _ :: _, _, ⟨p, l', h1, _, _, h4⟩ => by subst h1; simp [h4.len]
theorem EntR.get {m : Nat → Nat} {w : World} : ∀ {es : List MapEntry} {l : List (κ × ν)}, EntR enc m w es l → ∀ {i : Nat} {e : MapEntry}, es[i]? = some e → ∃ p, l[i]? = some p ∧ e.key = enc p.1 ∧ RV m w p.2 e.val
 | [], _, _, _, _, hi => by simp at hi
 | _ :: _, _, ⟨p, l', h1, h2, h3, _⟩, 0, e, hi => by subst h1; simp at hi; subst hi; exact ⟨p, rfl, h2, h3⟩
 | _ :: _, _, ⟨p, l', h1, _, _, h4⟩, i + 1, e, hi => by subst h1; simp at hi; obtain ⟨q, hq⟩ := h4.get hi; exact ⟨q, by simpa using hq.1, hq.2⟩
variable {i j B : Nat} {g g' : Gh} {w w' : World} {m : List (κ × ν)} {v : Value}
theorem MP.ext (h : MP enc i g w m v) (k : Ext g w g' w') : MP enc i g' w' m v := by
 obtain ⟨b, es, cl, hv, ho, hh, h1, h2, h3⟩ := h
 exact ⟨b, es, cl, hv, (k.o b (lt_of_heap hh)).trans ho, (k.below.block b (lt_of_heap hh)).trans hh, h1, h2, h3.ch k.ch⟩
theorem MP.stp (h : MP enc i g w m v) (k : Stp j g w g' w') (hne : Nat.beq i j = false) : MP enc i g' w' m v := by
 obtain ⟨b, es, cl, hv, ho, hh, h1, h2, h3⟩ := h
 have hij : g.o b ≠ j := by rw [ho]; intro he; rw [he] at hne; simp at hne
 exact ⟨b, es, cl, hv, (k.o b (lt_of_heap hh) hij).trans ho, (k.block b (lt_of_heap hh) hij).trans hh, h1, h2, h3.ch k.ch⟩
end
section
variable {P : Program} {e : Env} {w : World} {g : Gh} {K : Value → World → Prop} {x y z : Operand} {κ ν : Type} [GoT ν] {enc : κ → Value}
variable [DecidableEq κ]
end
/-! ### Ranges over own maps -/
def MI {κ ν : Type} [GoT ν] (enc : κ → Value) (j i : Nat) (g : Gh) (w : World) (rem : List (κ × ν)) (cur : Option (κ × ν)) (p : Value) : Prop :=
 ∃ r b es cl since seen c0, p = .pointer (some ⟨r, 0, none⟩) ∧ g.o r = j ∧ g.o b = i ∧ w.heap[b]? = some (.map es cl) ∧ w.heap[r]? = some (.mapIter (some b) since seen c0) ∧ (∀ e ∈ es.toList, e.born < since) ∧ since ≤ c0 ∧ since ≤ cl ∧ (es.toList.map (·.born)).Nodup ∧
  EntR enc g.m w (leftOf es seen).toList rem ∧ ∀ q, cur = some q → c0 = cl ∧ ∃ en ∈ es.toList, (∃ s0 : Array Nat, seen = s0.push en.born) ∧ en.key = enc q.1 ∧ RV g.m w q.2 en.val
section
variable {P : Program} {e : Env} {w : World} {g : Gh} {K : Value → World → Prop} {x y z : Operand} {κ ν : Type} [GoT ν] {enc : κ → Value}
theorem MI.ext {i j : Nat} {g g' : Gh} {w w' : World} {rem : List (κ × ν)} {cur : Option (κ × ν)} {p : Value} (h : MI enc j i g w rem cur p) (k : Ext g w g' w') : MI enc j i g' w' rem cur p := by
 obtain ⟨r, b, es, cl, since, seen, c0, hp, h1, h2, h3, h4, h5, h6, h6b, h7, h8, h9⟩ := h
 exact ⟨r, b, es, cl, since, seen, c0, hp, (k.o r (lt_of_heap h4)).trans h1, (k.o b (lt_of_heap h3)).trans h2, (k.below.block b (lt_of_heap h3)).trans h3, (k.below.block r (lt_of_heap h4)).trans h4, h5, h6, h6b, h7, h8.ch k.ch,
  fun q hq => let ⟨a1, en, a2, a3, a4, a5⟩ := h9 q hq; ⟨a1, en, a2, a3, a4, a5.ch k.ch⟩⟩
theorem MI.stp {i j n : Nat} {g g' : Gh} {w w' : World} {rem : List (κ × ν)} {cur : Option (κ × ν)} {p : Value} (h : MI enc j i g w rem cur p) (k : Stp n g w g' w') (hj : Nat.beq j n = false) (hi : Nat.beq i n = false := by rfl) : MI enc j i g' w' rem cur p := by
 obtain ⟨r, b, es, cl, since, seen, c0, hp, h1, h2, h3, h4, h5, h6, h6b, h7, h8, h9⟩ := h
 have nr : g.o r ≠ n := by rw [h1]; intro he; rw [he] at hj; simp at hj
 have nb : g.o b ≠ n := by rw [h2]; intro he; rw [he] at hi; simp at hi
 exact ⟨r, b, es, cl, since, seen, c0, hp, (k.o r (lt_of_heap h4) nr).trans h1, (k.o b (lt_of_heap h3) nb).trans h2, (k.block b (lt_of_heap h3) nb).trans h3, (k.block r (lt_of_heap h4) nr).trans h4, h5, h6, h6b, h7, h8.ch k.ch,
  fun q hq => let ⟨a1, en, a2, a3, a4, a5⟩ := h9 q hq; ⟨a1, en, a2, a3, a4, a5.ch k.ch⟩⟩
theorem EntR.split {m : Nat → Nat} {w : World} : ∀ {l1 : List MapEntry} {en : MapEntry} {l2 : List MapEntry} {l : List (κ × ν)}, EntR enc m w (l1 ++ en :: l2) l → ∃ r1 q r2, l = r1 ++ q :: r2 ∧ en.key = enc q.1 ∧ RV m w q.2 en.val ∧ EntR enc m w (l1 ++ l2) (r1 ++ r2)
 | [], en, l2, _, ⟨p, l', h1, h2, h3, h4⟩ => ⟨[], p, l', h1, h2, h3, h4⟩
 | e0 :: l1, en, l2, _, ⟨p, l', h1, h2, h3, h4⟩ => by
  obtain ⟨r1, q, r2, a1, a2, a3, a4⟩ := EntR.split h4
  subst h1; subst a1
  exact ⟨p :: r1, q, r2, rfl, a2, a3, p, r1 ++ r2, rfl, h2, h3, a4⟩
end

/-! ### Strings and bytes -/
section
variable {P : Program} {e : Env} {w : World} {g : Gh} {K : Value → World → Prop} {x y z : Operand}
/-! ### Slices that are handed out to be written -/
def OutG (g : Gh) (w : World) (R : Gh → World → Value → Prop) (v : Value) (w' : World) : Prop := ∃ g', Ext g w g' w' ∧ R g' w' v
theorem fnG_of_E {f : FuncId} {fn : Func} {c : Code} {args : Array Value} {R : Gh → World → Value → Prop} (hf : P.funcs[f]? = some fn) (hb : fn.body = some c) (hN : args.size ≤ fn.ntmps)
  (h : ∀ g0, g0.m = g.m → Fr g w g0 w → E P fn.ntmps none c (atEnd P fn (OutG g w R)) (envAt args) [] w) : FnG P f args g w R := by
 refine Calls.mono (calls_of_E hf hb hN (h { m := g.m, o := fun _ => 0 } rfl (Fr.start g w))) ?_
 rintro r w' ⟨v, rfl, g', hx, hr⟩
 exact ⟨v, rfl, g', hx, hr⟩
theorem D_callG {f : FuncId} {xs : List Operand} {vs : List Value} {ats : Array TypeId} {R : Gh → World → Value → Prop} (hent : Enters P f) (ha : Args e xs vs) (hc : FnG P f vs.toArray g w R)
  (h : ∀ g' w' v, Ext g w g' w' → R g' w' v → K v w') : Doe P (.call { callee := .value (.func f), args := xs.toArray, argTypes := ats }) e w K :=
 D_callC hent ha (R := fun v w' => ∃ g', Ext g w g' w' ∧ R g' w' v) (Calls.mono hc fun _ _ h => h) fun v w' ⟨g', hx, hr⟩ => h g' w' v hx hr
theorem plain_int : Plain Int := fun _ _ _ _ _ _ h => h
end
section
variable {κ ν : Type} [GoT ν] {enc : κ → Value}
theorem MP.enter {i : Nat} {g : Gh} {w : World} {m : List (κ × ν)} {v : Value} (h : MP enc i g w m v) : MP enc 1 { m := g.m, o := fun b => if g.o b = i then 1 else 0 } w m v := by
 obtain ⟨b, es, cl, hv, ho, hh, h1, h2, h3⟩ := h
 exact ⟨b, es, cl, hv, by simp [ho], hh, h1, h2, h3⟩
end
section
variable {g : Gh} {w : World}
end
end Go.Proofs.YtkmbkaoolacofaaGreat
