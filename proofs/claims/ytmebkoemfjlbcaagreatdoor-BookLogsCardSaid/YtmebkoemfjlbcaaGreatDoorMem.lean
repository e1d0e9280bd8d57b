/- Laws for operations on memory and for calls, over the env-based logic and the readings of memory. No program is named here. -/
import Derived.Test.YtmebkoemfjlbcaaGreatDoorOps
import Derived.Maps.AppendAt
import Derived.Shelf.Abstract
namespace Go.Proofs.YtmebkoemfjlbcaaGreatDoor
open Go.RowKit

theorem Wb (b off n : Nat) : (⟨b, off, none⟩ : Addr).add n = ⟨b, off + n, none⟩ := by
 unfold Addr.add; split
 ·subst n; rfl
 ·rfl
theorem Wr {α : Type} {xs : List α} {i : Int} {x : α} (h : idx xs i = some x) : 0 ≤ i ∧ xs[i.toNat]? = some x := by
 unfold idx at h; split at h
 ·rename_i h0; exact ⟨h0, h⟩
 ·cases h

def Sub {α β : Type} [GoT α] [GoT β] (off : Nat) (f : α → β) : Prop :=
 off + GoT.k β ≤ GoT.k α ∧ ∀ m w x (cs : List Value), GoT.rep m w x cs → GoT.rep m w (f x) ((cs.drop off).take (GoT.k β))
theorem Sub.fst {α β : Type} [GoT α] [GoT β] : Sub (α := α × β) 0 Prod.fst := by
 refine ⟨by show 0 + GoT.k α ≤ GoT.k α + GoT.k β; omega, ?_⟩
 rintro m w x cs ⟨c1, c2, rfl, h1, h2⟩
 rw [List.drop_zero, ← GoT.len h1, List.take_left']
 ·exact h1
 ·rfl
theorem Sub.snd {α β : Type} [GoT α] [GoT β] : Sub (α := α × β) (GoT.k α) Prod.snd := by
 refine ⟨Nat.le_refl _, ?_⟩
 rintro m w x cs ⟨c1, c2, rfl, h1, h2⟩
 rw [← GoT.len h1, List.drop_left', ← GoT.len h2, List.take_of_length_le (Nat.le_refl _)]
 ·exact h2
 ·rfl
theorem Sub.id_ {α : Type} [GoT α] : Sub (α := α) 0 (fun x => x) := by
 refine ⟨by omega, fun m w x cs h => ?_⟩
 rw [List.drop_zero, ← GoT.len h, List.take_of_length_le (Nat.le_refl _)]
 exact h
theorem Sub.comp {α β γ : Type} [GoT α] [GoT β] [GoT γ] {o1 o2 o : Nat} {f : α → β} {h : β → γ} (h1 : Sub o1 f) (h2 : Sub o2 h) (ho : o = o1 + o2) : Sub o (fun x => h (f x)) := by
 subst ho
 refine ⟨by have := h1.1; have := h2.1; omega, fun m w x cs hr => ?_⟩
 have hb := h2.2 m w _ _ (h1.2 m w x cs hr)
 have h2' := h2.1
 rw [List.drop_take, List.take_take, List.drop_drop, Nat.min_eq_left (by omega)] at hb
 exact hb

def OB {α : Type} [GoT α] (i : Nat) (g : Gh) (w : World) (t : TypeId) (x : α) (p : Value) : Prop :=
 ∃ b cs, p = .pointer (some ⟨b, 0, none⟩) ∧ g.o b = i ∧ g.m b = 0 ∧ w.heap[b]? = some (.cells cs t (0, 0)) ∧ GoT.rep g.m w x cs.toList
theorem Gw {w : World} {b : Nat} {o : Obj} (h : w.heap[b]? = some o) : b < w.heap.size := (Array.getElem?_eq_some_iff.1 h).1
theorem OB.ext {α : Type} [GoT α] {i : Nat} {g g' : Gh} {w w' : World} {t : TypeId} {x : α} {p : Value} (h : OB i g w t x p) (k : Ext g w g' w') : OB i g' w' t x p := by
 obtain ⟨b, cs, hp, ho, hm, hh, hr⟩ := h
 have hb := Gw hh
 exact ⟨b, cs, hp, (k.o b hb).trans ho, (k.m b hb).trans hm, (k.below.block b hb).trans hh, GoT.mono k.ch hr⟩
theorem OB.stp {α : Type} [GoT α] {i j : Nat} {g g' : Gh} {w w' : World} {t : TypeId} {x : α} {p : Value} (h : OB i g w t x p) (k : Stp j g w g' w') (hne : Nat.beq i j = false) : OB i g' w' t x p := by
 obtain ⟨b, cs, hp, ho, hm, hh, hr⟩ := h
 have hb := Gw hh
 have hij : g.o b ≠ j := by rw [ho]; intro he; rw [he] at hne; simp at hne
 exact ⟨b, cs, hp, (k.o b hb hij).trans ho, (k.m b hb hij).trans hm, (k.block b hb hij).trans hh, GoT.mono k.ch hr⟩

def OS {α : Type} [GoT α] (i : Nat) (g : Gh) (w : World) (t : TypeId) (xs : List α) (v : Value) : Prop :=
 (v = .slice none 0 0 ∧ xs = []) ∨
 ∃ b c cs, v = .slice (some ⟨b, 0, none⟩) xs.length c ∧ g.o b = i ∧ g.m b = xs.length * GoT.k α ∧ w.heap[b]? = some (.cells cs t (0, 0)) ∧ xs.length ≤ c ∧ c ≤ maxLen ∧ cs.size = c * GoT.k α
theorem OS.nil {α : Type} [GoT α] {i : Nat} {g : Gh} {w : World} {t : TypeId} : OS i g w t ([] : List α) (.slice none 0 0) := .inl ⟨rfl, rfl⟩
theorem OS.ext {α : Type} [GoT α] {i : Nat} {g g' : Gh} {w w' : World} {t : TypeId} {xs : List α} {v : Value} (h : OS i g w t xs v) (k : Ext g w g' w') : OS i g' w' t xs v := by
 rcases h with h | ⟨b, c, cs, hp, ho, hm, hh, h⟩
 ·exact .inl h
 ·have hb := Gw hh
  exact .inr ⟨b, c, cs, hp, (k.o b hb).trans ho, (k.m b hb).trans hm, (k.below.block b hb).trans hh, h⟩
theorem OS.stp {α : Type} [GoT α] {i j : Nat} {g g' : Gh} {w w' : World} {t : TypeId} {xs : List α} {v : Value} (h : OS i g w t xs v) (k : Stp j g w g' w') (hne : Nat.beq i j = false) : OS i g' w' t xs v := by
 rcases h with h | ⟨b, c, cs, hp, ho, hm, hh, h⟩
 ·exact .inl h
 ·have hb := Gw hh
  have hij : g.o b ≠ j := by rw [ho]; intro he; rw [he] at hne; simp at hne
  exact .inr ⟨b, c, cs, hp, (k.o b hb hij).trans ho, (k.m b hb hij).trans hm, (k.block b hb hij).trans hh, h⟩

/-! ### New blocks -/
theorem X3 (g : Gh) (w : World) (cs : Array Value) (t : TypeId) : Ext g w { m := K6 g.m w.heap.size cs.size, o := g.o } (w.alloc (.cells cs t)) :=
 ⟨(Below.refl _ w).alloc (Nat.le_refl _) _, fun b hb => Q1 _ _ (by omega), fun b hb => rfl⟩
theorem Hs (i : Nat) (g : Gh) (w : World) (cs : Array Value) (t : TypeId) (n : Nat) : Stp i g w { m := K6 g.m w.heap.size n, o := K6 g.o w.heap.size i } (w.alloc (.cells cs t)) := by
 have hB : Below w.heap.size w (w.alloc (.cells cs t)) := (Below.refl _ w).alloc (Nat.le_refl _) _
 exact ⟨hB.os, hB.tape, hB.output, ⟨hB.size, fun b hb => Nat.le_of_eq (Q1 _ _ (by omega)).symm, fun b hb j _ => hB.cell (p := ⟨b, j, none⟩) hb⟩, fun b hb _ => hB.block b hb, fun b hb _ => Q1 _ _ (by omega), fun b hb _ => Q1 _ _ (by omega)⟩
theorem H5 (w : World) (cs : Array Value) (t : TypeId) (j : Nat) : (w.alloc (.cells cs t)).cell? ⟨w.heap.size, j, none⟩ = cs[j]? := World.cell?_alloc_new _ _ _ _
theorem Wd (w : World) (o : Obj) : (w.alloc o).heap[w.heap.size]? = some o := World.alloc_heap_new w o

section
variable {P : Program} {e : Env} {w : World} {g : Gh} {K : Value → World → Prop} {x y z : Operand}

/-! ### Addresses and loads -/
def Gq (v : Value) (i : Int) (k : Nat) : Value :=
 match v with
 | .slice (some a) _ _ => .pointer (some ⟨a.block, a.off + i.toNat * k, none⟩)
 | _ => undef
def Gc (p : Value) (off : Nat) : Value :=
 match p with
 | .pointer (some a) => .pointer (some ⟨a.block, a.off + off, none⟩)
 | _ => undef
theorem Gn {α : Type} [GoT α] {m : Nat → Nat} {v : Value} {xs : List α} {i : Int} {a : α} (hv : RV m w xs v) (hi : idx xs i = some a) : PT m w a (Gq v i (GoT.k α)) := by
 obtain ⟨ad, c, rfl, hc, hr⟩ := Qc hv
 obtain ⟨h0, hi'⟩ := Wr hi
 have hlt : i.toNat < xs.length := (List.getElem?_eq_some_iff.1 hi').1
 obtain ⟨b, off, rfl, hb, hm, hrow⟩ := hr (by omega)
 obtain ⟨cs, hrep, hcell⟩ := hrow _ _ hi'
 have hk : (i.toNat + 1) * GoT.k α ≤ xs.length * GoT.k α := Nat.mul_le_mul_right _ hlt
 rw [Nat.add_mul] at hk
 exact ⟨b, off + i.toNat * GoT.k α, cs, rfl, hb, by omega, hrep, hcell⟩
theorem Zh {α : Type} [GoT α] {m : Nat → Nat} {t et : TypeId} {v : Value} {xs : List α} {k : IntKind} {i : Int} {a : α}
  (ht : P.underlying t = some (.slice et)) (hs : ∀ w, (sizeOf et).run P w = .ok (GoT.k α) w) (hx : ev e x = v) (hv : RV m w xs v) (hy : ev e y = .int k i) (hi : idx xs i = some a) : Pur P (.indexAddr t x y) e (Gq v i (GoT.k α)) := fun _ _ _ _ _ w' => by
 obtain ⟨ad, c, rfl, hc, hr⟩ := Qc hv
 obtain ⟨h0, hi'⟩ := Wr hi
 have hlt : i.toNat < xs.length := (List.getElem?_eq_some_iff.1 hi').1
 obtain ⟨b, off, rfl, hb, hm, hrow⟩ := hr (by omega)
 have hl : i < (xs.length : Int) := by omega
 simp [execOp, hx, hy, Instr.indexAt, asIntOf, Sem.run_bind, run_underlying ht, Result.andThen, h0, hl, hs, Wb, Gq]
theorem T3 {α : Type} [GoT α] {t : TypeId} {a : α} {b off : Nat} {cs : List Value} (ha : ∀ w, (isAgg t).run P w = .ok (GoT.agg α) w) (hs : ∀ w, (sizeOf t).run P w = .ok (GoT.k α) w)
  {m : Nat → Nat} (hr : GoT.rep m w a cs) (hc : ∀ j c, cs[j]? = some c → w.cell? ⟨b, off + j, none⟩ = some c) : (loadVar t ⟨b, off, none⟩).run P w = .ok (toV (GoT.agg α) cs) w := by
 have hl := GoT.len hr
 unfold loadVar
 cases hg : GoT.agg α with
 | true =>
  rw [hg] at ha
  have h1 := run_loadCells_list (P := P) w ⟨b, off, none⟩ cs (fun j c hj => by rw [Wb]; exact hc j c hj)
  rw [hl] at h1
  simp [Sem.run_bind, ha, hs, Result.andThen, h1, toV]
 | false =>
  rw [hg] at ha
  rw [GoT.k1 hg] at hl
  match cs, hl with
  | [c], _ =>
   have h1 := hc 0 c rfl
   simp only [Nat.add_zero] at h1
   simp [Sem.run_bind, ha, Result.andThen, toV, run_load, h1]
theorem Z7 {α : Type} [GoT α] {t : TypeId} {p : Value} {a : α} (ha : ∀ w, (isAgg t).run P w = .ok (GoT.agg α) w) (hs : ∀ w, (sizeOf t).run P w = .ok (GoT.k α) w) (hx : ev e x = p) (hp : PT g.m w a p)
  (h : ∀ v, RV g.m w a v → K v w) : Doe P (.load t x) e w K := fun d ty pos af gd => by
 obtain ⟨b, off, cs, rfl, hb, hm, hr, hc⟩ := hp
 have hrun : (execOp (ev e) ⟨d, .load t x, ty, pos, af, gd⟩).run P w = .ok (.value (toV (GoT.agg α) cs)) w := by
  simp [execOp, hx, Instr.loadAt, Instr.sureAddr, Result.andThen, T3 ha hs hr hc]
 unfold doE; rw [hrun]; exact h _ ⟨cs, hr, rfl⟩
theorem T8 {α : Type} [GoT α] {i : Nat} {t t2 : TypeId} {p : Value} {a : α} (ha : ∀ w, (isAgg t).run P w = .ok (GoT.agg α) w) (hs : ∀ w, (sizeOf t).run P w = .ok (GoT.k α) w) (hx : ev e x = p) (hp : OB i g w t2 a p)
  (h : ∀ v, RV g.m w a v → K v w) : Doe P (.load t x) e w K := fun d ty pos af gd => by
 obtain ⟨b, cs, rfl, ho, hm, hh, hr⟩ := hp
 have hc : ∀ j c, cs.toList[j]? = some c → w.cell? ⟨b, 0 + j, none⟩ = some c := fun j c hj => by simpa [World.cell?, hh] using hj
 have hrun : (execOp (ev e) ⟨d, .load t x, ty, pos, af, gd⟩).run P w = .ok (.value (toV (GoT.agg α) cs.toList)) w := by
  simp [execOp, hx, Instr.loadAt, Instr.sureAddr, Result.andThen, T3 ha hs hr hc]
 unfold doE; rw [hrun]; exact h _ ⟨_, hr, rfl⟩
theorem Zm {α β : Type} [GoT α] [GoT β] {m : Nat → Nat} {off : Nat} {f : α → β} {p : Value} {a : α} (hsub : Sub off f) (hp : PT m w a p) : PT m w (f a) (Gc p off) := by
 obtain ⟨b, o, cs, rfl, hb, hm, hr, hc⟩ := hp
 have h1 := hsub.1
 refine ⟨b, o + off, _, rfl, hb, by omega, hsub.2 _ _ _ _ hr, fun j c hj => ?_⟩
 rw [List.getElem?_take] at hj
 split at hj
 ·rw [List.getElem?_drop] at hj
  rw [Nat.add_assoc]
  exact hc _ _ hj
 ·cases hj
theorem Zc {off : Nat} {s : TypeId} {i : Nat} {p : Value} (hf : ∀ (a : Addr) w, (Instr.fieldAt s (.pointer (some a)) i).run P w = .ok (.pointer (some (a.add off))) w) (hx : ev e x = p)
  (hp : ∃ b o, p = .pointer (some ⟨b, o, none⟩)) : Pur P (.fieldAddr s x i) e (Gc p off) := fun _ _ _ _ _ _ => by
 obtain ⟨b, o, rfl⟩ := hp
 simp [execOp, hx, hf, Wb, Gc]
theorem PT.ptr {α : Type} [GoT α] {m : Nat → Nat} {p : Value} {a : α} (hp : PT m w a p) : ∃ b o, p = .pointer (some ⟨b, o, none⟩) := by
 obtain ⟨b, o, cs, rfl, _⟩ := hp; exact ⟨b, o, rfl⟩
theorem OB.ptr {α : Type} [GoT α] {i : Nat} {t : TypeId} {p : Value} {a : α} (hp : OB i g w t a p) : ∃ b o, p = .pointer (some ⟨b, o, none⟩) := by
 obtain ⟨b, cs, rfl, _⟩ := hp; exact ⟨b, 0, rfl⟩
/-! ### Boxes, new variables -/
theorem T4 {α : Type} [GoT α] {m : Nat → Nat} {w : World} {a : α} {v : Value} (h : RV m w a v) : v.cells.size = GoT.k α := by
 have := GoT.len h.cells
 simpa using this
theorem Ms {α : Type} [GoT α] {a : α} {cs : Array Value} {t : TypeId} (hr : GoT.rep g.m w a cs.toList) :
  PT (K6 g.m w.heap.size cs.size) (w.alloc (.cells cs t)) a (.pointer (some ⟨w.heap.size, 0, none⟩)) := by
 refine ⟨w.heap.size, 0, cs.toList, rfl, by simp, ?_, GoT.mono (X3 g w cs t).ch hr, fun j c hj => ?_⟩
 ·have := GoT.len hr
  rw [Tj]
  simp at this
  omega
 ·rw [Nat.zero_add, H5]
  simpa using hj
theorem T1 {α : Type} [GoT α] {t : TypeId} {v : Value} {a : α} (hx : ev e x = v) (hv : RV g.m w a v) (h : ∀ g' w' p, Ext g w g' w' → PT g'.m w' a p → K p w') : Doe P (.box t x) e w K := fun d ty pos af gd => by
 have hrun : (execOp (ev e) ⟨d, .box t x, ty, pos, af, gd⟩).run P w = .ok (.value (.pointer (some ⟨w.heap.size, 0, none⟩))) (w.alloc (.cells v.cells t)) := by
  simp [execOp, hx, Instr.box, newVar, newRow, Result.andThen]
 unfold doE; rw [hrun]; exact h _ _ _ (X3 g w _ t) (Ms hv.cells)
theorem S8 {α : Type} [GoT α] {i : Nat} {a : α} {cs : Array Value} {t : TypeId} (hr : GoT.rep g.m w a cs.toList) :
  OB i { m := K6 g.m w.heap.size 0, o := K6 g.o w.heap.size i } (w.alloc (.cells cs t)) t a (.pointer (some ⟨w.heap.size, 0, none⟩)) :=
 ⟨w.heap.size, cs, rfl, Tj _ _ _, Tj _ _ _, Wd _ _, GoT.mono (Hs i g w cs t 0).ch hr⟩
theorem Vn {α : Type} [GoT α] (i : Nat) {t : TypeId} {z : Value} (a : α) (hz : ∀ w, (zeroValue t).run P w = .ok z w) (hv : ∀ m w, RV m w a z) (h : ∀ g' w' p, Stp i g w g' w' → OB i g' w' t a p → K p w') : Doe P (.alloc t) e w K := fun d ty pos af gd => by
 have hrun : (execOp (ev e) ⟨d, .alloc t, ty, pos, af, gd⟩).run P w = .ok (.value (.pointer (some ⟨w.heap.size, 0, none⟩))) (w.alloc (.cells z.cells t)) := by
  simp [execOp, Instr.alloc, hz, newVar, newRow, Sem.run_bind, Result.andThen]
 unfold doE; rw [hrun]; exact h _ _ _ (Hs i g w _ t 0) (S8 (hv g.m w).cells)

/-! ### Stores into a variable of the function's own -/
theorem Ki {t : TypeId} {v : Value} {b : Nat} {cur : Array Value} {bt : TypeId} (hs : ∀ w, (sizeOf t).run P w = .ok v.cells.size w) (hh : w.heap[b]? = some (.cells cur bt (0, 0))) {o : Nat}
  (ho : o + v.cells.size ≤ cur.size) (h1 : ∀ c ∈ v.cells.toList, c.oneCell' = true) :
  (storeVar t ⟨b, o, none⟩ v).run P w = .ok () (w.setRow b (cur.toList.take o ++ v.cells.toList ++ cur.toList.drop (o + v.cells.size)).toArray) := by
 unfold storeVar
 have h2 := run_storeCells_at (P := P) b o bt v.cells.toList 0 cur w hh (by simpa using ho) h1
 simp only [Nat.add_zero, Array.length_toList] at h2
 simp only [Sem.run_bind, hs, Result.andThen, ne_eq, not_true_eq_false, if_false]
 simpa using h2
theorem Qa (b : Nat) (cs : Array Value) {cur : Array Value} {bt : TypeId} (hh : w.heap[b]? = some (.cells cur bt (0, 0))) : (w.setRow b cs).heap[b]? = some (.cells cs bt (0, 0)) := setRow_heap w b cur cs bt (0, 0) hh
theorem Qh (b : Nat) (cs : Array Value) {k : Nat} (hk : k ≠ b) : (w.setRow b cs).heap[k]? = w.heap[k]? := by
 unfold World.setRow; simp only [Array.getElem?_modify]; rw [if_neg (by omega)]
theorem Kw (b : Nat) (cs : Array Value) : (w.setRow b cs).heap.size = w.heap.size := by unfold World.setRow; simp
theorem Uo {i b : Nat} {cs cur : Array Value} {bt : TypeId} (hh : w.heap[b]? = some (.cells cur bt (0, 0))) (ho : g.o b = i) (hm : ∀ j, j < g.m b → cs[j]? = cur[j]?) : Stp i g w g (w.setRow b cs) := by
 refine ⟨rfl, rfl, rfl, ⟨by rw [Kw]; exact Nat.le_refl _, fun _ _ => Nat.le_refl _, fun b' hb' j hj => ?_⟩, fun b' hb' hne => Qh b cs (fun h => hne (h ▸ ho)), fun _ _ _ => rfl, fun _ _ _ => rfl⟩
 by_cases hbb : b' = b
 ·subst hbb
  simp only [World.cell?, Qa _ _ hh, hh]
  simpa using hm j hj
 ·simp only [World.cell?, Qh b cs hbb]
theorem Tx {α : Type} [GoT α] {i : Nat} {t t2 : TypeId} {p v : Value} {a a' : α} (hs : ∀ w, (sizeOf t).run P w = .ok (GoT.k α) w) (hx : ev e x = p) (hp : OB i g w t2 a p) (hy : ev e y = v) (hv : RV g.m w a' v)
  (h : ∀ g' w', Stp i g w g' w' → OB i g' w' t2 a' p → K undef w') : Doe P (.store t x y) e w K := fun d ty pos af gd => by
 obtain ⟨b, cs, rfl, ho, hm, hh, hr⟩ := hp
 have hsz := T4 hv
 have hl := GoT.len hr
 have hrow : cs.toList.take 0 ++ v.cells.toList ++ cs.toList.drop (0 + v.cells.size) = v.cells.toList := by
  rw [List.take_zero, List.nil_append, List.drop_of_length_le (by simp at hl; simp; omega), List.append_nil]
 have hrun := Ki (P := P) (t := t) (v := v) (b := b) (o := 0) (by rw [hsz]; exact hs) hh (by simp at hl; omega) (GoT.one hv.cells)
 rw [hrow] at hrun
 have hstp : Stp i g w g (w.setRow b v.cells.toList.toArray) := Uo hh ho (fun j hj => by rw [hm] at hj; omega)
 have hrun2 : (execOp (ev e) ⟨d, .store t x y, ty, pos, af, gd⟩).run P w = .ok .skip (w.setRow b v.cells.toList.toArray) := by
  simp [execOp, hx, hy, Instr.storeAt, Instr.sureAddr, Result.andThen, hrun]
 unfold doE; rw [hrun2]
 exact h g _ hstp ⟨b, _, rfl, ho, hm, Qa _ _ hh, by simpa using GoT.mono hstp.ch hv.cells⟩
theorem OB.pub {α : Type} [GoT α] {i : Nat} {t : TypeId} {a : α} {p : Value} (hp : OB i g w t a p) : ∃ g', Stp i g w g' w ∧ PT g'.m w a p := by
 obtain ⟨b, cs, rfl, ho, hm, hh, hr⟩ := hp
 have hs : Stp i g w { m := K6 g.m b (GoT.k α), o := g.o } w := by
  refine ⟨rfl, rfl, rfl, ⟨Nat.le_refl _, fun b' _ => ?_, fun _ _ _ _ => rfl⟩, fun _ _ _ => rfl, fun b' _ hne => Q1 _ _ (fun h => hne (h ▸ ho)), fun _ _ _ => rfl⟩
  by_cases hb : b' = b
  ·subst hb; rw [hm]; exact Nat.zero_le _
  ·exact Nat.le_of_eq (Q1 _ _ hb).symm
 exact ⟨_, hs, b, 0, cs.toList, rfl, Gw hh, by show _ ≤ K6 g.m b (GoT.k α) b; rw [Tj]; omega, GoT.mono hs.ch hr, fun j c hj => by simpa [World.cell?, hh] using hj⟩
end
end Go.Proofs.YtmebkoemfjlbcaaGreatDoor
