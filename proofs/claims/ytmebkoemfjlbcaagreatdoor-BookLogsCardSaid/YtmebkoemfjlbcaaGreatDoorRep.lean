/- What lies in memory, read as data: a slice as a list, a struct as a tuple; ghost marks say which cells of a block no longer change and whose the block is. No program is named here. -/
import Derived.Test.YtmebkoemfjlbcaaGreatDoorEnv
namespace Go.Proofs.YtmebkoemfjlbcaaGreatDoor
open Go.RowKit

structure Gh where
 m : Nat → Nat
 o : Nat → Nat
def K6 (f : Nat → Nat) (b v : Nat) : Nat → Nat := fun t => bif Nat.beq t b then v else f t
theorem Tj (f : Nat → Nat) (b v : Nat) : K6 f b v b = v := by simp [K6]
theorem Q1 (f : Nat → Nat) {b t : Nat} (v : Nat) (h : t ≠ b) : K6 f b v t = f t := by
 have : Nat.beq t b = false := by
  cases hb : Nat.beq t b
  ·rfl
  ·exact absurd (Nat.eq_of_beq_eq_true hb) h
 simp [K6, this]

structure Ch (m : Nat → Nat) (w : World) (m' : Nat → Nat) (w' : World) : Prop where
 size : w.heap.size ≤ w'.heap.size
 marks : ∀ b, b < w.heap.size → m b ≤ m' b
 cells : ∀ b, b < w.heap.size → ∀ j, j < m b → w'.cell? ⟨b, j, none⟩ = w.cell? ⟨b, j, none⟩
theorem Ch.refl (m : Nat → Nat) (w : World) : Ch m w m w := ⟨Nat.le_refl _, fun _ _ => Nat.le_refl _, fun _ _ _ _ => rfl⟩
theorem Ch.trans {m m' m'' : Nat → Nat} {w w' w'' : World} (h : Ch m w m' w') (k : Ch m' w' m'' w'') : Ch m w m'' w'' :=
  ⟨Nat.le_trans h.size k.size, fun b hb => Nat.le_trans (h.marks b hb) (k.marks b (Nat.lt_of_lt_of_le hb h.size)),
   fun b hb j hj => (k.cells b (Nat.lt_of_lt_of_le hb h.size) j (Nat.lt_of_lt_of_le hj (h.marks b hb))).trans (h.cells b hb j hj)⟩

structure Ext (g : Gh) (w : World) (g' : Gh) (w' : World) : Prop where
 below : Below w.heap.size w w'
 m : ∀ b, b < w.heap.size → g'.m b = g.m b
 o : ∀ b, b < w.heap.size → g'.o b = g.o b
theorem Ext.ch {g g' : Gh} {w w' : World} (h : Ext g w g' w') : Ch g.m w g'.m w' :=
 ⟨h.below.size, fun b hb => Nat.le_of_eq (h.m b hb).symm, fun b hb j _ => h.below.cell (p := ⟨b, j, none⟩) hb⟩
theorem Ext.refl (g : Gh) (w : World) : Ext g w g w := ⟨Below.refl _ _, fun _ _ => rfl, fun _ _ => rfl⟩
theorem Ext.trans {g g' g'' : Gh} {w w' w'' : World} (h : Ext g w g' w') (k : Ext g' w' g'' w'') : Ext g w g'' w'' :=
  ⟨h.below.trans (k.below.mono h.below.size),
   fun b hb => (k.m b (Nat.lt_of_lt_of_le hb h.below.size)).trans (h.m b hb),
   fun b hb => (k.o b (Nat.lt_of_lt_of_le hb h.below.size)).trans (h.o b hb)⟩

structure Stp (i : Nat) (g : Gh) (w : World) (g' : Gh) (w' : World) : Prop where
 os : w'.os = w.os
 tape : w'.tape = w.tape
 output : w'.output = w.output
 ch : Ch g.m w g'.m w'
 block : ∀ b, b < w.heap.size → g.o b ≠ i → w'.heap[b]? = w.heap[b]?
 m : ∀ b, b < w.heap.size → g.o b ≠ i → g'.m b = g.m b
 o : ∀ b, b < w.heap.size → g.o b ≠ i → g'.o b = g.o b

structure Fr (g0 : Gh) (w0 : World) (g : Gh) (w : World) : Prop where
 below : Below w0.heap.size w0 w
 m : ∀ b, b < w0.heap.size → g.m b = g0.m b
 o : ∀ b, b < w0.heap.size → g.o b = 0
theorem Fr.start (g : Gh) (w : World) : Fr g w { m := g.m, o := fun _ => 0 } w := ⟨Below.refl _ _, fun _ _ => rfl, fun _ _ => rfl⟩
theorem Fr.ext {g0 g g' : Gh} {w0 w w' : World} (h : Fr g0 w0 g w) (k : Ext g w g' w') : Fr g0 w0 g' w' :=
 ⟨h.below.trans (k.below.mono h.below.size), fun b hb => (k.m b (Nat.lt_of_lt_of_le hb h.below.size)).trans (h.m b hb), fun b hb => (k.o b (Nat.lt_of_lt_of_le hb h.below.size)).trans (h.o b hb)⟩
theorem Fr.stp {i : Nat} {g0 g g' : Gh} {w0 w w' : World} (h : Fr g0 w0 g w) (k : Stp (i + 1) g w g' w') : Fr g0 w0 g' w' := by
 have hne : ∀ b, b < w0.heap.size → g.o b ≠ i + 1 := fun b hb => by rw [h.o b hb]; omega
 have hlt : ∀ b, b < w0.heap.size → b < w.heap.size := fun b hb => Nat.lt_of_lt_of_le hb h.below.size
 exact ⟨h.below.trans ⟨k.os, k.tape, k.output, k.ch.size, fun b hb => k.block b (hlt b hb) (hne b hb)⟩,
  fun b hb => (k.m b (hlt b hb) (hne b hb)).trans (h.m b hb), fun b hb => (k.o b (hlt b hb) (hne b hb)).trans (h.o b hb)⟩
theorem Fr.ch {g0 g : Gh} {w0 w : World} (h : Fr g0 w0 g w) : Ch g0.m w0 g.m w :=
 ⟨h.below.size, fun b hb => Nat.le_of_eq (h.m b hb).symm, fun b hb j _ => h.below.cell (p := ⟨b, j, none⟩) hb⟩
theorem Fr.fin {g0 g : Gh} {w0 w : World} (h : Fr g0 w0 g w) : Ext g0 w0 { m := g.m, o := fun b => if b < w0.heap.size then g0.o b else 0 } w :=
 ⟨h.below, h.m, fun b hb => by simp [hb]⟩

class GoT (α : Type) where
 k : Nat
 agg : Bool
 rep : (Nat → Nat) → World → α → List Value → Prop
 len : ∀ {m w x cs}, rep m w x cs → cs.length = k
 one : ∀ {m w x cs}, rep m w x cs → ∀ c ∈ cs, c.oneCell' = true
 mono : ∀ {m w m' w' x cs}, Ch m w m' w' → rep m w x cs → rep m' w' x cs
 k1 : agg = false → k = 1

def toV (agg : Bool) (cs : List Value) : Value := bif agg then .agg cs.toArray else cs.headD undef
def RV {α : Type} [GoT α] (m : Nat → Nat) (w : World) (x : α) (v : Value) : Prop := ∃ cs, GoT.rep m w x cs ∧ v = toV (GoT.agg α) cs
theorem RV.ch {α : Type} [GoT α] {m m' : Nat → Nat} {w w' : World} {x : α} {v : Value} (h : RV m w x v) (k : Ch m w m' w') : RV m' w' x v :=
 let ⟨cs, h1, h2⟩ := h; ⟨cs, GoT.mono k h1, h2⟩
theorem RV.ext {α : Type} [GoT α] {g g' : Gh} {w w' : World} {x : α} {v : Value} (h : RV g.m w x v) (k : Ext g w g' w') : RV g'.m w' x v := h.ch k.ch
theorem RV.stp {α : Type} [GoT α] {i : Nat} {g g' : Gh} {w w' : World} {x : α} {v : Value} (h : RV g.m w x v) (k : Stp i g w g' w') : RV g'.m w' x v := h.ch k.ch

theorem U4 {v : Value} (h : v.oneCell' = true) : v.cells = #[v] := by cases v <;> first | rfl | (simp [Value.oneCell'] at h)
theorem RV.cells {α : Type} [GoT α] {m : Nat → Nat} {w : World} {x : α} {v : Value} (h : RV m w x v) : GoT.rep m w x v.cells.toList := by
 obtain ⟨cs, h1, rfl⟩ := h
 cases ha : GoT.agg α with
 | true => simpa [toV, Value.cells] using h1
 | false =>
  have hk := GoT.len h1
  rw [GoT.k1 ha] at hk
  match cs, hk with
  | [c], _ =>
   have h0 := GoT.one h1 c (by simp)
   simp only [toV, cond_false, List.headD_cons, U4 h0]
   exact h1

def PT {α : Type} [GoT α] (m : Nat → Nat) (w : World) (x : α) (p : Value) : Prop :=
 ∃ b off cs, p = .pointer (some ⟨b, off, none⟩) ∧ b < w.heap.size ∧ off + GoT.k α ≤ m b ∧ GoT.rep m w x cs ∧ ∀ j c, cs[j]? = some c → w.cell? ⟨b, off + j, none⟩ = some c
theorem PT.ch {α : Type} [GoT α] {m m' : Nat → Nat} {w w' : World} {x : α} {v : Value} (h : PT m w x v) (k : Ch m w m' w') : PT m' w' x v := by
 obtain ⟨b, off, cs, hv, hb, hm, hr, hc⟩ := h
 refine ⟨b, off, cs, hv, Nat.lt_of_lt_of_le hb k.size, Nat.le_trans hm (k.marks b hb), GoT.mono k hr, fun j c hj => ?_⟩
 have hl := GoT.len hr
 have hj' : j < cs.length := (List.getElem?_eq_some_iff.1 hj).1
 exact (k.cells b hb (off + j) (by omega)).trans (hc j c hj)
theorem PT.ext {α : Type} [GoT α] {g g' : Gh} {w w' : World} {x : α} {v : Value} (h : PT g.m w x v) (k : Ext g w g' w') : PT g'.m w' x v := h.ch k.ch
theorem PT.stp {α : Type} [GoT α] {i : Nat} {g g' : Gh} {w w' : World} {x : α} {v : Value} (h : PT g.m w x v) (k : Stp i g w g' w') : PT g'.m w' x v := h.ch k.ch

/-! ### The types -/
instance : GoT Int where
 k := 1
 agg := false
 rep _ _ x cs := cs = [.int .i64 x]
 len h := by subst h; rfl
 one h := by subst h; simp [Value.oneCell']
 mono _ h := h
 k1 _ := rfl
instance : GoT Bool where
 k := 1
 agg := false
 rep _ _ x cs := cs = [.bool x]
 len h := by subst h; rfl
 one h := by subst h; simp [Value.oneCell']
 mono _ h := h
 k1 _ := rfl
instance : GoT UInt8 where
 k := 1
 agg := false
 rep _ _ x cs := cs = [.int .u8 x.toNat]
 len h := by subst h; rfl
 one h := by subst h; simp [Value.oneCell']
 mono _ h := h
 k1 _ := rfl
structure Str where
 b : List UInt8
 deriving DecidableEq, Inhabited
def Str.v (s : Str) : Value := .string ⟨⟨s.b⟩⟩
instance : GoT Str where
 k := 1
 agg := false
 rep _ _ x cs := cs = [x.v]
 len h := by subst h; rfl
 one h := by subst h; simp [Value.oneCell', Str.v]
 mono _ h := h
 k1 _ := rfl
theorem Zj {m : Nat → Nat} {w : World} {x : Int} {v : Value} : RV m w x v ↔ v = .int .i64 x := ⟨fun ⟨_, h, hv⟩ => by rw [hv, h]; rfl, fun h => ⟨_, rfl, h⟩⟩
theorem Wl {m : Nat → Nat} {w : World} {x : Bool} {v : Value} : RV m w x v ↔ v = .bool x := ⟨fun ⟨_, h, hv⟩ => by rw [hv, h]; rfl, fun h => ⟨_, rfl, h⟩⟩
theorem Tz {m : Nat → Nat} {w : World} {x : UInt8} {v : Value} : RV m w x v ↔ v = .int .u8 x.toNat := ⟨fun ⟨_, h, hv⟩ => by rw [hv, h]; rfl, fun h => ⟨_, rfl, h⟩⟩
theorem Ts {m : Nat → Nat} {w : World} {x : Str} {v : Value} : RV m w x v ↔ v = x.v := ⟨fun ⟨_, h, hv⟩ => by rw [hv, h]; rfl, fun h => ⟨_, rfl, h⟩⟩

instance {α β : Type} [GoT α] [GoT β] : GoT (α × β) where
 k := GoT.k α + GoT.k β
 agg := true
 rep m w x cs := ∃ c1 c2, cs = c1 ++ c2 ∧ GoT.rep m w x.1 c1 ∧ GoT.rep m w x.2 c2
 len h := by obtain ⟨c1, c2, rfl, h1, h2⟩ := h; rw [List.length_append, GoT.len h1, GoT.len h2]
 one h c hc := by
  obtain ⟨c1, c2, rfl, h1, h2⟩ := h
  rcases List.mem_append.1 hc with hc | hc
  ·exact GoT.one h1 c hc
  ·exact GoT.one h2 c hc
 mono k h := by obtain ⟨c1, c2, rfl, h1, h2⟩ := h; exact ⟨c1, c2, rfl, GoT.mono k h1, GoT.mono k h2⟩
 k1 h := by cases h
@[reducible] def GoT.struct (α : Type) {β : Type} [GoT β] (to : α → β) : GoT α where
 k := GoT.k β
 agg := true
 rep m w x cs := GoT.rep m w (to x) cs
 len h := GoT.len h
 one h := GoT.one h
 mono k h := GoT.mono k h
 k1 h := by cases h

def Xt {α : Type} [GoT α] (m : Nat → Nat) (w : World) (b off : Nat) (xs : List α) : Prop :=
 ∀ i x, xs[i]? = some x → ∃ cs, GoT.rep m w x cs ∧ ∀ j c, cs[j]? = some c → w.cell? ⟨b, off + i * GoT.k α + j, none⟩ = some c
theorem Xt.ch {α : Type} [GoT α] {m m' : Nat → Nat} {w w' : World} {b off : Nat} {xs : List α} (h : Xt m w b off xs) (hb : b < w.heap.size) (hm : off + xs.length * GoT.k α ≤ m b) (k : Ch m w m' w') : Xt m' w' b off xs := by
 intro i x hx
 obtain ⟨cs, hr, hc⟩ := h i x hx
 refine ⟨cs, GoT.mono k hr, fun j c hj => ?_⟩
 have hl := GoT.len hr
 have hj' : j < cs.length := (List.getElem?_eq_some_iff.1 hj).1
 have hi' : i < xs.length := (List.getElem?_eq_some_iff.1 hx).1
 have : (i + 1) * GoT.k α ≤ xs.length * GoT.k α := Nat.mul_le_mul_right _ hi'
 rw [Nat.add_mul] at this
 exact (k.cells b hb (off + i * GoT.k α + j) (by omega)).trans (hc j c hj)

instance {α : Type} [GoT α] : GoT (List α) where
 k := 1
 agg := false
 rep m w xs cs := ∃ a c, cs = [.slice a xs.length c] ∧ xs.length ≤ c ∧
  (0 < xs.length → ∃ b off, a = some ⟨b, off, none⟩ ∧ b < w.heap.size ∧ off + xs.length * GoT.k α ≤ m b ∧ Xt m w b off xs)
 len h := by obtain ⟨a, c, rfl, _⟩ := h; rfl
 one h := by obtain ⟨a, c, rfl, _⟩ := h; simp [Value.oneCell']
 mono k h := by
  obtain ⟨a, c, rfl, hc, hr⟩ := h
  refine ⟨a, c, rfl, hc, fun hp => ?_⟩
  obtain ⟨b, off, ha, hb, hm, hr⟩ := hr hp
  exact ⟨b, off, ha, Nat.lt_of_lt_of_le hb k.size, Nat.le_trans hm (k.marks b hb), hr.ch hb hm k⟩
 k1 _ := rfl
instance {α : Type} [GoT α] {n : Nat} : GoT (Vector α n) where
 k := n * GoT.k α
 agg := true
 rep m w x cs := cs.length = n * GoT.k α ∧ ∀ i (hi : i < n), GoT.rep m w x[i] ((cs.drop (i * GoT.k α)).take (GoT.k α))
 len h := h.1
 one h c hc := by
  obtain ⟨j, hj, rfl⟩ := List.getElem_of_mem hc
  have hk : 0 < GoT.k α := by
   rcases Nat.eq_zero_or_pos (GoT.k α) with h0 | h0
   ·rw [h.1, h0] at hj; omega
   ·exact h0
  have hi : j / GoT.k α < n := Nat.div_lt_of_lt_mul (by rw [Nat.mul_comm, ← h.1]; exact hj)
  have h1 := h.2 (j / GoT.k α) hi
  refine GoT.one h1 _ ?_
  have hm : j / GoT.k α * GoT.k α + j % GoT.k α = j := by rw [Nat.mul_comm]; exact Nat.div_add_mod j _
  have hlt := Nat.mod_lt j hk
  rw [List.mem_take_iff_getElem]
  refine ⟨j % GoT.k α, by rw [List.length_drop]; omega, ?_⟩
  rw [List.getElem_drop]
  simp only [hm]
 mono k h := ⟨h.1, fun i hi => GoT.mono k (h.2 i hi)⟩
 k1 h := by cases h

theorem Qc {α : Type} [GoT α] {m : Nat → Nat} {w : World} {xs : List α} {v : Value} (h : RV m w xs v) : ∃ a c, v = .slice a xs.length c ∧ xs.length ≤ c ∧
  (0 < xs.length → ∃ b off, a = some ⟨b, off, none⟩ ∧ b < w.heap.size ∧ off + xs.length * GoT.k α ≤ m b ∧ Xt m w b off xs) := by
 obtain ⟨cs, ⟨a, c, rfl, h⟩, rfl⟩ := h
 exact ⟨a, c, rfl, h⟩
theorem Q4 {α : Type} [GoT α] {m : Nat → Nat} {w : World} {xs : List α} {a : Option Addr} {c n : Nat} (hn : n = xs.length) (hc : xs.length ≤ c)
  (h : 0 < xs.length → ∃ b off, a = some ⟨b, off, none⟩ ∧ b < w.heap.size ∧ off + xs.length * GoT.k α ≤ m b ∧ Xt m w b off xs) : RV m w xs (.slice a n c) := by
 subst hn
 exact ⟨_, ⟨a, c, rfl, hc, h⟩, rfl⟩
theorem Tp {α : Type} [GoT α] {m : Nat → Nat} {w : World} : RV m w ([] : List α) (.slice none 0 0) := Q4 rfl (Nat.le_refl _) (fun h => absurd h (by simp))
end Go.Proofs.YtmebkoemfjlbcaaGreatDoor
