/- Own slices that are both written in place and appended to. No program is named here. -/
import Derived.Test.YtdkgoipaohacgaaNest
import Derived.Test.YtdkgoipaohacgaaMake
namespace Go.Proofs.Ytdkgoipaohacgaa
open Go.RowKit

def OA {α : Type} [GoT α] (i : Nat) (g : Gh) (w : World) (t : TypeId) (xs : List α) (v : Value) : Prop :=
 (v = .slice none 0 0 ∧ xs = []) ∨
 ∃ b c cs, v = .slice (some ⟨b, 0, none⟩) xs.length c ∧ g.o b = i ∧ g.m b = 0 ∧ w.heap[b]? = some (.cells cs t (0, 0)) ∧ xs.length ≤ c ∧ c ≤ maxLen ∧ cs.size = c * GoT.k α ∧ FlatR g.m w xs (cs.toList.take (xs.length * GoT.k α))
section
variable {α : Type} [GoT α] {i j : Nat} {g g' : Gh} {w w' : World} {t : TypeId} {xs : List α} {v : Value}
theorem OA.nil : OA i g w t ([] : List α) (.slice none 0 0) := .inl ⟨rfl, rfl⟩
theorem OA.ext (h : OA i g w t xs v) (k : Ext g w g' w') : OA i g' w' t xs v := by
 rcases h with h | ⟨b, c, cs, hp, ho, hm, hh, h1, h2, h3, hf⟩
 ·exact .inl h
 have hb := lt_of_heap hh
 exact .inr ⟨b, c, cs, hp, (k.o b hb).trans ho, (k.m b hb).trans hm, (k.below.block b hb).trans hh, h1, h2, h3, hf.ch k.ch⟩
theorem OA.stp (h : OA i g w t xs v) (k : Stp j g w g' w') (hne : Nat.beq i j = false) : OA i g' w' t xs v := by
 rcases h with h | ⟨b, c, cs, hp, ho, hm, hh, h1, h2, h3, hf⟩
 ·exact .inl h
 have hb := lt_of_heap hh
 have hij : g.o b ≠ j := by rw [ho]; intro he; rw [he] at hne; simp at hne
 exact .inr ⟨b, c, cs, hp, (k.o b hb hij).trans ho, (k.m b hb hij).trans hm, (k.block b hb hij).trans hh, h1, h2, h3, hf.ch k.ch⟩
theorem OA.ist {B : Nat} (h : OA i g w t xs v) (k : IStp B g w g' w') (hi : Nat.beq i 0 = false := by rfl) : OA i g' w' t xs v := h.stp k.st hi
theorem OA.toM (h : OA i g w t xs v) : OM i g w t xs v := by
 rcases h with h | ⟨b, c, cs, hp, ho, hm, hh, h1, h2, h3, hf⟩
 ·exact .inl h
 exact .inr ⟨b, c, cs, hp, h1, ho, hm, CF.of hh, by rw [h3]; exact Nat.mul_le_mul_right _ h1, hf⟩
end
section
variable {P : Program} {e : Env} {w : World} {g : Gh} {K : Value → World → Prop} {x y z : Operand}
theorem D_storeA {α : Type} [GoT α] {n : Nat} {t et : TypeId} {v u : Value} {xs : List α} {i : Int} {a a' : α} (hs : ∀ w, (sizeOf t).run P w = .ok (GoT.k α) w) (hx : ev e x = ePtr v i (GoT.k α)) (hv : OA n g w et xs v) (hi : idx xs i = some a) (hy : ev e y = u) (hu : RV g.m w a' u)
  (h : ∀ g' w', Stp n g w g' w' → OA n g' w' et (xs.set i.toNat a') v → K undef w') : Doe P (.store t x y) e w K := fun d ty pos af gd => by
 rcases hv with ⟨_, rfl⟩ | ⟨b, c, cs, rfl, ho, hm, hh, hc, hcm, hsz, hf⟩
 ·exact (idx_nil hi).elim
 obtain ⟨h0, hi'⟩ := idx_some hi
 have hlt : i.toNat < xs.length := (List.getElem?_eq_some_iff.1 hi').1
 have hus := cells_size hu
 have hk : i.toNat * GoT.k α + GoT.k α ≤ xs.length * GoT.k α := by
  have : (i.toNat + 1) * GoT.k α ≤ xs.length * GoT.k α := Nat.mul_le_mul_right _ hlt
  rw [Nat.add_mul, Nat.one_mul] at this; exact this
 have hkc : xs.length * GoT.k α ≤ cs.size := by rw [hsz]; exact Nat.mul_le_mul_right _ hc
 have hrun := storeVar_run (P := P) (t := t) (v := u) (b := b) (o := 0 + i.toNat * GoT.k α) (by rw [hus]; exact hs) hh (by omega) (GoT.one hu.cells)
 have hset := hf.set hlt hu.cells
 rw [Nat.zero_add, hus] at hrun
 generalize hrow : cs.toList.take (i.toNat * GoT.k α) ++ u.cells.toList ++ cs.toList.drop (i.toNat * GoT.k α + GoT.k α) = row at hrun
 have hstp : Stp n g w g (w.setRow b row.toArray) := stp_row hh ho (fun j hj => by rw [hm] at hj; omega)
 have hrow2 : row.take (xs.length * GoT.k α) = (cs.toList.take (xs.length * GoT.k α)).take (i.toNat * GoT.k α) ++ u.cells.toList ++ (cs.toList.take (xs.length * GoT.k α)).drop (i.toNat * GoT.k α + GoT.k α) := by
  rw [← hrow, List.take_take, Nat.min_eq_left (by omega)]
  have hul : u.cells.toList.length = GoT.k α := by simpa using hus
  have hl1 : (cs.toList.take (i.toNat * GoT.k α)).length = i.toNat * GoT.k α := by rw [List.length_take, Array.length_toList]; omega
  rw [List.take_append, List.take_of_length_le (by rw [List.length_append, hl1, hul]; omega), List.length_append, hl1, hul, List.drop_take]
 have hlen : row.length = cs.size := by
  rw [← hrow]
  have hul : u.cells.toList.length = GoT.k α := by simpa using hus
  simp only [List.length_append, List.length_take, List.length_drop, Array.length_toList, hul]
  omega
 have hrun2 : (execOp (ev e) ⟨d, .store t x y, ty, pos, af, gd⟩).run P w = .ok .skip (w.setRow b row.toArray) := by
  simp [execOp, hx, hy, ePtr, Instr.storeAt, Instr.sureAddr, Result.andThen, hrun]
 unfold doE; rw [hrun2]
 refine h g _ hstp (.inr ⟨b, c, row.toArray, by rw [List.length_set], ho, hm, setRow_cells _ _ hh, by rw [List.length_set]; exact hc, hcm, by rw [← hsz]; simpa using hlen, ?_⟩)
 rw [List.length_set]
 show FlatR g.m _ _ (row.take _)
 rw [hrow2]
 exact hset.ch hstp.ch
end
theorem OA.hand {α : Type} [GoT α] {j i : Nat} {g0 g : Gh} {w0 w : World} {t : TypeId} {xs : List α} {v : Value} (hfr : Fr g0 w0 g w) (h : OA (j + 1) g w t xs v) : ∃ g', Ext g0 w0 g' w ∧ g'.m = g.m ∧ OM i g' w t xs v := by
 rcases h with ⟨h1, h2⟩ | ⟨b, c, cs, hv, ho, hm, hh, hc, hcm, hcs, hf⟩
 ·exact ⟨_, hfr.fin, rfl, .inl ⟨h1, h2⟩⟩
 ·have hb : ¬ b < w0.heap.size := fun hb => by have := hfr.o b hb; omega
  refine ⟨{ m := g.m, o := updN (fun b => if b < w0.heap.size then g0.o b else 0) b i }, ⟨hfr.below, hfr.m, fun b' hb' => ?_⟩, rfl, .inr ⟨b, c, cs, hv, hc, by simp [updN], hm, CF.of hh, by rw [hcs]; exact Nat.mul_le_mul_right _ hc, hf⟩⟩
  rw [show ({ m := g.m, o := updN (fun b => if b < w0.heap.size then g0.o b else 0) b i } : Gh).o b' = updN (fun b => if b < w0.heap.size then g0.o b else 0) b i b' from rfl, updN_ne _ _ (show b' ≠ b from fun h => hb (h ▸ hb'))]
  simp [hb']

/-! ### A field of an element -/
theorem FlatR.at {α : Type} [GoT α] {m : Nat → Nat} {w : World} : ∀ {xs : List α} {cs : List Value}, FlatR m w xs cs → ∀ {i : Nat} {x : α}, xs[i]? = some x → GoT.rep m w x ((cs.drop (i * GoT.k α)).take (GoT.k α))
 | [], _, _, i, x, h => by simp at h
 | y :: ys, cs, ⟨c1, c2, he, h1, h2⟩, 0, x, h => by
  simp at h; subst h; subst he
  rw [Nat.zero_mul, List.drop_zero, List.take_left' (GoT.len h1)]
  exact h1
 | y :: ys, cs, ⟨c1, c2, he, h1, h2⟩, i + 1, x, h => by
  subst he
  have := FlatR.at h2 (i := i) (x := x) (by simpa using h)
  rw [Nat.add_mul, Nat.one_mul, Nat.add_comm, ← List.drop_drop, List.drop_left' (GoT.len h1)]
  exact this
section
variable {P : Program} {e : Env} {w : World} {g : Gh} {K : Value → World → Prop} {x y z : Operand}
theorem OM.ptrE {α : Type} [GoT α] {n : Nat} {et : TypeId} {v : Value} {xs : List α} {i : Int} {a : α} {k : Nat} (hv : OM n g w et xs v) (hi : idx xs i = some a) : ∃ b o, ePtr v i k = .pointer (some ⟨b, o, none⟩) := by
 rcases hv with ⟨_, rfl⟩ | ⟨b, c, cs, rfl, _⟩
 ·exact (idx_nil hi).elim
 ·exact ⟨b, _, rfl⟩
theorem L_loadMF {α β : Type} [GoT α] [GoT β] {n off : Nat} {f : α → β} {g0 : Gh} {w0 : World} {t et : TypeId} {x : Operand} {v : Value} {xs : List α} {i : Int} {a : α} {K : Prop} (hsub : Sub off f) (ha : ∀ w, (isAgg t).run P w = .ok (GoT.agg β) w) (hs : ∀ w, (sizeOf t).run P w = .ok (GoT.k β) w) (hv : OM n g0 w0 et xs v) (hi : idx xs i = some a)
  (k : ∀ u, RV g0.m w0 (f a) u → (∀ (e : Env) (g : Gh) (w : World), (Ch g0.m w0 g.m w ∧ ∀ b, b < w0.heap.size → g0.o b = n → w.heap[b]? = w0.heap[b]?) → ev e x = fPtr (ePtr v i (GoT.k α)) off → ∀ d ty pos af gd, (execOp (ev e) ⟨d, .load t x, ty, pos, af, gd⟩).run P w = .ok (.value u) w) → K) : K := by
 rcases hv with ⟨_, rfl⟩ | ⟨b, c, cs, rfl, hc, ho, hm, hh, hsz, hf⟩
 ·exact (idx_nil hi).elim
 obtain ⟨h0, hi'⟩ := idx_some hi
 have hlt : i.toNat < xs.length := (List.getElem?_eq_some_iff.1 hi').1
 have hr2 := hsub.2 _ _ _ _ (hf.at hi')
 refine k _ ⟨_, hr2, rfl⟩ fun e g w hb hx d ty pos af gd => ?_
 have hcell : ∀ j c', ((((cs.toList.take (xs.length * GoT.k α)).drop (i.toNat * GoT.k α)).take (GoT.k α)).drop off |>.take (GoT.k β))[j]? = some c' → w.cell? ⟨b, i.toNat * GoT.k α + off + j, none⟩ = some c' := fun j c' hj => by
  rw [List.getElem?_take] at hj
  split at hj
  ·rw [List.getElem?_drop, List.getElem?_take] at hj
   split at hj
   ·rw [List.getElem?_drop, List.getElem?_take] at hj
    split at hj
    ·rw [CF.cell (hh.same (hb.2 b hh.lt ho))]
     rw [show i.toNat * GoT.k α + off + j = i.toNat * GoT.k α + (off + j) by omega]
     simpa using hj
    ·cases hj
   ·cases hj
  ·cases hj
 simp [execOp, hx, fPtr, ePtr, Instr.loadAt, Instr.sureAddr, Result.andThen, loadVar_run ha hs (GoT.mono hb.1 hr2) hcell]
end
end Go.Proofs.Ytdkgoipaohacgaa
