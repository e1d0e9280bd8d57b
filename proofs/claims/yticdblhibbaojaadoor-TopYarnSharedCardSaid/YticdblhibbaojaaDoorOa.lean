/- Own slices that are both written in place and appended to. No program is named here. -/
import Derived.Test.YticdblhibbaojaaDoorNest
import Derived.Test.YticdblhibbaojaaDoorMake
namespace Go.Proofs.YticdblhibbaojaaDoor
open Go.RowKit

def OA {α : Type} [GoT α] (i : Nat) (g : Gh) (w : World) (t : TypeId) (xs : List α) (v : Value) : Prop :=
 (v = .slice none 0 0 ∧ xs = []) ∨
 ∃ b c cs, v = .slice (some ⟨b, 0, none⟩) xs.length c ∧ g.o b = i ∧ g.m b = 0 ∧ w.heap[b]? = some (.cells cs t (0, 0)) ∧ xs.length ≤ c ∧ c ≤ maxLen ∧ cs.size = c * GoT.k α ∧ FlatR g.m w xs (cs.toList.take (xs.length * GoT.k α))
section
variable {α : Type} [GoT α] {i j : Nat} {g g' : Gh} {w w' : World} {t : TypeId} {xs : List α} {v : Value}
theorem OA.nil : OA i g w t ([] : List α) (.slice none 0 0) := .inl ⟨rfl, rfl⟩
theorem OA.ext (h : OA i g w t xs v) (k : Ext g w g' w') : OA i g' w' t xs v := by
 rcases h with h | ⟨b, c, cs, hp, ho, hm, hh, h1, h2, h3, hf⟩
 ·exact .inl h
 have hb := lt_of_heap hh
 exact .inr ⟨b, c, cs, hp, (k.o b hb).trans ho, (k.m b hb).trans hm, (k.below.block b hb).trans hh, h1, h2, h3, hf.ch k.ch⟩
theorem OA.stp (h : OA i g w t xs v) (k : Stp j g w g' w') (hne : Nat.beq i j = false) : OA i g' w' t xs v := by
 rcases h with h | ⟨b, c, cs, hp, ho, hm, hh, h1, h2, h3, hf⟩
 ·exact .inl h
 have hb := lt_of_heap hh
 have hij : g.o b ≠ j := by rw [ho]; intro he; rw [he] at hne; simp at hne
 exact .inr ⟨b, c, cs, hp, (k.o b hb hij).trans ho, (k.m b hb hij).trans hm, (k.block b hb hij).trans hh, h1, h2, h3, hf.ch k.ch⟩
theorem OA.toM (h : OA i g w t xs v) : OM i g w t xs v := by
 rcases h with h | ⟨b, c, cs, hp, ho, hm, hh, h1, h2, h3, hf⟩
 ·exact .inl h
 exact .inr ⟨b, c, cs, hp, h1, ho, hm, CF.of hh, by rw [h3]; exact Nat.mul_le_mul_right _ h1, hf⟩
end
section
variable {P : Program} {e : Env} {w : World} {g : Gh} {K : Value → World → Prop} {x y z : Operand}
theorem D_storeA {α : Type} [GoT α] {n : Nat} {t et : TypeId} {v u : Value} {xs : List α} {i : Int} {a a' : α} (hs : ∀ w, (sizeOf t).run P w = .ok (GoT.k α) w) (hx : ev e x = ePtr v i (GoT.k α)) (hv : OA n g w et xs v) (hi : idx xs i = some a) (hy : ev e y = u) (hu : RV g.m w a' u)
  (h : ∀ g' w', Stp n g w g' w' → OA n g' w' et (xs.set i.toNat a') v → K undef w') : Doe P (.store t x y) e w K := fun d ty pos af gd => by
 rcases hv with ⟨_, rfl⟩ | ⟨b, c, cs, rfl, ho, hm, hh, hc, hcm, hsz, hf⟩
 ·exact (idx_nil hi).elim
 obtain ⟨h0, hi'⟩ := idx_some hi
 have hlt : i.toNat < xs.length := (List.getElem?_eq_some_iff.1 hi').1
 have hus := cells_size hu
 have hk : i.toNat * GoT.k α + GoT.k α ≤ xs.length * GoT.k α := by
  have : (i.toNat + 1) * GoT.k α ≤ xs.length * GoT.k α := Nat.mul_le_mul_right _ hlt
  rw [Nat.add_mul, Nat.one_mul] at this; exact this
 have hkc : xs.length * GoT.k α ≤ cs.size := by rw [hsz]; exact Nat.mul_le_mul_right _ hc
 have hrun := storeVar_run (P := P) (t := t) (v := u) (b := b) (o := 0 + i.toNat * GoT.k α) (by rw [hus]; exact hs) hh (by omega) (GoT.one hu.cells)
 have hset := hf.set hlt hu.cells
 rw [Nat.zero_add, hus] at hrun
 generalize hrow : cs.toList.take (i.toNat * GoT.k α) ++ u.cells.toList ++ cs.toList.drop (i.toNat * GoT.k α + GoT.k α) = row at hrun
 have hstp : Stp n g w g (w.setRow b row.toArray) := stp_row hh ho (fun j hj => by rw [hm] at hj; omega)
 have hrow2 : row.take (xs.length * GoT.k α) = (cs.toList.take (xs.length * GoT.k α)).take (i.toNat * GoT.k α) ++ u.cells.toList ++ (cs.toList.take (xs.length * GoT.k α)).drop (i.toNat * GoT.k α + GoT.k α) := by
  rw [← hrow, List.take_take, Nat.min_eq_left (by omega)]
  have hul : u.cells.toList.length = GoT.k α := by simpa using hus
  have hl1 : (cs.toList.take (i.toNat * GoT.k α)).length = i.toNat * GoT.k α := by rw [List.length_take, Array.length_toList]; omega
  rw [List.take_append, List.take_of_length_le (by rw [List.length_append, hl1, hul]; omega), List.length_append, hl1, hul, List.drop_take]
 have hlen : row.length = cs.size := by
  rw [← hrow]
  have hul : u.cells.toList.length = GoT.k α := by simpa using hus
  simp only [List.length_append, List.length_take, List.length_drop, Array.length_toList, hul]
  omega
 have hrun2 : (execOp (ev e) ⟨d, .store t x y, ty, pos, af, gd⟩).run P w = .ok .skip (w.setRow b row.toArray) := by
  simp [execOp, hx, hy, ePtr, Instr.storeAt, Instr.sureAddr, Result.andThen, hrun]
 unfold doE; rw [hrun2]
 refine h g _ hstp (.inr ⟨b, c, row.toArray, by rw [List.length_set], ho, hm, setRow_cells _ _ hh, by rw [List.length_set]; exact hc, hcm, by rw [← hsz]; simpa using hlen, ?_⟩)
 rw [List.length_set]
 show FlatR g.m _ _ (row.take _)
 rw [hrow2]
 exact hset.ch hstp.ch
theorem flat_of_rv {α : Type} [GoT α] {m : Nat → Nat} {w : World} {b n c : Nat} {cs : Array Value} {t : TypeId} {xs : List α} (h : RV m w xs (.slice (some ⟨b, 0, none⟩) n c)) (hh : w.heap[b]? = some (.cells cs t (0, 0))) : FlatR m w xs (cs.toList.take (xs.length * GoT.k α)) := by
 rcases Nat.eq_zero_or_pos xs.length with h0 | h0
 ·have hx : xs = [] := List.eq_nil_of_length_eq_zero h0
  subst hx
  simp [FlatR]
 ·obtain ⟨a, c2, he, _, hrow⟩ := RV_list h
  obtain ⟨b2, off2, rfl, _, _, hrow⟩ := hrow h0
  injection he with he _ _
  injection he with he
  injection he with h1 h2
  subst h1; subst h2
  obtain ⟨ds, hf, hcell⟩ := hrow.flat
  have hl := hf.len
  have hds : cs.toList.take (xs.length * GoT.k α) = ds := by
   apply List.ext_getElem?
   intro k
   rw [List.getElem?_take]
   split
   ·rename_i hk
    have hk2 : k < ds.length := by rw [hl]; exact hk
    have := hcell k _ (List.getElem?_eq_getElem hk2)
    simp only [World.cell?, hh, Nat.zero_add, Option.isSome_none, Bool.false_eq_true, if_false] at this
    rw [List.getElem?_eq_getElem hk2, ← this, Array.getElem?_toList]
   ·rename_i hk
    rw [List.getElem?_eq_none (by omega)]
  rw [hds]
  exact hf
theorem D_appendA {α : Type} [GoT α] (hpl : Plain α) {i : Nat} {t et : TypeId} {z : Value} {bytes : Nat} {xs ys r : List α} {u v : Value}
  (ht : P.underlying t = some (.slice et)) (hinfo : (P.info? et).map (fun i => (i.zero, i.size, i.bytes)) = some (some z, GoT.k α, bytes)) (hzs : z.cells.size = GoT.k α)
  (hx : ev e x = u) (hos : OA i g w et xs u) (hy : ev e y = v) (hv : RV g.m w ys v) (hr : apnd bytes xs ys = some r)
  (h : ∀ g' w' v', Stp i g w g' w' → OA i g' w' et r v' → K v' w') : Doe P (.call { callee := .builtin .append, args := #[x, y], argTypes := #[t, t] }) e w K := fun d ty pos af gd => by
 obtain ⟨ti, hi, hz, hsz, hby⟩ := info_parts hinfo
 subst hby
 have key : ∃ B : Nat → Bool, (∀ x, x < w.heap.size → B x = true → g.o x = i ∧ g.m x = 0) ∧ OS 1 { m := fun x => if B x then xs.length * GoT.k α else g.m x, o := fun x => if B x then 1 else 0 } w et xs u ∧ RV (fun x => if B x then xs.length * GoT.k α else g.m x) w xs u := by
  rcases hos with ⟨rfl, rfl⟩ | ⟨b, c, cs, rfl, ho, hm, hh, hc, hcm, hcs, hf⟩
  ·exact ⟨fun _ => false, fun _ _ h => by simp at h, OS.nil, RV_nil⟩
  ·refine ⟨fun x => x == b, fun x _ h => by simp at h; subst h; exact ⟨ho, hm⟩, .inr ⟨b, c, cs, rfl, by simp, by show (if (b == b) = true then _ else _) = _; simp, hh, hc, hcm, hcs⟩, RV_list_mk rfl hc fun _ => ⟨b, 0, rfl, lt_of_heap hh, ?_, ?_⟩⟩
   ·show 0 + _ ≤ (if (b == b) = true then _ else _); simp
   ·refine (hf.plain hpl).row fun j v hj => ?_
    rw [List.getElem?_take] at hj
    split at hj
    ·rw [Nat.zero_add]; simp only [World.cell?, hh]; simpa using hj
    ·cases hj
 obtain ⟨B, hB, hos1, hu1⟩ := key
 have hch1 : Ch g.m w (fun x => if B x then xs.length * GoT.k α else g.m x) w := ⟨Nat.le_refl _, fun x hx => by
  by_cases hBx : B x = true
  ·rw [(hB x hx hBx).2]; exact Nat.zero_le _
  ·simp [hBx], fun _ _ _ _ => rfl⟩
 obtain ⟨g', w', v', hrun, h1, h2, h3, _⟩ := append_run (P := P) (i := 1) t ty et ti z ht hi hz hsz hzs hos1 hu1 (hv.ch hch1) hr
 have hrun2 : (execOp (ev e) ⟨d, .call { callee := .builtin .append, args := #[x, y], argTypes := #[t, t] }, ty, pos, af, gd⟩).run P w = .ok (.value v') w' := by
  simp only [execOp, resolve, invoke, builtin, Sem.run_bind, Sem.run_pure, Result.andThen_ok, List.map_toArray, List.map_cons, List.map_nil, hx, hy, hrun]
 unfold doE; rw [hrun2]
 have back : ∀ (B : Nat → Bool) (n b' : Nat) (g' : Gh), (∀ x, x < w.heap.size → B x = true → g.o x = i ∧ g.m x = 0) → Stp 1 { m := fun x => if B x then n else g.m x, o := fun x => if B x then 1 else 0 } w g' w' → g'.o b' = 1 →
   Stp i g w { m := fun x => if x = b' ∨ B x = true then 0 else g'.m x, o := fun x => if x = b' then i else if x < w.heap.size then g.o x else 0 } w' := fun B n b' g' hB hst ho => append_back hB hst ho
 rcases h2 with ⟨rfl, rfl⟩ | ⟨b', c', cs', rfl, ho', hm', hh', hc', hcm', hcs'⟩
 ·refine h { m := fun x => if B x = true then 0 else g'.m x, o := fun x => if x < w.heap.size then g.o x else 0 } _ _ ?_ .nil
  have hst := back B _ (w.heap.size + w'.heap.size) { m := g'.m, o := fun x => if x = w.heap.size + w'.heap.size then 1 else g'.o x } hB ⟨h1.os, h1.tape, h1.output, h1.ch, h1.block, h1.m, fun x hx hn => by
   have := h1.o x hx hn
   simp only [show x ≠ w.heap.size + w'.heap.size by omega, if_false]
   exact this⟩ (by simp)
  refine ⟨hst.os, hst.tape, hst.output, ⟨hst.ch.size, fun x hx => ?_, hst.ch.cells⟩, hst.block, fun x hx hn => ?_, fun x hx hn => by simp [hx]⟩
  ·have := hst.ch.marks x hx
   simp only [show x ≠ w.heap.size + w'.heap.size by omega, false_or] at this
   exact this
  ·have := hst.m x hx hn
   simp only [show x ≠ w.heap.size + w'.heap.size by omega, false_or] at this
   exact this
 ·exact h _ _ _ (back B _ b' g' hB h1 ho') (.inr ⟨b', c', cs', rfl, by simp, by simp, hh', hc', hcm', hcs', (flat_of_rv h3 hh').plain hpl⟩)
end
/-! ### A field of an element -/
theorem FlatR.at {α : Type} [GoT α] {m : Nat → Nat} {w : World} : ∀ {xs : List α} {cs : List Value}, FlatR m w xs cs → ∀ {i : Nat} {x : α}, xs[i]? = some x → GoT.rep m w x ((cs.drop (i * GoT.k α)).take (GoT.k α))
 | [], _, _, i, x, h => by simp at h
 | y :: ys, cs, ⟨c1, c2, he, h1, h2⟩, 0, x, h => by
  simp at h; subst h; subst he
  rw [Nat.zero_mul, List.drop_zero, List.take_left' (GoT.len h1)]
  exact h1
 | y :: ys, cs, ⟨c1, c2, he, h1, h2⟩, i + 1, x, h => by
  subst he
  have := FlatR.at h2 (i := i) (x := x) (by simpa using h)
  rw [Nat.add_mul, Nat.one_mul, Nat.add_comm, ← List.drop_drop, List.drop_left' (GoT.len h1)]
  exact this
section
variable {P : Program} {e : Env} {w : World} {g : Gh} {K : Value → World → Prop} {x y z : Operand}
end
end Go.Proofs.YticdblhibbaojaaDoor
