/- Own slices that are both written in place and appended to. No program is named here. -/
import Derived.Test.YtmebkoemfjlbcaaGreatDoorNest
import Derived.Test.YtmebkoemfjlbcaaGreatDoorMake
namespace Go.Proofs.YtmebkoemfjlbcaaGreatDoor
open Go.RowKit

def OA {α : Type} [GoT α] (i : Nat) (g : Gh) (w : World) (t : TypeId) (xs : List α) (v : Value) : Prop :=
 (v = .slice none 0 0 ∧ xs = []) ∨
 ∃ b c cs, v = .slice (some ⟨b, 0, none⟩) xs.length c ∧ g.o b = i ∧ g.m b = 0 ∧ w.heap[b]? = some (.cells cs t (0, 0)) ∧ xs.length ≤ c ∧ c ≤ maxLen ∧ cs.size = c * GoT.k α ∧ Tn g.m w xs (cs.toList.take (xs.length * GoT.k α))
section
variable {α : Type} [GoT α] {i j : Nat} {g g' : Gh} {w w' : World} {t : TypeId} {xs : List α} {v : Value}
theorem OA.nil : OA i g w t ([] : List α) (.slice none 0 0) := .inl ⟨rfl, rfl⟩
theorem OA.ext (h : OA i g w t xs v) (k : Ext g w g' w') : OA i g' w' t xs v := by
 rcases h with h | ⟨b, c, cs, hp, ho, hm, hh, h1, h2, h3, hf⟩
 ·exact .inl h
 have hb := Gw hh
 exact .inr ⟨b, c, cs, hp, (k.o b hb).trans ho, (k.m b hb).trans hm, (k.below.block b hb).trans hh, h1, h2, h3, hf.ch k.ch⟩
theorem OA.stp (h : OA i g w t xs v) (k : Stp j g w g' w') (hne : Nat.beq i j = false) : OA i g' w' t xs v := by
 rcases h with h | ⟨b, c, cs, hp, ho, hm, hh, h1, h2, h3, hf⟩
 ·exact .inl h
 have hb := Gw hh
 have hij : g.o b ≠ j := by rw [ho]; intro he; rw [he] at hne; simp at hne
 exact .inr ⟨b, c, cs, hp, (k.o b hb hij).trans ho, (k.m b hb hij).trans hm, (k.block b hb hij).trans hh, h1, h2, h3, hf.ch k.ch⟩
theorem OA.toM (h : OA i g w t xs v) : OM i g w t xs v := by
 rcases h with h | ⟨b, c, cs, hp, ho, hm, hh, h1, h2, h3, hf⟩
 ·exact .inl h
 exact .inr ⟨b, c, cs, hp, h1, ho, hm, CF.of hh, by rw [h3]; exact Nat.mul_le_mul_right _ h1, hf⟩
end
section
variable {P : Program} {e : Env} {w : World} {g : Gh} {K : Value → World → Prop} {x y z : Operand}
theorem Fi {α : Type} [GoT α] {m : Nat → Nat} {w : World} {b n c : Nat} {cs : Array Value} {t : TypeId} {xs : List α} (h : RV m w xs (.slice (some ⟨b, 0, none⟩) n c)) (hh : w.heap[b]? = some (.cells cs t (0, 0))) : Tn m w xs (cs.toList.take (xs.length * GoT.k α)) := by
 rcases Nat.eq_zero_or_pos xs.length with h0 | h0
 ·have hx : xs = [] := List.eq_nil_of_length_eq_zero h0
  subst hx
  simp [Tn]
 ·obtain ⟨a, c2, he, _, hrow⟩ := Qc h
  obtain ⟨b2, off2, rfl, _, _, hrow⟩ := hrow h0
  injection he with he _ _
  injection he with he
  injection he with h1 h2
  subst h1; subst h2
  obtain ⟨ds, hf, hcell⟩ := hrow.flat
  have hl := hf.len
  have hds : cs.toList.take (xs.length * GoT.k α) = ds := by
   apply List.ext_getElem?
   intro k
   rw [List.getElem?_take]
   split
   ·rename_i hk
    have hk2 : k < ds.length := by rw [hl]; exact hk
    have := hcell k _ (List.getElem?_eq_getElem hk2)
    simp only [World.cell?, hh, Nat.zero_add, Option.isSome_none, Bool.false_eq_true, if_false] at this
    rw [List.getElem?_eq_getElem hk2, ← this, Array.getElem?_toList]
   ·rename_i hk
    rw [List.getElem?_eq_none (by omega)]
  rw [hds]
  exact hf
theorem B2 {α : Type} [GoT α] (hpl : Uz α) {i : Nat} {t et : TypeId} {z : Value} {bytes : Nat} {xs ys r : List α} {u v : Value}
  (ht : P.underlying t = some (.slice et)) (hinfo : (P.info? et).map (fun i => (i.zero, i.size, i.bytes)) = some (some z, GoT.k α, bytes)) (hzs : z.cells.size = GoT.k α)
  (hx : ev e x = u) (hos : OA i g w et xs u) (hy : ev e y = v) (hv : RV g.m w ys v) (hr : apnd bytes xs ys = some r)
  (h : ∀ g' w' v', Stp i g w g' w' → OA i g' w' et r v' → K v' w') : Doe P (.call { callee := .builtin .append, args := #[x, y], argTypes := #[t, t] }) e w K := fun d ty pos af gd => by
 obtain ⟨ti, hi, hz, hsz, hby⟩ := info_parts hinfo
 subst hby
 have key : ∃ B : Nat → Bool, (∀ x, x < w.heap.size → B x = true → g.o x = i ∧ g.m x = 0) ∧ OS 1 { m := fun x => if B x then xs.length * GoT.k α else g.m x, o := fun x => if B x then 1 else 0 } w et xs u ∧ RV (fun x => if B x then xs.length * GoT.k α else g.m x) w xs u := by
  rcases hos with ⟨rfl, rfl⟩ | ⟨b, c, cs, rfl, ho, hm, hh, hc, hcm, hcs, hf⟩
  ·exact ⟨fun _ => false, fun _ _ h => by simp at h, OS.nil, Tp⟩
  ·refine ⟨fun x => x == b, fun x _ h => by simp at h; subst h; exact ⟨ho, hm⟩, .inr ⟨b, c, cs, rfl, by simp, by show (if (b == b) = true then _ else _) = _; simp, hh, hc, hcm, hcs⟩, Q4 rfl hc fun _ => ⟨b, 0, rfl, Gw hh, ?_, ?_⟩⟩
   ·show 0 + _ ≤ (if (b == b) = true then _ else _); simp
   ·refine (hf.plain hpl).row fun j v hj => ?_
    rw [List.getElem?_take] at hj
    split at hj
    ·rw [Nat.zero_add]; simp only [World.cell?, hh]; simpa using hj
    ·cases hj
 obtain ⟨B, hB, hos1, hu1⟩ := key
 have hch1 : Ch g.m w (fun x => if B x then xs.length * GoT.k α else g.m x) w := ⟨Nat.le_refl _, fun x hx => by
  by_cases hBx : B x = true
  ·rw [(hB x hx hBx).2]; exact Nat.zero_le _
  ·simp [hBx], fun _ _ _ _ => rfl⟩
 obtain ⟨g', w', v', hrun, h1, h2, h3, _⟩ := Bc (P := P) (i := 1) t ty et ti z ht hi hz hsz hzs hos1 hu1 (hv.ch hch1) hr
 have hrun2 : (execOp (ev e) ⟨d, .call { callee := .builtin .append, args := #[x, y], argTypes := #[t, t] }, ty, pos, af, gd⟩).run P w = .ok (.value v') w' := by
  simp only [execOp, resolve, invoke, builtin, Sem.run_bind, Sem.run_pure, Result.andThen_ok, List.map_toArray, List.map_cons, List.map_nil, hx, hy, hrun]
 unfold doE; rw [hrun2]
 have back : ∀ (B : Nat → Bool) (n b' : Nat) (g' : Gh), (∀ x, x < w.heap.size → B x = true → g.o x = i ∧ g.m x = 0) → Stp 1 { m := fun x => if B x then n else g.m x, o := fun x => if B x then 1 else 0 } w g' w' → g'.o b' = 1 →
   Stp i g w { m := fun x => if x = b' ∨ B x = true then 0 else g'.m x, o := fun x => if x = b' then i else if x < w.heap.size then g.o x else 0 } w' := fun B n b' g' hB hst ho => Rt hB hst ho
 rcases h2 with ⟨rfl, rfl⟩ | ⟨b', c', cs', rfl, ho', hm', hh', hc', hcm', hcs'⟩
 ·refine h { m := fun x => if B x = true then 0 else g'.m x, o := fun x => if x < w.heap.size then g.o x else 0 } _ _ ?_ .nil
  have hst := back B _ (w.heap.size + w'.heap.size) { m := g'.m, o := fun x => if x = w.heap.size + w'.heap.size then 1 else g'.o x } hB ⟨h1.os, h1.tape, h1.output, h1.ch, h1.block, h1.m, fun x hx hn => by
   have := h1.o x hx hn
   simp only [show x ≠ w.heap.size + w'.heap.size by omega, if_false]
   exact this⟩ (by simp)
  refine ⟨hst.os, hst.tape, hst.output, ⟨hst.ch.size, fun x hx => ?_, hst.ch.cells⟩, hst.block, fun x hx hn => ?_, fun x hx hn => by simp [hx]⟩
  ·have := hst.ch.marks x hx
   simp only [show x ≠ w.heap.size + w'.heap.size by omega, false_or] at this
   exact this
  ·have := hst.m x hx hn
   simp only [show x ≠ w.heap.size + w'.heap.size by omega, false_or] at this
   exact this
 ·exact h _ _ _ (back B _ b' g' hB h1 ho') (.inr ⟨b', c', cs', rfl, by simp, by simp, hh', hc', hcm', hcs', (Fi h3 hh').plain hpl⟩)
theorem Bi {α : Type} [GoT α] (i : Nat) {t et : TypeId} {zv : Value} {n : Nat} {os : List (Nat × Operand)} {xs : List α} {vs : List Value}
  (ht : P.underlying t = some (.slice et)) (hs : ∀ w, (sizeOf et).run P w = .ok (GoT.k α) w) (hz : ∀ w, (zeroValue et).run P w = .ok zv w) (hzs : zv.cells.size = GoT.k α) (hk : Nat.blt 0 (GoT.k α) = true)
  (hps : Parts e os (Km 0 vs)) (hv : RVs g.m w xs vs) (hn : n = xs.length) (hsm : Nat.ble (xs.length * GoT.k α) 16777216 = true)
  (h : ∀ g' w' v, Stp i g w g' w' → OA i g' w' et xs v → Ext g w g' w' → K v w') : Doe P (.buildSlice t n os.toArray) e w K := fun d ty pos af gd => by
 subst hn
 have hrun := Jl (P := P) ht hs hz hzs (Nat.le_of_ble_eq_true hk) hv (Nat.le_of_ble_eq_true hsm)
 have hflat := hv.flat
 have hl := hflat.len
 generalize hcs : (vs.map fun v => v.cells.toList).flatten = cs at hrun hflat hl
 have hst := Hs i g w cs.toArray et 0
 have hrun2 : (execOp (ev e) ⟨d, .buildSlice t xs.length os.toArray, ty, pos, af, gd⟩).run P w = .ok (.value (.slice (some ⟨w.heap.size, 0, none⟩) xs.length xs.length)) (w.alloc (.cells cs.toArray et)) := by
  simp only [execOp, List.map_toArray, hps.map, Sem.run_bind, hrun, Result.andThen_ok, Sem.run_pure]
 unfold doE; rw [hrun2]
 refine h _ _ _ hst (.inr ⟨w.heap.size, xs.length, _, rfl, Tj _ _ _, Tj _ _ _, Wd _ _, Nat.le_refl _, ?_, by simpa using hl, ?_⟩)
  ⟨(Below.refl _ w).alloc (Nat.le_refl _) _, fun b hb => Q1 _ _ (by omega), fun b hb => Q1 _ _ (by omega)⟩
 ·have h1 : xs.length * GoT.k α ≤ 16777216 := Nat.le_of_ble_eq_true hsm
  have h2 : xs.length ≤ xs.length * GoT.k α := Nat.le_mul_of_pos_right _ (Nat.le_of_ble_eq_true hk)
  simp only [maxLen]; omega
 ·rw [← hl, List.take_of_length_le (by simp)]; exact hflat.ch hst.ch
end
/-! ### A field of an element -/
theorem R1 {γ : Type} (L cy : List γ) (p k off kb : Nat) (hcy : cy.length = kb) (hok : off + kb ≤ k) :
  L.take (p + off) ++ cy ++ L.drop (p + off + kb) = L.take p ++ (((L.drop p).take k).take off ++ cy ++ ((L.drop p).take k).drop (off + cy.length)) ++ L.drop (p + k) := by
 have h1 : L.take (p + off) = L.take p ++ (L.drop p).take off := List.take_add
 have h2 : ((L.drop p).take k).take off = (L.drop p).take off := by rw [List.take_take, Nat.min_eq_left (by omega)]
 have h3 : ((L.drop p).take k).drop (off + cy.length) = (L.drop (p + (off + kb))).take (k - (off + kb)) := by rw [hcy, List.drop_take, List.drop_drop]
 have h4 : L.drop (p + off + kb) = (L.drop (p + (off + kb))).take (k - (off + kb)) ++ L.drop (p + k) := by
  conv => lhs; rw [Nat.add_assoc, ← List.take_append_drop (k - (off + kb)) (L.drop (p + (off + kb)))]
  rw [List.drop_drop]
  congr 2
  omega
 rw [h1, h2, h3, h4]
 simp only [List.append_assoc]
theorem Tn.at {α : Type} [GoT α] {m : Nat → Nat} {w : World} : ∀ {xs : List α} {cs : List Value}, Tn m w xs cs → ∀ {i : Nat} {x : α}, xs[i]? = some x → GoT.rep m w x ((cs.drop (i * GoT.k α)).take (GoT.k α))
 | [], _, _, i, x, h => by simp at h
 | y :: ys, cs, ⟨c1, c2, he, h1, h2⟩, 0, x, h => by
  simp at h; subst h; subst he
  rw [Nat.zero_mul, List.drop_zero, List.take_left' (GoT.len h1)]
  exact h1
 | y :: ys, cs, ⟨c1, c2, he, h1, h2⟩, i + 1, x, h => by
  subst he
  have := Tn.at h2 (i := i) (x := x) (by simpa using h)
  rw [Nat.add_mul, Nat.one_mul, Nat.add_comm, ← List.drop_drop, List.drop_left' (GoT.len h1)]
  exact this
section
variable {P : Program} {e : Env} {w : World} {g : Gh} {K : Value → World → Prop} {x y z : Operand}
theorem OM.ptrE {α : Type} [GoT α] {n : Nat} {et : TypeId} {v : Value} {xs : List α} {i : Int} {a : α} {k : Nat} (hv : OM n g w et xs v) (hi : idx xs i = some a) : ∃ b o, Gq v i k = .pointer (some ⟨b, o, none⟩) := by
 rcases hv with ⟨_, rfl⟩ | ⟨b, c, cs, rfl, _⟩
 ·exact (Js hi).elim
 ·exact ⟨b, _, rfl⟩
theorem Pg {α β : Type} [GoT α] [GoT β] {n off : Nat} {f : α → β} {s : α → β → α} {t et : TypeId} {v u : Value} {xs : List α} {i : Int} {a : α} {y0 : β} (hsub : Gr off f s) (hs : ∀ w, (sizeOf t).run P w = .ok (GoT.k β) w) (hx : ev e x = Gc (Gq v i (GoT.k α)) off) (hv : OM n g w et xs v) (hi : idx xs i = some a) (hy : ev e y = u) (hu : RV g.m w y0 u)
  (h : ∀ g' w', Stp n g w g' w' → OM n g' w' et (xs.set i.toNat (s a y0)) v → K undef w') : Doe P (.store t x y) e w K := fun d ty pos af gd => by
 rcases hv with ⟨_, rfl⟩ | ⟨b, c, cs, rfl, hc, ho, hm, hh, hsz, hf⟩
 ·exact (Js hi).elim
 obtain ⟨h0, hi'⟩ := Wr hi
 have hlt : i.toNat < xs.length := (List.getElem?_eq_some_iff.1 hi').1
 have hus := T4 hu
 have hob := hsub.1.1
 have hk : i.toNat * GoT.k α + GoT.k α ≤ xs.length * GoT.k α := by
  have : (i.toNat + 1) * GoT.k α ≤ xs.length * GoT.k α := Nat.mul_le_mul_right _ hlt
  rw [Nat.add_mul, Nat.one_mul] at this; exact this
 obtain ⟨fr, hh, hok⟩ := hh
 have hrun := U3 (P := P) (t := t) (v := u) (b := b) (o := i.toNat * GoT.k α + off) (by rw [hus]; exact hs) hh hok (by omega) (GoT.one hu.cells)
 have helem := hf.at hi'
 have hset := hf.set hlt (hsub.2 _ _ _ _ _ _ helem hu.cells)
 have hul : u.cells.toList.length = GoT.k β := by simpa using hus
 have hrow0 := R1 (cs.toList.take (xs.length * GoT.k α)) u.cells.toList (i.toNat * GoT.k α) (GoT.k α) off (GoT.k β) hul hob
 rw [← hrow0] at hset
 rw [hus] at hrun
 generalize hrow : cs.toList.take (i.toNat * GoT.k α + off) ++ u.cells.toList ++ cs.toList.drop (i.toNat * GoT.k α + off + GoT.k β) = row at hrun
 have hstp : Stp n g w g (w.setRow b row.toArray) := Dr hh ho (fun j hj => by rw [hm] at hj; omega)
 have hrow2 : row.take (xs.length * GoT.k α) = (cs.toList.take (xs.length * GoT.k α)).take (i.toNat * GoT.k α + off) ++ u.cells.toList ++ (cs.toList.take (xs.length * GoT.k α)).drop (i.toNat * GoT.k α + off + GoT.k β) := by
  rw [← hrow, List.take_take, Nat.min_eq_left (by omega)]
  have hl1 : (cs.toList.take (i.toNat * GoT.k α + off)).length = i.toNat * GoT.k α + off := by rw [List.length_take, Array.length_toList, Nat.min_eq_left (by omega)]
  rw [List.take_append, List.take_of_length_le (by rw [List.length_append, hl1, hul]; omega), List.length_append, hl1, hul, List.drop_take]
 have hlen : row.length = cs.size := by
  rw [← hrow]
  simp only [List.length_append, List.length_take, List.length_drop, Array.length_toList, hul]
  omega
 have hrun2 : (execOp (ev e) ⟨d, .store t x y, ty, pos, af, gd⟩).run P w = .ok .skip (w.setRow b row.toArray) := by
  simp [execOp, hx, hy, Gc, Gq, Instr.storeAt, Instr.sureAddr, hrun]
 unfold doE; rw [hrun2]
 refine h g _ hstp (.inr ⟨b, c, row.toArray, by rw [List.length_set], by rw [List.length_set]; exact hc, ho, hm, ⟨fr, setRow_heap w b cs _ et fr hh, by simpa [hlen] using hok⟩, by rw [List.length_set]; simpa [hlen] using hsz, ?_⟩)
 rw [List.length_set]
 show Tn g.m _ _ (row.take _)
 rw [hrow2]
 exact hset.ch hstp.ch
theorem Pj {α β : Type} [GoT α] [GoT β] {n off : Nat} {f : α → β} {s : α → β → α} {t et : TypeId} {v u : Value} {xs : List α} {i : Int} {a : α} {y0 : β} (hsub : Gr off f s) (hs : ∀ w, (sizeOf t).run P w = .ok (GoT.k β) w) (hx : ev e x = Gc (Gq v i (GoT.k α)) off) (hv : OA n g w et xs v) (hi : idx xs i = some a) (hy : ev e y = u) (hu : RV g.m w y0 u)
  (h : ∀ g' w', Stp n g w g' w' → OA n g' w' et (xs.set i.toNat (s a y0)) v → K undef w') : Doe P (.store t x y) e w K := fun d ty pos af gd => by
 rcases hv with ⟨_, rfl⟩ | ⟨b, c, cs, rfl, ho, hm, hh, hc, hcm, hsz, hf⟩
 ·exact (Js hi).elim
 obtain ⟨h0, hi'⟩ := Wr hi
 have hlt : i.toNat < xs.length := (List.getElem?_eq_some_iff.1 hi').1
 have hus := T4 hu
 have hob := hsub.1.1
 have hk : i.toNat * GoT.k α + GoT.k α ≤ xs.length * GoT.k α := by
  have : (i.toNat + 1) * GoT.k α ≤ xs.length * GoT.k α := Nat.mul_le_mul_right _ hlt
  rw [Nat.add_mul, Nat.one_mul] at this; exact this
 have hkc : xs.length * GoT.k α ≤ cs.size := by rw [hsz]; exact Nat.mul_le_mul_right _ hc
 have hrun := Ki (P := P) (t := t) (v := u) (b := b) (o := i.toNat * GoT.k α + off) (by rw [hus]; exact hs) hh (by omega) (GoT.one hu.cells)
 have helem := hf.at hi'
 have hset := hf.set hlt (hsub.2 _ _ _ _ _ _ helem hu.cells)
 have hul : u.cells.toList.length = GoT.k β := by simpa using hus
 have hrow0 := R1 (cs.toList.take (xs.length * GoT.k α)) u.cells.toList (i.toNat * GoT.k α) (GoT.k α) off (GoT.k β) hul hob
 rw [← hrow0] at hset
 rw [hus] at hrun
 generalize hrow : cs.toList.take (i.toNat * GoT.k α + off) ++ u.cells.toList ++ cs.toList.drop (i.toNat * GoT.k α + off + GoT.k β) = row at hrun
 have hstp : Stp n g w g (w.setRow b row.toArray) := Uo hh ho (fun j hj => by rw [hm] at hj; omega)
 have hrow2 : row.take (xs.length * GoT.k α) = (cs.toList.take (xs.length * GoT.k α)).take (i.toNat * GoT.k α + off) ++ u.cells.toList ++ (cs.toList.take (xs.length * GoT.k α)).drop (i.toNat * GoT.k α + off + GoT.k β) := by
  rw [← hrow, List.take_take, Nat.min_eq_left (by omega)]
  have hl1 : (cs.toList.take (i.toNat * GoT.k α + off)).length = i.toNat * GoT.k α + off := by rw [List.length_take, Array.length_toList, Nat.min_eq_left (by omega)]
  rw [List.take_append, List.take_of_length_le (by rw [List.length_append, hl1, hul]; omega), List.length_append, hl1, hul, List.drop_take]
 have hlen : row.length = cs.size := by
  rw [← hrow]
  simp only [List.length_append, List.length_take, List.length_drop, Array.length_toList, hul]
  omega
 have hrun2 : (execOp (ev e) ⟨d, .store t x y, ty, pos, af, gd⟩).run P w = .ok .skip (w.setRow b row.toArray) := by
  simp [execOp, hx, hy, Gc, Gq, Instr.storeAt, Instr.sureAddr, Result.andThen, hrun]
 unfold doE; rw [hrun2]
 refine h g _ hstp (.inr ⟨b, c, row.toArray, by rw [List.length_set], ho, hm, Qa _ _ hh, by rw [List.length_set]; exact hc, hcm, by rw [← hsz]; simpa using hlen, ?_⟩)
 rw [List.length_set]
 show Tn g.m _ _ (row.take _)
 rw [hrow2]
 exact hset.ch hstp.ch
theorem Cm {α β : Type} [GoT α] [GoT β] {n off : Nat} {f : α → β} {g0 : Gh} {w0 : World} {t et : TypeId} {x : Operand} {v : Value} {xs : List α} {i : Int} {a : α} {K : Prop} (hsub : Sub off f) (ha : ∀ w, (isAgg t).run P w = .ok (GoT.agg β) w) (hs : ∀ w, (sizeOf t).run P w = .ok (GoT.k β) w) (hv : OM n g0 w0 et xs v) (hi : idx xs i = some a)
  (k : ∀ u, RV g0.m w0 (f a) u → (∀ (e : Env) (g : Gh) (w : World), (Ch g0.m w0 g.m w ∧ ∀ b, b < w0.heap.size → g0.o b = n → w.heap[b]? = w0.heap[b]?) → ev e x = Gc (Gq v i (GoT.k α)) off → ∀ d ty pos af gd, (execOp (ev e) ⟨d, .load t x, ty, pos, af, gd⟩).run P w = .ok (.value u) w) → K) : K := by
 rcases hv with ⟨_, rfl⟩ | ⟨b, c, cs, rfl, hc, ho, hm, hh, hsz, hf⟩
 ·exact (Js hi).elim
 obtain ⟨h0, hi'⟩ := Wr hi
 have hlt : i.toNat < xs.length := (List.getElem?_eq_some_iff.1 hi').1
 have hr2 := hsub.2 _ _ _ _ (hf.at hi')
 refine k _ ⟨_, hr2, rfl⟩ fun e g w hb hx d ty pos af gd => ?_
 have hcell : ∀ j c', ((((cs.toList.take (xs.length * GoT.k α)).drop (i.toNat * GoT.k α)).take (GoT.k α)).drop off |>.take (GoT.k β))[j]? = some c' → w.cell? ⟨b, i.toNat * GoT.k α + off + j, none⟩ = some c' := fun j c' hj => by
  rw [List.getElem?_take] at hj
  split at hj
  ·rw [List.getElem?_drop, List.getElem?_take] at hj
   split at hj
   ·rw [List.getElem?_drop, List.getElem?_take] at hj
    split at hj
    ·rw [CF.cell (hh.same (hb.2 b hh.lt ho))]
     rw [show i.toNat * GoT.k α + off + j = i.toNat * GoT.k α + (off + j) by omega]
     simpa using hj
    ·cases hj
   ·cases hj
  ·cases hj
 simp [execOp, hx, Gc, Gq, Instr.loadAt, Instr.sureAddr, Result.andThen, T3 ha hs (GoT.mono hb.1 hr2) hcell]
end
end Go.Proofs.YtmebkoemfjlbcaaGreatDoor
