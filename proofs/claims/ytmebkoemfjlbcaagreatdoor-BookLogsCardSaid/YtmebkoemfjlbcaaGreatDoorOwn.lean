/- Slices that a function owns and writes in place. No program is named here. -/
import Derived.Test.YtmebkoemfjlbcaaGreatDoorGen
namespace Go.Proofs.YtmebkoemfjlbcaaGreatDoor
open Go.RowKit

theorem Tn.set {α : Type} [GoT α] {m : Nat → Nat} {w : World} : ∀ {xs : List α} {cs : List Value}, Tn m w xs cs → ∀ {i : Nat}, i < xs.length → ∀ {y : α} {cy : List Value}, GoT.rep m w y cy →
  Tn m w (xs.set i y) (cs.take (i * GoT.k α) ++ cy ++ cs.drop (i * GoT.k α + GoT.k α))
 | [], _, _, _, hi, _, _, _ => absurd hi (by simp)
 | x :: xs, _, ⟨c1, c2, rfl, h1, h2⟩, 0, _, y, cy, hy => by
  have hl := GoT.len h1
  refine ⟨cy, c2, ?_, hy, h2⟩
  rw [Nat.zero_mul, Nat.zero_add, List.take_zero, List.nil_append, ← hl, List.drop_left']
  rfl
 | x :: xs, _, ⟨c1, c2, rfl, h1, h2⟩, i + 1, hi, y, cy, hy => by
  have hl := GoT.len h1
  refine ⟨c1, c2.take (i * GoT.k α) ++ cy ++ c2.drop (i * GoT.k α + GoT.k α), ?_, h1, Tn.set h2 (by simpa using hi) hy⟩
  have e1 : (i + 1) * GoT.k α = c1.length + i * GoT.k α := by rw [hl, Nat.add_mul, Nat.one_mul, Nat.add_comm]
  rw [e1, List.take_length_add_append, Nat.add_assoc, List.drop_length_add_append]
  simp only [List.append_assoc]

theorem Js {α : Type} {i : Int} {a : α} (h : idx ([] : List α) i = some a) : False := by unfold idx at h; split at h <;> simp at h
def okF (n : Nat) (fr : Nat × Nat) : Prop := fr.2 = 0 ∨ n ≤ fr.1
theorem okF.not {n : Nat} {fr : Nat × Nat} (h : okF n fr) {j : Nat} (hj : j < n) : (decide (fr.1 ≤ j) && decide (j < fr.2)) = false := by
 rcases h with h | h <;> simp <;> omega
theorem Hi {P : Program} (g o : Nat) (t : TypeId) (fr : Nat × Nat) : ∀ (vs : List Value) (i : Nat) (cur : Array Value) (w : World), w.heap[g]? = some (.cells cur t fr) → okF cur.size fr → o + i + vs.length ≤ cur.size → (∀ v ∈ vs, v.oneCell' = true) →
  (storeCells ⟨g, o, none⟩ vs i).run P w = .ok () (w.setRow g (cur.toList.take (o + i) ++ vs ++ cur.toList.drop (o + i + vs.length)).toArray)
 | [], i, cur, w, hg, _, _, _ => by
  simp only [storeCells, List.append_nil, List.length_nil, Nat.add_zero, List.take_append_drop, Array.toArray_toList]
  rw [setRow_self w g cur t fr hg]
  rfl
 | v :: rest, i, cur, w, hg, hok, hl, h1 => by
  have hi : o + i < cur.size := by simp at hl; omega
  have hcell : w.cell? ⟨g, o + i, none⟩ = some cur[o + i] := by simp [World.cell?, hg, hi]
  have hfro : w.frozen? ⟨g, o + i, none⟩ = false := by
   have := hok.not hi
   simp only [World.frozen?, hg]
   exact this
  have hst : (store ((⟨g, o, none⟩ : Addr).add i) v).run P w = .ok () (w.setRow g (cur.setIfInBounds (o + i) v)) := by
   rw [Wb, run_store P w _ v _ (h1 v (by simp)), hcell]
   simp [hfro, setCell_eq_setRow w g (o + i) cur t fr v hg]
  have ih := Hi (P := P) g o t fr rest (i + 1) (cur.setIfInBounds (o + i) v) (w.setRow g (cur.setIfInBounds (o + i) v)) (setRow_heap w g cur _ t _ hg) (by simpa using hok) (by simp at hl ⊢; omega) (fun x hx => h1 x (by simp [hx]))
  simp only [storeCells, Sem.run_bind, hst, Result.andThen_ok, ih, setRow_setRow]
  congr 3
  have e := list_seg_step cur.toList (o + i) v rest (by simp at hl ⊢; omega)
  simpa [Array.toList_setIfInBounds, Nat.add_assoc] using e
theorem U3 {P : Program} {w : World} {t : TypeId} {v : Value} {b : Nat} {cur : Array Value} {bt : TypeId} {fr : Nat × Nat} (hs : ∀ w, (sizeOf t).run P w = .ok v.cells.size w) (hh : w.heap[b]? = some (.cells cur bt fr)) (hok : okF cur.size fr) {o : Nat}
  (ho : o + v.cells.size ≤ cur.size) (h1 : ∀ c ∈ v.cells.toList, c.oneCell' = true) :
  (storeVar t ⟨b, o, none⟩ v).run P w = .ok () (w.setRow b (cur.toList.take o ++ v.cells.toList ++ cur.toList.drop (o + v.cells.size)).toArray) := by
 unfold storeVar
 have h2 := Hi (P := P) b o bt fr v.cells.toList 0 cur w hh hok (by simpa using ho) h1
 simp only [Nat.add_zero, Array.length_toList] at h2
 simp only [Sem.run_bind, hs, Result.andThen, ne_eq, not_true_eq_false, if_false]
 simpa using h2
theorem Dr {i b : Nat} {g : Gh} {w : World} {cs cur : Array Value} {bt : TypeId} {fr : Nat × Nat} (hh : w.heap[b]? = some (.cells cur bt fr)) (ho : g.o b = i) (hm : ∀ j, j < g.m b → cs[j]? = cur[j]?) : Stp i g w g (w.setRow b cs) := by
 refine ⟨rfl, rfl, rfl, ⟨by rw [Kw]; exact Nat.le_refl _, fun _ _ => Nat.le_refl _, fun b' hb' j hj => ?_⟩, fun b' hb' hne => Qh b cs (fun h => hne (h ▸ ho)), fun _ _ _ => rfl, fun _ _ _ => rfl⟩
 by_cases hbb : b' = b
 ·subst hbb
  simp only [World.cell?, setRow_heap w _ cur cs bt fr hh, hh]
  simpa using hm j hj
 ·simp only [World.cell?, Qh b cs hbb]
def CF (w : World) (b : Nat) (cs : Array Value) (t : TypeId) : Prop := ∃ fr, w.heap[b]? = some (.cells cs t fr) ∧ okF cs.size fr
theorem CF.lt {w : World} {b : Nat} {cs : Array Value} {t : TypeId} (h : CF w b cs t) : b < w.heap.size := let ⟨_, h, _⟩ := h; Gw h
theorem CF.same {w w' : World} {b : Nat} {cs : Array Value} {t : TypeId} (h : CF w b cs t) (k : w'.heap[b]? = w.heap[b]?) : CF w' b cs t := let ⟨fr, h, ho⟩ := h; ⟨fr, k.trans h, ho⟩
theorem CF.of {w : World} {b : Nat} {cs : Array Value} {t : TypeId} (h : w.heap[b]? = some (.cells cs t (0, 0))) : CF w b cs t := ⟨_, h, .inl rfl⟩
theorem CF.cell {w : World} {b : Nat} {cs : Array Value} {t : TypeId} (h : CF w b cs t) (j : Nat) : w.cell? ⟨b, j, none⟩ = cs[j]? := by obtain ⟨fr, h, _⟩ := h; simp [World.cell?, h]
def OM {α : Type} [GoT α] (i : Nat) (g : Gh) (w : World) (t : TypeId) (xs : List α) (v : Value) : Prop :=
 (v = .slice none 0 0 ∧ xs = []) ∨
 ∃ b c cs, v = .slice (some ⟨b, 0, none⟩) xs.length c ∧ xs.length ≤ c ∧ g.o b = i ∧ g.m b = 0 ∧ CF w b cs t ∧ xs.length * GoT.k α ≤ cs.size ∧ Tn g.m w xs (cs.toList.take (xs.length * GoT.k α))
theorem OM.ext {α : Type} [GoT α] {i : Nat} {g g' : Gh} {w w' : World} {t : TypeId} {xs : List α} {v : Value} (h : OM i g w t xs v) (k : Ext g w g' w') : OM i g' w' t xs v := by
 rcases h with h | ⟨b, c, cs, hp, hc, ho, hm, hh, hs, hf⟩
 ·exact .inl h
 have hb := hh.lt
 exact .inr ⟨b, c, cs, hp, hc, (k.o b hb).trans ho, (k.m b hb).trans hm, hh.same (k.below.block b hb), hs, hf.ch k.ch⟩
theorem OM.stp {α : Type} [GoT α] {i j : Nat} {g g' : Gh} {w w' : World} {t : TypeId} {xs : List α} {v : Value} (h : OM i g w t xs v) (k : Stp j g w g' w') (hne : Nat.beq i j = false) : OM i g' w' t xs v := by
 rcases h with h | ⟨b, c, cs, hp, hc, ho, hm, hh, hs, hf⟩
 ·exact .inl h
 have hb := hh.lt
 have hij : g.o b ≠ j := by rw [ho]; intro he; rw [he] at hne; simp at hne
 exact .inr ⟨b, c, cs, hp, hc, (k.o b hb hij).trans ho, (k.m b hb hij).trans hm, hh.same (k.block b hb hij), hs, hf.ch k.ch⟩

section
variable {P : Program} {e : Env} {w : World} {g : Gh} {K : Value → World → Prop} {x y z : Operand}
theorem P1 {α : Type} [GoT α] {i : Nat} {t et : TypeId} {xs : List α} {v : Value} (ht : P.underlying t = some (.slice et)) (hx : ev e x = v) (hv : OM i g w et xs v) :
  Pur P (.call { callee := .builtin .len, args := #[x], argTypes := #[t] }) e (.int .i64 (xs.length : Int)) := fun _ _ _ _ _ _ => by
 rcases hv with ⟨rfl, rfl⟩ | ⟨b, c, cs, rfl, _⟩ <;>
 simp [execOp, resolve, invoke, builtin, Builtin.len_, hx, run_underlying ht, goInt]
theorem Ym {α : Type} [GoT α] {n : Nat} {t et : TypeId} {v : Value} {xs : List α} {k : IntKind} {i : Int} {a : α}
  (ht : P.underlying t = some (.slice et)) (hs : ∀ w, (sizeOf et).run P w = .ok (GoT.k α) w) (hx : ev e x = v) (hv : OM n g w et xs v) (hy : ev e y = .int k i) (hi : idx xs i = some a) : Pur P (.indexAddr t x y) e (Gq v i (GoT.k α)) := fun _ _ _ _ _ w' => by
 rcases hv with ⟨_, rfl⟩ | ⟨b, c, cs, rfl, hc, _⟩
 ·exact (Js hi).elim
 obtain ⟨h0, hi'⟩ := Wr hi
 have hlt : i.toNat < xs.length := (List.getElem?_eq_some_iff.1 hi').1
 have hl : i < (xs.length : Int) := by omega
 simp [execOp, hx, hy, Instr.indexAt, asIntOf, Sem.run_bind, run_underlying ht, Result.andThen, h0, hl, hs, Wb, Gq]
theorem Au {α : Type} [GoT α] {n : Nat} {t et : TypeId} {v u : Value} {xs : List α} {i : Int} {a a' : α} (hs : ∀ w, (sizeOf t).run P w = .ok (GoT.k α) w) (hx : ev e x = Gq v i (GoT.k α)) (hv : OM n g w et xs v) (hi : idx xs i = some a) (hy : ev e y = u) (hu : RV g.m w a' u)
  (h : ∀ g' w', Stp n g w g' w' → OM n g' w' et (xs.set i.toNat a') v → K undef w') : Doe P (.store t x y) e w K := fun d ty pos af gd => by
 rcases hv with ⟨_, rfl⟩ | ⟨b, c, cs, rfl, hc, ho, hm, hh, hsz, hf⟩
 ·exact (Js hi).elim
 obtain ⟨h0, hi'⟩ := Wr hi
 have hlt : i.toNat < xs.length := (List.getElem?_eq_some_iff.1 hi').1
 have hus := T4 hu
 have hk : i.toNat * GoT.k α + GoT.k α ≤ xs.length * GoT.k α := by
  have : (i.toNat + 1) * GoT.k α ≤ xs.length * GoT.k α := Nat.mul_le_mul_right _ hlt
  rw [Nat.add_mul, Nat.one_mul] at this; exact this
 obtain ⟨fr, hh, hok⟩ := hh
 have hrun := U3 (P := P) (t := t) (v := u) (b := b) (o := 0 + i.toNat * GoT.k α) (by rw [hus]; exact hs) hh hok (by omega) (GoT.one hu.cells)
 have hset := hf.set hlt hu.cells
 rw [Nat.zero_add, hus] at hrun
 generalize hrow : cs.toList.take (i.toNat * GoT.k α) ++ u.cells.toList ++ cs.toList.drop (i.toNat * GoT.k α + GoT.k α) = row at hrun
 have hstp : Stp n g w g (w.setRow b row.toArray) := Dr hh ho (fun j hj => by rw [hm] at hj; omega)
 have hrow2 : row.take (xs.length * GoT.k α) = (cs.toList.take (xs.length * GoT.k α)).take (i.toNat * GoT.k α) ++ u.cells.toList ++ (cs.toList.take (xs.length * GoT.k α)).drop (i.toNat * GoT.k α + GoT.k α) := by
  rw [← hrow, List.take_take, Nat.min_eq_left (by omega)]
  have hul : u.cells.toList.length = GoT.k α := by simpa using hus
  have hl1 : (cs.toList.take (i.toNat * GoT.k α)).length = i.toNat * GoT.k α := by rw [List.length_take, Array.length_toList]; omega
  rw [List.take_append, List.take_of_length_le (by rw [List.length_append, hl1, hul]; omega), List.length_append, hl1, hul, List.drop_take]
 have hlen : row.length = cs.size := by
  rw [← hrow]
  have hul : u.cells.toList.length = GoT.k α := by simpa using hus
  simp only [List.length_append, List.length_take, List.length_drop, Array.length_toList, hul]
  omega
 have hrun2 : (execOp (ev e) ⟨d, .store t x y, ty, pos, af, gd⟩).run P w = .ok .skip (w.setRow b row.toArray) := by
  simp [execOp, hx, hy, Gq, Instr.storeAt, Instr.sureAddr, hrun]
 unfold doE; rw [hrun2]
 refine h g _ hstp (.inr ⟨b, c, row.toArray, by rw [List.length_set], by rw [List.length_set]; exact hc, ho, hm, ⟨fr, setRow_heap w b cs _ et fr hh, by simpa [hlen] using hok⟩, by rw [List.length_set]; simpa [hlen] using hsz, ?_⟩)
 rw [List.length_set]
 show Tn g.m _ _ (row.take _)
 rw [hrow2]
 exact hset.ch hstp.ch
theorem OM.pub {α : Type} [GoT α] {i : Nat} {t : TypeId} {xs : List α} {v : Value} (hp : OM i g w t xs v) : ∃ g', Stp i g w g' w ∧ RV g'.m w xs v := by
 rcases hp with ⟨rfl, rfl⟩ | ⟨b, c, cs, rfl, hc, ho, hm, hh, hsz, hf⟩
 ·exact ⟨g, (Ext.refl g w).stp, Tp⟩
 have hs : Stp i g w { m := K6 g.m b (xs.length * GoT.k α), o := g.o } w := by
  refine ⟨rfl, rfl, rfl, ⟨Nat.le_refl _, fun b' _ => ?_, fun _ _ _ _ => rfl⟩, fun _ _ _ => rfl, fun b' _ hne => Q1 _ _ (fun h => hne (h ▸ ho)), fun _ _ _ => rfl⟩
  by_cases hb : b' = b
  ·subst hb; rw [hm]; exact Nat.zero_le _
  ·exact Nat.le_of_eq (Q1 _ _ hb).symm
 refine ⟨_, hs, Q4 rfl hc fun _ => ⟨b, 0, rfl, hh.lt, by rw [Nat.zero_add]; exact Nat.le_of_eq (Tj _ _ _).symm, (hf.ch hs.ch).row fun j v hj => ?_⟩⟩
 rw [List.getElem?_take] at hj
 split at hj
 ·rw [hh.cell, Nat.zero_add]
  simpa using hj
 ·cases hj
end

/-! ### A new slice, handed out to be written -/
def Uz (α : Type) [GoT α] : Prop := ∀ (m m' : Nat → Nat) (w w' : World) (x : α) (cs : List Value), GoT.rep m w x cs → GoT.rep m' w' x cs
theorem Tn.plain {α : Type} [GoT α] (hp : Uz α) {m m' : Nat → Nat} {w w' : World} : ∀ {xs : List α} {cs : List Value}, Tn m w xs cs → Tn m' w' xs cs
 | [], _, h => h
 | _ :: _, _, ⟨c1, c2, he, h1, h2⟩ => ⟨c1, c2, he, hp _ _ _ _ _ _ h1, Tn.plain hp h2⟩
end Go.Proofs.YtmebkoemfjlbcaaGreatDoor
