/- append, slice literals, lengths, calls: laws over the env-based logic. No program is named here. -/
import Derived.Test.YtmebkoemfjlbcaaGreatDoorMem
namespace Go.Proofs.YtmebkoemfjlbcaaGreatDoor
open Go.RowKit

def Tn {α : Type} [GoT α] (m : Nat → Nat) (w : World) : List α → List Value → Prop
 | [], cs => cs = []
 | x :: xs, cs => ∃ c1 c2, cs = c1 ++ c2 ∧ GoT.rep m w x c1 ∧ Tn m w xs c2
theorem Jn (w : World) (o : Obj) {b : Nat} (hb : b < w.heap.size) : (w.alloc o).heap[b]? = w.heap[b]? := ((Below.refl w.heap.size w).alloc (Nat.le_refl _) o).block b hb
section flat
variable {α : Type} [GoT α] {m m' : Nat → Nat} {w w' : World}
theorem Tn.len : ∀ {xs : List α} {cs : List Value}, Tn m w xs cs → cs.length = xs.length * GoT.k α
 | [], _, h => by subst h; simp
 | _ :: _, _, ⟨c1, c2, rfl, h1, h2⟩ => by rw [List.length_append, GoT.len h1, Tn.len h2, List.length_cons, Nat.add_mul]; omega
theorem Tn.one : ∀ {xs : List α} {cs : List Value}, Tn m w xs cs → ∀ c ∈ cs, c.oneCell' = true
 | [], _, h => by subst h; simp
 | _ :: _, _, ⟨c1, c2, rfl, h1, h2⟩ => fun c hc => (List.mem_append.1 hc).elim (GoT.one h1 c) (Tn.one h2 c)
theorem Tn.ch (k : Ch m w m' w') : ∀ {xs : List α} {cs : List Value}, Tn m w xs cs → Tn m' w' xs cs
 | [], _, h => h
 | _ :: _, _, ⟨c1, c2, he, h1, h2⟩ => ⟨c1, c2, he, GoT.mono k h1, Tn.ch k h2⟩
theorem Tn.append : ∀ {xs ys : List α} {cs ds : List Value}, Tn m w xs cs → Tn m w ys ds → Tn m w (xs ++ ys) (cs ++ ds)
 | [], _, _, _, h, h' => by rw [show _ = [] from h]; exact h'
 | _ :: _, _, _, _, ⟨c1, c2, rfl, h1, h2⟩, h' => ⟨c1, c2 ++ _, by rw [List.append_assoc], h1, Tn.append h2 h'⟩
theorem Tn.get : ∀ {xs : List α} {cs : List Value}, Tn m w xs cs → ∀ {i : Nat} {x : α}, xs[i]? = some x → ∃ c, GoT.rep m w x c ∧ ∀ j v, c[j]? = some v → cs[i * GoT.k α + j]? = some v
 | [], _, _, _, _, hi => by simp at hi
 | x :: xs, _, ⟨c1, c2, rfl, h1, h2⟩, 0, y, hi => by
  simp at hi; subst hi
  refine ⟨c1, h1, fun j v hj => ?_⟩
  rw [Nat.zero_mul, Nat.zero_add, List.getElem?_append_left (List.getElem?_eq_some_iff.1 hj).1]; exact hj
 | x :: xs, _, ⟨c1, c2, rfl, h1, h2⟩, i + 1, y, hi => by
  simp at hi
  obtain ⟨c, hr, hc⟩ := Tn.get h2 hi
  refine ⟨c, hr, fun j v hj => ?_⟩
  have hl := GoT.len h1
  rw [Nat.add_mul, List.getElem?_append_right (by omega)]
  rw [← hc j v hj]
  congr 1
  omega
theorem Tn.row {xs : List α} {cs : List Value} {b off : Nat} (h : Tn m w xs cs) (hc : ∀ j v, cs[j]? = some v → w.cell? ⟨b, off + j, none⟩ = some v) : Xt m w b off xs := fun i x hi => by
 obtain ⟨c, hr, h2⟩ := h.get hi
 exact ⟨c, hr, fun j v hj => by rw [Nat.add_assoc]; exact hc _ _ (h2 j v hj)⟩
theorem Xt.flat {b : Nat} : ∀ {xs : List α} {off : Nat}, Xt m w b off xs → ∃ cs, Tn m w xs cs ∧ ∀ j v, cs[j]? = some v → w.cell? ⟨b, off + j, none⟩ = some v
 | [], off, _ => ⟨[], rfl, by simp⟩
 | x :: xs, off, h => by
  obtain ⟨c1, hr1, hc1⟩ := h 0 x rfl
  have htail : Xt m w b (off + GoT.k α) xs := fun i y hi => by
   obtain ⟨c, hr, hc⟩ := h (i + 1) y (by simpa using hi)
   refine ⟨c, hr, fun j v hj => ?_⟩
   have := hc j v hj
   rw [Nat.add_mul] at this
   rw [← this]
   congr 2
   omega
  obtain ⟨c2, hf2, hc2⟩ := Xt.flat htail
  refine ⟨c1 ++ c2, ⟨c1, c2, rfl, hr1, hf2⟩, fun j v hj => ?_⟩
  have hl := GoT.len hr1
  by_cases hlt : j < c1.length
  ·rw [List.getElem?_append_left hlt] at hj
   have := hc1 j v hj
   rw [Nat.zero_mul, Nat.add_zero] at this
   exact this
  ·rw [List.getElem?_append_right (by omega)] at hj
   have := hc2 _ v hj
   rw [← this]
   congr 2
   omega
end flat

def apnd {α : Type} (bytes : Nat) (xs ys : List α) : Option (List α) :=
 if (xs.length + ys.length) * bytes ≤ 140737488355328 ∧ xs.length + ys.length ≤ 9223372036854775807 then some (xs ++ ys) else none

section
variable {P : Program} {e : Env} {w : World} {g : Gh} {K : Value → World → Prop} {x y : Operand}

theorem Xu (t ty et : TypeId) (ti : TypeInfo) (ht : P.underlying t = some (.slice et)) (hi : P.info? et = some ti) (s : Option Addr) (n c : Nat) (hnc : n ≤ c) (a : Option Addr) (c' : Nat) :
  (Builtin.append_ #[t, t] ty #[.slice s n c, .slice a 0 c']).run P w = .ok (.slice s n c) w := by
 cases s <;> cases a <;> simp [Builtin.append_, run_underlying ht, sizeOf, typeInfo, hi, Builtin.lenOf, Builtin.firstCells, hnc, storeCells, loadCells, loadCellsFrom]

def Hl (u : Value) : Prop := ∀ a n c, u = .slice a n c → n = c
theorem Bc {α : Type} [GoT α] {i : Nat} (t ty et : TypeId) (ti : TypeInfo) (z : Value) (ht : P.underlying t = some (.slice et)) (hti : P.info? et = some ti) (hz : ti.zero = some z) (hsz : ti.size = GoT.k α)
  (hzs : z.cells.size = GoT.k α) {xs ys r : List α} {u v : Value} (hos : OS i g w et xs u) (hu : RV g.m w xs u) (hv : RV g.m w ys v) (hr : apnd ti.bytes xs ys = some r) :
  ∃ g' w' v', (Builtin.append_ #[t, t] ty #[u, v]).run P w = .ok v' w' ∧ Stp i g w g' w' ∧ OS i g' w' et r v' ∧ RV g'.m w' r v' ∧ (Hl u → Ext g w g' w') ∧ ∀ b, b < w.heap.size → (∃ c, u = .slice (some ⟨b, 0, none⟩) xs.length c ∧ v' = .slice (some ⟨b, 0, none⟩) r.length c) ∨ w'.heap[b]? = w.heap[b]? := by
 unfold apnd at hr
 split at hr
 case isFalse => cases hr
 rename_i hb
 injection hr with hr
 subst hr
 obtain ⟨hb1, hb2⟩ := hb
 obtain ⟨a, c', rfl, hc', hrow⟩ := Qc hv
 obtain ⟨s, c, rfl, hc, hrowu⟩ := Qc hu
 rcases Nat.eq_zero_or_pos ys.length with hy0 | hy0
 ·-- nothing is appended
  have hys : ys = [] := List.eq_nil_of_length_eq_zero hy0
  subst hys
  refine ⟨g, w, .slice s xs.length c, ?_, ⟨rfl, rfl, rfl, Ch.refl _ _, fun _ _ _ => rfl, fun _ _ _ => rfl, fun _ _ _ => rfl⟩, by rw [List.append_nil]; exact hos, by rw [List.append_nil]; exact hu, fun _ => ⟨Below.refl _ _, fun _ _ => rfl, fun _ _ => rfl⟩, fun _ _ => .inr rfl⟩
  exact Xu t ty et ti ht hti s _ _ hc a c'
 obtain ⟨b2, off2, rfl, hlt2, hm2, hrow2⟩ := hrow hy0
 obtain ⟨news, hf2, hcell2⟩ := hrow2.flat
 have hl2 := hf2.len
 have hnews : ∀ j v, news[j]? = some v → w.cell? ((⟨b2, off2, none⟩ : Addr).add j) = some v := fun j v hj => by rw [Wb]; exact hcell2 j v hj
 have h48 : (xs.length + ys.length) * ti.bytes ≤ 281474976710656 := by omega
 -- a new block
 have grown : ∀ (olds : List Value) (old : Nat), Tn g.m w xs olds → old < xs.length + ys.length →
   ∃ g', Stp i g w g' (w.drew.alloc (.cells (olds.toArray ++ news.toArray ++ Builtin.zeroCells z.cells (grownCap w (xs.length + ys.length) old et - (xs.length + ys.length))) et)) ∧
    OS i g' (w.drew.alloc (.cells (olds.toArray ++ news.toArray ++ Builtin.zeroCells z.cells (grownCap w (xs.length + ys.length) old et - (xs.length + ys.length))) et)) et (xs ++ ys) (.slice (some ⟨w.heap.size, 0, none⟩) (xs.length + ys.length) (grownCap w (xs.length + ys.length) old et)) ∧
    RV g'.m (w.drew.alloc (.cells (olds.toArray ++ news.toArray ++ Builtin.zeroCells z.cells (grownCap w (xs.length + ys.length) old et - (xs.length + ys.length))) et)) (xs ++ ys) (.slice (some ⟨w.heap.size, 0, none⟩) (xs.length + ys.length) (grownCap w (xs.length + ys.length) old et)) ∧
    Ext g w g' (w.drew.alloc (.cells (olds.toArray ++ news.toArray ++ Builtin.zeroCells z.cells (grownCap w (xs.length + ys.length) old et - (xs.length + ys.length))) et)) := by
  intro olds old hfo ho
  have hlo := hfo.len
  have hge := grownCap_ge w (xs.length + ys.length) old et
  have hcm : grownCap w (xs.length + ys.length) old et ≤ maxLen := grownCap_le_maxLen w (xs.length + ys.length) old et (by simp only [maxLen]; omega)
  generalize grownCap w (xs.length + ys.length) old et = gc at hge hcm ⊢
  have hst0 := Hs i g w.drew (olds.toArray ++ news.toArray ++ Builtin.zeroCells z.cells (gc - (xs.length + ys.length))) et ((xs.length + ys.length) * GoT.k α)
  have hst : Stp i g w { m := K6 g.m w.heap.size ((xs.length + ys.length) * GoT.k α), o := K6 g.o w.heap.size i } (w.drew.alloc (.cells (olds.toArray ++ news.toArray ++ Builtin.zeroCells z.cells (gc - (xs.length + ys.length))) et)) :=
   ⟨hst0.os, hst0.tape, hst0.output, ⟨hst0.ch.size, hst0.ch.marks, hst0.ch.cells⟩, hst0.block, hst0.m, hst0.o⟩
  have hcs : (olds.toArray ++ news.toArray ++ Builtin.zeroCells z.cells (gc - (xs.length + ys.length))).size = gc * GoT.k α := by
   simp only [Array.size_append, List.size_toArray, size_zeroCells, hzs, hlo, hl2, ← Nat.add_mul]
   congr 1
   omega
  refine ⟨_, hst, .inr ⟨w.heap.size, gc, _, by rw [List.length_append], Tj _ _ _, by rw [List.length_append]; exact Tj _ _ _, Wd w.drew _, by rw [List.length_append]; exact hge, hcm, hcs⟩,
   Q4 (by rw [List.length_append]) (by rw [List.length_append]; exact hge) fun _ => ⟨w.heap.size, 0, rfl, by simp, ?_, ?_⟩, ⟨⟨hst0.os, hst0.tape, hst0.output, hst0.ch.size, fun b hb => Jn w.drew _ hb⟩, fun b hb => Q1 _ _ (by omega), fun b hb => Q1 _ _ (by omega)⟩⟩
  ·rw [List.length_append, Nat.zero_add]
   exact Nat.le_of_eq (Tj _ _ _).symm
  ·refine ((hfo.append hf2).ch hst.ch).row fun j v hj => ?_
   rw [Nat.zero_add]
   refine (H5 w.drew _ _ _).trans ?_
   rw [Array.getElem?_append_left (by simp; rw [← List.length_append]; exact (List.getElem?_eq_some_iff.1 hj).1)]
   rw [← hj]
   simp
 rcases hos with ⟨hnil, rfl⟩ | ⟨b, c0, cs, hval, hob, hmb, hh, hnc, hcm, hcs⟩
 ·injection hnil with h1 h2 h3
  subst h1; subst h3
  have hrun := run_append_nil (P := P) w t ty et ti z ht hti hz ⟨b2, off2, none⟩ ys.length c' news (by rw [hsz]; exact hl2) hnews hy0 (by simp at hb2; omega) (by simp at h48; omega)
  obtain ⟨g', h1, h2, h3, h4⟩ := grown [] 0 rfl (by simp; omega)
  simp only [List.length_nil, Nat.zero_add, List.nil_append, Array.empty_append] at h1 h2 h3 h4 ⊢
  exact ⟨g', _, _, hrun, h1, h2, h3, fun _ => h4, fun b hb => .inr (Jn w.drew _ hb)⟩
 ·injection hval with h1 h2 h3
  subst h1; subst h3
  have hold : ∃ olds, Tn g.m w xs olds ∧ ∀ j v, olds[j]? = some v → w.cell? ⟨b, 0 + j, none⟩ = some v := by
   rcases Nat.eq_zero_or_pos xs.length with hx0 | hx0
   ·have hxs : xs = [] := List.eq_nil_of_length_eq_zero hx0
    subst hxs
    exact ⟨[], rfl, by simp⟩
   ·obtain ⟨b', off', he, _, _, hrr⟩ := hrowu hx0
    injection he with he
    injection he with he1 he2
    subst he1; subst he2
    exact hrr.flat
  obtain ⟨olds, hfo, hco⟩ := hold
  have hlo := hfo.len
  by_cases hroom : xs.length + ys.length ≤ c
  ·-- in place
   have hkk : (xs.length + ys.length) * GoT.k α ≤ c * GoT.k α := Nat.mul_le_mul_right _ hroom
   have hrun := run_append_room (P := P) w t ty et ti ht hti b xs.length c cs hh ⟨b2, off2, none⟩ ys.length c' news (by rw [hsz]; exact hl2) hnews hf2.one hroom (by rw [hsz, hl2, ← Nat.add_mul, hcs]; exact hkk)
   rw [hsz] at hrun
   have holds : cs.toList.take (xs.length * GoT.k α) = olds := by
    apply List.ext_getElem?
    intro j
    rw [List.getElem?_take]
    split
    ·rename_i hj
     have hj2 : j < olds.length := by rw [hlo]; exact hj
     have := hco j _ (List.getElem?_eq_getElem hj2)
     simp only [World.cell?, hh, Nat.zero_add, Option.isSome_none, Bool.false_eq_true, if_false] at this
     rw [List.getElem?_eq_getElem hj2, ← this, Array.getElem?_toList]
    ·rename_i hj
     rw [List.getElem?_eq_none (by omega)]
   rw [holds] at hrun
   have hfit : olds.length + news.length ≤ cs.size := by rw [hlo, hl2, ← Nat.add_mul, hcs]; exact hkk
   generalize hnc2 : (olds ++ news ++ cs.toList.drop (xs.length * GoT.k α + news.length)).toArray = cs2 at hrun
   have hget : ∀ j, j < olds.length + news.length → cs2[j]? = (olds ++ news)[j]? := fun j hj => by
    rw [← hnc2, List.getElem?_toArray, List.getElem?_append_left (by rw [List.length_append]; exact hj)]
   have hsz2 : cs2.size = c * GoT.k α := by
    rw [← hnc2]; simp only [List.size_toArray, List.length_append, List.length_drop, Array.length_toList]; rw [← hlo]; omega
   have hch : Ch g.m w (K6 g.m b ((xs.length + ys.length) * GoT.k α)) (w.setRow b cs2) := by
    refine ⟨by rw [Kw]; exact Nat.le_refl _, fun b' hb' => ?_, fun b' hb' j hj => ?_⟩
    ·by_cases hbb : b' = b
     ·subst hbb; rw [Tj, hmb]; exact Nat.mul_le_mul_right _ (by omega)
     ·exact Nat.le_of_eq (Q1 _ _ hbb).symm
    ·by_cases hbb : b' = b
     ·subst hbb
      have hjl : j < olds.length := by rw [hlo, ← hmb]; exact hj
      have h1 := hco j _ (List.getElem?_eq_getElem hjl)
      rw [Nat.zero_add] at h1
      rw [h1]
      simp only [World.cell?, Qa _ _ hh, Option.isSome_none, Bool.false_eq_true, if_false]
      rw [hget j (by omega), List.getElem?_append_left hjl, List.getElem?_eq_getElem hjl]
     ·simp only [World.cell?, Qh b cs2 hbb]
   have hst : Stp i g w { m := K6 g.m b ((xs.length + ys.length) * GoT.k α), o := g.o } (w.setRow b cs2) :=
    ⟨rfl, rfl, rfl, hch, fun b' _ hne => Qh b cs2 (fun h => hne (h ▸ hob)), fun b' _ hne => Q1 _ _ (fun h => hne (h ▸ hob)), fun _ _ _ => rfl⟩
   refine ⟨_, _, _, hrun, hst, .inr ⟨b, c, cs2, by rw [List.length_append], hob, by rw [List.length_append]; exact Tj _ _ _, Qa _ _ hh, by rw [List.length_append]; exact hroom, hcm, hsz2⟩,
    Q4 (by rw [List.length_append]) (by rw [List.length_append]; exact hroom) fun _ => ⟨b, 0, rfl, by rw [Kw]; exact Gw hh, ?_, ?_⟩, fun hful => absurd (hful _ _ _ rfl) (by omega), fun b' _ => if hbb : b' = b then .inl ⟨c, by rw [hbb], by rw [hbb, List.length_append]⟩ else .inr (Qh b cs2 hbb)⟩
   ·rw [List.length_append, Nat.zero_add]
    exact Nat.le_of_eq (Tj _ _ _).symm
   ·refine ((hfo.append hf2).ch hch).row fun j v hj => ?_
    have hjl := (List.getElem?_eq_some_iff.1 hj).1
    rw [List.length_append] at hjl
    rw [Nat.zero_add]
    simp only [World.cell?, Qa _ _ hh, Option.isSome_none, Bool.false_eq_true, if_false]
    rw [hget j hjl, hj]
  ·have hrun := run_append_grow (P := P) w t ty et ti z ht hti hz ⟨b, 0, none⟩ xs.length c olds (by rw [hsz]; exact hlo) (fun j v hj => by rw [Wb]; exact hco j v hj) ⟨b2, off2, none⟩ ys.length c' news (by rw [hsz]; exact hl2) hnews (by omega) (by omega) (growslice_fits (by omega) hb1)
   obtain ⟨g', h1, h2, h3, h4⟩ := grown olds c hfo (by omega)
   exact ⟨g', _, _, hrun, h1, h2, h3, fun _ => h4, fun b hb => .inr (Jn w.drew _ hb)⟩

theorem Qd {α : Type} [GoT α] {i : Nat} {t et : TypeId} {z : Value} {bytes : Nat} {xs ys r : List α} {u v : Value}
  (ht : P.underlying t = some (.slice et)) (hinfo : (P.info? et).map (fun i => (i.zero, i.size, i.bytes)) = some (some z, GoT.k α, bytes)) (hzs : z.cells.size = GoT.k α)
  (hx : ev e x = u) (hos : OS i g w et xs u) (hu : RV g.m w xs u) (hy : ev e y = v) (hv : RV g.m w ys v) (hr : apnd bytes xs ys = some r)
  (h : ∀ g' w' v', Stp i g w g' w' → OS i g' w' et r v' → RV g'.m w' r v' → (Hl u → Ext g w g' w') → K v' w') : Doe P (.call { callee := .builtin .append, args := #[x, y], argTypes := #[t, t] }) e w K := fun d ty pos af gd => by
 obtain ⟨ti, hi, hz, hsz, hby⟩ := info_parts hinfo
 subst hby
 obtain ⟨g', w', v', hrun, h1, h2, h3, h4, _⟩ := Bc (P := P) t ty et ti z ht hi hz hsz hzs hos hu hv hr
 have hrun2 : (execOp (ev e) ⟨d, .call { callee := .builtin .append, args := #[x, y], argTypes := #[t, t] }, ty, pos, af, gd⟩).run P w = .ok (.value v') w' := by
  simp only [execOp, resolve, invoke, builtin, Sem.run_bind, Sem.run_pure, Result.andThen_ok, List.map_toArray, List.map_cons, List.map_nil, hx, hy, hrun]
 unfold doE; rw [hrun2]; exact h _ _ _ h1 h2 h3 h4
end
end Go.Proofs.YtmebkoemfjlbcaaGreatDoor
