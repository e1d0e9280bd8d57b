/- Appends of own rows to an own slice of slices. No program is named here. -/
import Derived.Test.YtkmbkaoolacofaaGreatCh
namespace Go.Proofs.YtkmbkaoolacofaaGreat
open Go.RowKit
section
variable {γ : Type} [GoT γ] {E : Ow γ} {P : Program} {m : Nat → Nat} {w : World} {g : Gh} {e : Env} {K : Value → World → Prop} {x y : Operand}
theorem Rows.append : ∀ {ss ss' : List E.S} {xs ys : List γ} {c1 c2 : List Value}, Rows E m w ss xs c1 → Rows E m w ss' ys c2 → Rows E m w (ss ++ ss') (xs ++ ys) (c1 ++ c2)
 | [], _, _, _, _, _, ⟨h1, h2⟩, h => by subst h1; subst h2; exact h
 | _ :: _, _, _, _, _, c2, ⟨x, xs', d1, d2, h1, h2, h3, h4⟩, h => by
  subst h1; subst h2
  exact ⟨x, _, d1, d2 ++ c2, rfl, by rw [List.append_assoc], h3, Rows.append h4 h⟩
theorem append_runW {i j : Nat} (t ty et : TypeId) (ti : TypeInfo) (z : Value) (ht : P.underlying t = some (.slice et)) (hti : P.info? et = some ti) (hz : ti.zero = some z) (hsz : ti.size = GoT.k γ) (hzs : z.cells.size = GoT.k γ)
  {xs ys r : List γ} {s : (Ow.list et E).S} {b2 c2 : Nat} {ss' : List E.S} {u v : Value} (hu : OW (Ow.list et E) i g w xs s u) (ho : (Ow.list et E).ok s) (hv : OW (Ow.list et E) j g w ys (.at b2 c2 ss') v) (ho' : (Ow.list et E).ok (.at b2 c2 ss')) (hy0 : 0 < ys.length) (hij : Nat.beq i j = false) (hr : apnd ti.bytes xs ys = some r) :
  ∃ g1 g' w' v' s2, (Builtin.append_ #[t, t] ty #[u, v]).run P w = .ok v' w' ∧ Stp j g w g1 w ∧ Stp i g1 w g' w' ∧ OW (Ow.list et E) i g' w' r s2 v' ∧ (Ow.list et E).ok s2 := by
 have hne : i ≠ j := fun e => by rw [e] at hij; simp at hij
 unfold apnd at hr
 split at hr
 case isFalse => cases hr
 rename_i hb
 injection hr with hr
 subst hr
 obtain ⟨hb1, hb2⟩ := hb
 have h48 : (xs.length + ys.length) * ti.bytes ≤ 281474976710656 := by omega
 obtain ⟨cv, rfl, ⟨rfl, hlc, hcm2, carr2, hh2, hcs2, hrow2⟩, hv2, hv3⟩ := hv
 obtain ⟨news, hnw⟩ : ∃ news, news = carr2.toList.take (ys.length * GoT.k γ) := ⟨_, rfl⟩
 rw [← hnw] at hrow2
 have hl2 : news.length = ys.length * GoT.k γ := (Rows.len hrow2).2
 have hone2 := Rows.one hrow2
 have hnews : ∀ j v, news[j]? = some v → w.cell? ((⟨b2, 0, none⟩ : Addr).add j) = some v := fun j v hj => by
  rw [addr_add, Nat.zero_add]
  rw [hnw, List.getElem?_take] at hj
  split at hj
  ·simp only [World.cell?, hh2]; simpa using hj
  ·cases hj
 obtain ⟨hv2a, hv2b⟩ := List.nodup_cons.1 hv2
 have htag2 : ∀ c ∈ ss'.flatMap E.bl, g.o c = j ∧ g.m c = 0 := fun c hc => hv3 c (List.mem_cons_of_mem _ hc)
 obtain ⟨g1, hg1⟩ : ∃ g1, g1 = retB (ss'.flatMap E.bl) i g := ⟨_, rfl⟩
 have hst1 : Stp j g w g1 w := hg1 ▸ retB_stp (fun c hc => (htag2 c hc).1) i
 have hm1 : g1.m = g.m := by rw [hg1]; rfl
 have ho1 : ∀ c, (g.o c = i ∨ c ∈ ss'.flatMap E.bl) → g1.o c = i := fun c hc => by
  rw [hg1]; show (if c ∈ ss'.flatMap E.bl then i else g.o c) = i
  split
  ·rfl
  ·rename_i hn; exact hc.resolve_right hn
 have hlt2 := fun c hc => Rows.lt hrow2 c hc
 -- a new block
 have grown : ∀ (so : List E.S) (olds : List Value) (old : Nat), Rows E g.m w so xs olds → (so.flatMap E.bl).Nodup → (∀ c ∈ so.flatMap E.bl, g.o c = i ∧ g.m c = 0) → (∀ q ∈ so, E.ok q) → old < xs.length + ys.length →
   ∃ g', Stp i g1 w g' (w.drew.alloc (.cells (olds.toArray ++ news.toArray ++ Builtin.zeroCells z.cells (grownCap w (xs.length + ys.length) old et - (xs.length + ys.length))) et)) ∧
    OW (Ow.list et E) i g' (w.drew.alloc (.cells (olds.toArray ++ news.toArray ++ Builtin.zeroCells z.cells (grownCap w (xs.length + ys.length) old et - (xs.length + ys.length))) et)) (xs ++ ys) (.at w.heap.size (grownCap w (xs.length + ys.length) old et) (so ++ ss')) (.slice (some ⟨w.heap.size, 0, none⟩) (xs.length + ys.length) (grownCap w (xs.length + ys.length) old et)) ∧ (Ow.list et E).ok (.at w.heap.size (grownCap w (xs.length + ys.length) old et) (so ++ ss')) := by
  intro so olds old hro hnd htag hok hold
  have hlo := (Rows.len hro).2
  have hge := grownCap_ge w (xs.length + ys.length) old et
  have hcm : grownCap w (xs.length + ys.length) old et ≤ maxLen := grownCap_le_maxLen w (xs.length + ys.length) old et (by simp only [maxLen]; omega)
  generalize grownCap w (xs.length + ys.length) old et = gc at hge hcm ⊢
  have hst0 := stp_new i g1 w.drew (olds.toArray ++ news.toArray ++ Builtin.zeroCells z.cells (gc - (xs.length + ys.length))) et 0
  have hst : Stp i g1 w { m := updN g1.m w.heap.size 0, o := updN g1.o w.heap.size i } (w.drew.alloc (.cells (olds.toArray ++ news.toArray ++ Builtin.zeroCells z.cells (gc - (xs.length + ys.length))) et)) :=
   ⟨hst0.os, hst0.tape, hst0.output, ⟨hst0.ch.size, hst0.ch.marks, hst0.ch.cells⟩, hst0.block, hst0.m, hst0.o⟩
  have hcs : (olds.toArray ++ news.toArray ++ Builtin.zeroCells z.cells (gc - (xs.length + ys.length))).size = gc * GoT.k γ := by
   simp only [Array.size_append, List.size_toArray, size_zeroCells, hzs, hlo, hl2, ← Nat.add_mul]
   congr 1
   omega
  have hch : Ch g.m w (updN g1.m w.heap.size 0) (w.drew.alloc (.cells (olds.toArray ++ news.toArray ++ Builtin.zeroCells z.cells (gc - (xs.length + ys.length))) et)) := by rw [← hm1]; exact hst.ch
  have hltO := fun c hc => Rows.lt hro c hc
  have hmem : ∀ c ∈ (so ++ ss').flatMap E.bl, c ∈ so.flatMap E.bl ∨ c ∈ ss'.flatMap E.bl := fun c hc => by rw [List.flatMap_append] at hc; exact List.mem_append.1 hc
  have hltA : ∀ c ∈ (so ++ ss').flatMap E.bl, c < w.heap.size := fun c hc => (hmem c hc).elim (hltO c) (hlt2 c)
  refine ⟨_, hst, ⟨[.slice (some ⟨w.heap.size, 0, none⟩) (xs.length + ys.length) gc], rfl, ⟨by rw [List.length_append], by rw [List.length_append]; exact hge, hcm, _, heap_new_at w.drew _, hcs, ?_⟩, List.nodup_cons.2 ⟨fun h => Nat.lt_irrefl _ (hltA _ h), ?_⟩, fun c hc => ?_⟩, fun q hq => (List.mem_append.1 hq).elim (hok q) (ho' q)⟩
  ·have h3 := Rows.append (Rows.mono hch (fun c hc => heap_old w.drew _ (hltO c hc)) hro) (Rows.mono hch (fun c hc => heap_old w.drew _ (hlt2 c hc)) hrow2)
   have : (olds.toArray ++ news.toArray ++ Builtin.zeroCells z.cells (gc - (xs.length + ys.length))).toList.take ((xs ++ ys).length * GoT.k γ) = olds ++ news := by
    rw [Array.toList_append, Array.toList_append, List.take_append_of_le_length (by simp only [List.length_append, hlo, hl2, ← Nat.add_mul]; exact Nat.le_refl _), List.take_of_length_le (by simp only [List.length_append, hlo, hl2, ← Nat.add_mul]; exact Nat.le_refl _)]
   rw [this]; exact h3
  ·rw [List.flatMap_append]
   refine List.nodup_append.2 ⟨hnd, hv2b, fun c hc d hd he => ?_⟩
   subst he
   exact hne ((htag c hc).1.symm.trans (htag2 c hd).1)
  ·rcases List.mem_cons.1 hc with rfl | hc
   ·exact ⟨updN_same _ _ _, updN_same _ _ _⟩
   ·have hcl := hltA c hc
    refine ⟨(updN_ne _ _ (by omega)).trans (ho1 c ((hmem c hc).imp (fun h => (htag c h).1) id)), (updN_ne _ _ (by omega)).trans ?_⟩
    rw [hm1]
    exact (hmem c hc).elim (fun h => (htag c h).2) (fun h => (htag2 c h).2)
 obtain ⟨cu, rfl, hu1, hu2, hu3⟩ := hu
 cases s with
 | hole => exact ho.elim
 | sh => exact ho.elim
 | nil =>
  obtain ⟨rfl, rfl⟩ := hu1
  have hrun := run_append_nil (P := P) w t ty et ti z ht hti hz ⟨b2, 0, none⟩ ys.length c2 news (by rw [hsz]; exact hl2) hnews hy0 (by simp at hb2; omega) (by simp at h48; omega)
  obtain ⟨g', h1, h2, h3⟩ := grown [] [] 0 ⟨rfl, rfl⟩ List.nodup_nil (fun c hc => by cases hc) (fun q hq => by cases hq) (by simp; omega)
  simp only [List.length_nil, Nat.zero_add, List.nil_append, Array.empty_append] at h1 h2 h3 ⊢
  exact ⟨g1, g', _, _, _, hrun, hst1, h1, h2, h3⟩
 | «at» b c ss =>
  obtain ⟨rfl, hc, hcm, carr, hh, hcs, hrow⟩ := hu1
  obtain ⟨olds, hol⟩ : ∃ olds, olds = carr.toList.take (xs.length * GoT.k γ) := ⟨_, rfl⟩
  rw [← hol] at hrow
  have hlo := (Rows.len hrow).2
  obtain ⟨hu2a, hu2b⟩ := List.nodup_cons.1 hu2
  have htag : ∀ c ∈ ss.flatMap E.bl, g.o c = i ∧ g.m c = 0 := fun c hc => hu3 c (List.mem_cons_of_mem _ hc)
  have htb := hu3 b (by simp [Ow.list])
  have hco : ∀ j v, olds[j]? = some v → w.cell? ((⟨b, 0, none⟩ : Addr).add j) = some v := fun j v hj => by
   rw [addr_add, Nat.zero_add]
   rw [hol, List.getElem?_take] at hj
   split at hj
   ·simp only [World.cell?, hh]; simpa using hj
   ·cases hj
  by_cases hroom : xs.length + ys.length ≤ c
  ·have hkk : (xs.length + ys.length) * GoT.k γ ≤ c * GoT.k γ := Nat.mul_le_mul_right _ hroom
   have hrun := run_append_room (P := P) w t ty et ti ht hti b xs.length c carr hh ⟨b2, 0, none⟩ ys.length c2 news (by rw [hsz]; exact hl2) hnews hone2 hroom (by rw [hsz, hl2, ← Nat.add_mul, hcs]; exact hkk)
   rw [hsz, ← hol] at hrun
   generalize hnc2 : (olds ++ news ++ carr.toList.drop (xs.length * GoT.k γ + news.length)).toArray = cs2 at hrun
   have hsz2 : cs2.size = c * GoT.k γ := by
    rw [← hnc2]; simp only [List.size_toArray, List.length_append, List.length_drop, Array.length_toList]; rw [← hlo, hcs, hl2, hlo, ← Nat.add_mul]; omega
   have hst : Stp i g1 w g1 (w.setRow b cs2) := stp_row hh (ho1 b (.inl htb.1)) fun j hj => by rw [hm1, htb.2] at hj; cases hj
   have hch : Ch g.m w g1.m (w.setRow b cs2) := by rw [← hm1]; exact hst.ch
   have hoth : ∀ c' ∈ ss'.flatMap E.bl, c' ≠ b := fun c' hc' he => by subst he; exact hne (htb.1.symm.trans (htag2 _ hc').1)
   refine ⟨g1, g1, _, _, .at b c (ss ++ ss'), hrun, hst1, hst, ⟨[.slice (some ⟨b, 0, none⟩) (xs.length + ys.length) c], rfl, ⟨by rw [List.length_append], by rw [List.length_append]; exact hroom, hcm, cs2, setRow_cells _ _ hh, hsz2, ?_⟩, List.nodup_cons.2 ⟨fun h => ?_, ?_⟩, fun c' hc' => ?_⟩, fun q hq => (List.mem_append.1 hq).elim (ho q) (ho' q)⟩
   ·have h3 := Rows.append (Rows.mono hch (fun c' hc' => setRow_other b cs2 fun he => hu2a (he ▸ hc')) hrow) (Rows.mono hch (fun c' hc' => setRow_other b cs2 (hoth c' hc')) hrow2)
    have : cs2.toList.take ((xs ++ ys).length * GoT.k γ) = olds ++ news := by
     rw [← hnc2, List.take_append_of_le_length (by simp only [List.length_append, hlo, hl2, ← Nat.add_mul]; exact Nat.le_refl _), List.take_of_length_le (by simp only [List.length_append, hlo, hl2, ← Nat.add_mul]; exact Nat.le_refl _)]
    rw [this]; exact h3
   ·rw [List.flatMap_append] at h
    rcases List.mem_append.1 h with h | h
    ·exact hu2a h
    ·exact hoth b h rfl
   ·rw [List.flatMap_append]
    refine List.nodup_append.2 ⟨hu2b, hv2b, fun c' hc' d hd he => ?_⟩
    subst he
    exact hne ((htag c' hc').1.symm.trans (htag2 c' hd).1)
   ·rw [hm1]
    rcases List.mem_cons.1 hc' with rfl | hc'
    ·exact ⟨ho1 _ (.inl htb.1), htb.2⟩
    ·rw [List.flatMap_append] at hc'
     rcases List.mem_append.1 hc' with h | h
     ·exact ⟨ho1 _ (.inl (htag _ h).1), (htag _ h).2⟩
     ·exact ⟨ho1 _ (.inr h), (htag2 _ h).2⟩
  ·have hrun := run_append_grow (P := P) w t ty et ti z ht hti hz ⟨b, 0, none⟩ xs.length c olds (by rw [hsz]; exact hlo) hco ⟨b2, 0, none⟩ ys.length c2 news (by rw [hsz]; exact hl2) hnews (by omega) (by omega) (growslice_fits (by omega) hb1)
   obtain ⟨g', h1, h2, h3⟩ := grown ss olds c hrow hu2b htag ho (by omega)
   exact ⟨g1, g', _, _, _, hrun, hst1, h1, h2, h3⟩
theorem D_appendW {i j : Nat} {t et : TypeId} {z u v : Value} {bytes : Nat} {xs ys r : List γ} {s : (Ow.list et E).S} {b2 c2 : Nat} {ss' : List E.S} (ht : P.underlying t = some (.slice et)) (hinfo : (P.info? et).map (fun i => (i.zero, i.size, i.bytes)) = some (some z, GoT.k γ, bytes)) (hzs : z.cells.size = GoT.k γ)
  (hx : ev e x = u) (hu : OW (Ow.list et E) i g w xs s u) (ho : (Ow.list et E).ok s) (hy : ev e y = v) (hv : OW (Ow.list et E) j g w ys (.at b2 c2 ss') v) (ho' : (Ow.list et E).ok (.at b2 c2 ss')) (hy0 : 0 < ys.length) (hij : Nat.beq i j = false) (hr : apnd bytes xs ys = some r)
  (h : ∀ g1 g' w' v' s2, Stp j g w g1 w → Stp i g1 w g' w' → OW (Ow.list et E) i g' w' r s2 v' → (Ow.list et E).ok s2 → K v' w') : Doe P (.call { callee := .builtin .append, args := #[x, y], argTypes := #[t, t] }) e w K := fun d ty pos af gd => by
 cases hti : P.info? et with
 | none => rw [hti] at hinfo; cases hinfo
 | some ti =>
  rw [hti] at hinfo
  simp only [Option.map_some, Option.some.injEq, Prod.mk.injEq] at hinfo
  obtain ⟨q1, q2, q3⟩ := hinfo
  subst q3
  obtain ⟨g1, g', w', v', s2, hrun, k1, k2, k3, k4⟩ := append_runW t ty et ti z ht hti q1 q2 hzs hu ho hv ho' hy0 hij hr
  have hrun2 : (execOp (ev e) ⟨d, .call { callee := .builtin .append, args := #[x, y], argTypes := #[t, t] }, ty, pos, af, gd⟩).run P w = .ok (.value v') w' := by
   simp only [execOp, resolve, invoke, builtin, Sem.run_bind, Sem.run_pure, Result.andThen_ok, List.map_toArray, List.map_cons, List.map_nil, hx, hy, hrun]
  unfold doE; rw [hrun2]
  exact h _ _ _ _ _ k1 k2 k3 k4
theorem buildSlice_runW {t et : TypeId} {zv : Value} {k : Nat} (ht : P.underlying t = some (.slice et)) (hs : ∀ w, (sizeOf et).run P w = .ok k w) (hz : ∀ w, (zeroValue et).run P w = .ok zv w) (hzs : zv.cells.size = k) (hk : 0 < k) {vs : List Value} (hfit : ∀ v ∈ vs, v.cells.size = k) (h0 : 0 < vs.length) (hsm : vs.length * k ≤ 16777216) :
  (Instr.buildSlice t vs.length (numbered 0 vs).toArray).run P w = .ok (.slice (some ⟨w.heap.size, 0, none⟩) vs.length vs.length) (w.alloc (.cells (vs.map fun v => v.cells.toList).flatten.toArray et)) := by
 have hfin : Instr.fill (fun i => some (i * k, k)) ((Array.range (vs.length * k)).map (fun i => zv.cells[i % zv.cells.size]!)) (numbered 0 vs) = some (vs.map fun v => v.cells.toList).flatten.toArray := by
  rw [← hzs, zeros_flat zv.cells vs.length]
  have hc : ∀ c ∈ List.replicate vs.length zv.cells.toList, c.length = zv.cells.size := fun c hc => by rw [(List.mem_replicate.1 hc).2]; simp
  have h1 := fill_run (place := fun i => some (i * zv.cells.size, zv.cells.size)) (numbered 0 vs) (List.replicate vs.length zv.cells.toList) (fun i c hi => by rw [placesFrom_const _ 0 i c hc hi, Nat.zero_add])
   (fitCh_numbered (s := zv.cells.size) vs 0 _ (by simp) hc (fun v hv' => by rw [hzs]; exact hfit v hv'))
  rw [h1, setCh_numbered vs 0 _ (by simp)]
  simp
 have h24 : ¬ (vs.length * k > 2 ^ 24) := by omega
 have hne : ¬ vs.length * k = 0 := fun h => by rcases Nat.mul_eq_zero.1 h with h | h <;> omega
 simp only [Instr.buildSlice, Sem.run_bind, run_underlying ht, Result.andThen_ok, hs]
 rw [if_neg h24]
 simp only [if_neg hne, Sem.run_bind, hz, Result.andThen_ok, Sem.run_pure]
 simp only [hfin]
 simp [newRow]
theorem D_buildSliceW {j : Nat} {t et : TypeId} {zv rv : Value} {o : Operand} {a : γ} {s : E.S} (ht : P.underlying t = some (.slice et)) (hs : ∀ w, (sizeOf et).run P w = .ok (GoT.k γ) w) (hz : ∀ w, (zeroValue et).run P w = .ok zv w) (hzs : zv.cells.size = GoT.k γ) (hk : Nat.blt 0 (GoT.k γ) = true) (hsm : Nat.ble (GoT.k γ) 1000000 = true)
  (hx : ev e o = rv) (hrv : OW E j g w a s rv) (hok : E.ok s)
  (h : ∀ g' w' b, Stp j g w g' w' → OW (Ow.list et E) j g' w' [a] (.at b 1 [s]) (.slice (some ⟨b, 0, none⟩) 1 1) → (Ow.list et E).ok (.at b 1 [s]) → K (.slice (some ⟨b, 0, none⟩) 1 1) w') : Doe P (.buildSlice t 1 #[(0, o)]) e w K := fun d ty pos af gd => by
 have hk' : 0 < GoT.k γ := Nat.le_of_ble_eq_true hk
 have hsm' : GoT.k γ ≤ 1000000 := Nat.le_of_ble_eq_true hsm
 have hcl := hrv.cells
 obtain ⟨_, _, _, h2, h3⟩ := hrv
 have hlen := E.len hcl
 have hrun := buildSlice_runW (P := P) (w := w) (vs := [rv]) ht hs hz hzs hk' (fun v hv => by rw [List.mem_singleton.1 hv]; simpa using hlen) (by simp) (by simp; omega)
 have hrun2 : (execOp (ev e) ⟨d, .buildSlice t 1 #[(0, o)], ty, pos, af, gd⟩).run P w = .ok (.value (.slice (some ⟨w.heap.size, 0, none⟩) 1 1)) (w.alloc (.cells rv.cells.toList.toArray et)) := by
  have e1 : (numbered 0 [rv]).toArray = #[(0, rv)] := rfl
  rw [e1] at hrun
  simp only [List.length_singleton, List.map_cons, List.map_nil, List.flatten_cons, List.flatten_nil, List.append_nil] at hrun
  simp only [execOp, List.map_toArray, List.map_cons, List.map_nil, hx, Sem.run_bind, hrun, Result.andThen_ok, Sem.run_pure]
 unfold doE; rw [hrun2]
 have hst := stp_new j g w rv.cells.toList.toArray et 0
 have hlt := fun c hc => E.lt hcl c hc
 refine h _ _ w.heap.size hst ⟨[.slice (some ⟨w.heap.size, 0, none⟩) 1 1], rfl, ⟨rfl, Nat.le_refl _, by simp only [maxLen]; omega, _, heap_new_at _ _, by simpa using hlen, ?_⟩, List.nodup_cons.2 ⟨fun hm => ?_, by simpa using h2⟩, fun c hc => ?_⟩ (fun q hq => by rw [List.mem_singleton.1 hq]; exact hok)
 ·refine ⟨a, [], rv.cells.toList, [], rfl, by simp [List.take_of_length_le, hlen], E.mono hst.ch (fun c hc => heap_old w _ (hlt c hc)) hcl, rfl, rfl⟩
 ·have := hlt w.heap.size (by simpa using hm)
  exact Nat.lt_irrefl _ this
 ·rcases List.mem_cons.1 hc with rfl | hc
  ·exact ⟨updN_same _ _ _, updN_same _ _ _⟩
  ·have hc : c ∈ E.bl s := by simpa using hc
   have := hlt c hc
   exact ⟨(updN_ne _ _ (by omega)).trans (h3 c hc).1, (updN_ne _ _ (by omega)).trans (h3 c hc).2⟩
end
end Go.Proofs.YtkmbkaoolacofaaGreat
/- A region that draws its order, whose changing operations come in one order; some loads come before one of them, the operation M. No program is named here. -/
namespace Go.Proofs.YtkmbkaoolacofaaGreat
open Go.RowKit
section
variable {P : Program} {ops : Array Oper}
def CES (P : Program) (cst : Nat → Option Bool) (L : Bool → World → Prop) (ops : Array Oper) (i : Nat) (o : Oper) (ph : Bool) (K : Env → World → Prop) (e : Env) (w : World) : Prop :=
 if Region.wanted o (yieldE ops e) = true then
  match cst i with
  | some b => ∃ c, (∀ w, L b w → (execOp (ev e) o).run P w = .ok (.value c) w) ∧ K (updO e o.dst c) w
  | none => doE P o e w fun v w' => L ph w' ∧ K (updO e o.dst v) w'
 else K (updO e o.dst undef) w
variable {cst : Nat → Option Bool} {L : Bool → World → Prop} {M : Nat} {Q : Env → World → Prop}
theorem ces_move {j : Nat} {oi oj : Oper} (ap : ApartC ops oi oj) {u : Value} {p1 p2 : Bool} {K1 K2 : Env → World → Prop} {e : Env} {w : World} (hp : cst j = none → p1 = p2) (hk : ∀ v w', K1 (updO (updO e oi.dst u) oj.dst v) w' → K2 (updO e oj.dst v) w') (h : CES P cst L ops j oj p1 K1 (updO e oi.dst u) w) : CES P cst L ops j oj p2 K2 e w := by
 unfold CES at h ⊢
 rw [want_upd ap.cj, exec_upd ap.sj ap.cj] at h
 by_cases hw : Region.wanted oj (yieldE ops e) = true
 ·rw [if_pos hw] at h ⊢
  cases hl : cst j with
  | some b =>
   rw [hl] at h
   obtain ⟨c, h1, h2⟩ := h
   exact ⟨c, h1, hk _ _ h2⟩
  | none =>
   rw [hl] at h
   rw [← hp hl]
   exact doE_mono ((doE_upd ap.sj ap.cj).1 h) fun v w' h2 => ⟨h2.1, hk _ _ h2.2⟩
 ·rw [if_neg hw] at h ⊢
  exact hk _ _ h
def cstOf (late early : List Nat) (k : Nat) : Option Bool := bif late.contains k then some false else bif early.contains k then some true else none
end
theorem LTg.weak {V U : List Nat} {g0 g : Gh} {w0 w : World} (h : LTg V g0 w0 g w) (hu : U.all (fun u => V.contains u) = true) : LTg U g0 w0 g w :=
 ⟨h.1, fun b hb hc => h.2 b hb (by rw [List.all_eq_true] at hu; exact hu _ (by simpa using hc))⟩
theorem LTw.weak {V U : List Nat} {g0 : Gh} {w0 w : World} (h : LTw V g0 w0 w) (hu : U.all (fun u => V.contains u) = true) : LTw U g0 w0 w := let ⟨g, h⟩ := h; ⟨g, h.weak hu⟩
section
variable {P : Program} {ops : Array Oper} {ls es V U : List Nat} {M : Nat} {g0 : Gh} {w0 : World} {Q : Env → World → Prop} {i : Nat} {l : List Nat} {e : Env} {w : World} {op : Op} {ty : TypeId} {pos : String} {af : Array Edge} {gd : Option (Nat × Bool)} {d : Option Tmp}
end
section
variable {α β γ : Type} [GoT α] [GoT γ] {A : Ow α} {E : Ow γ} {P : Program} {x : Operand} {i b b1 off : Nat} {t t2 : TypeId} {a : α} {s : A.S}
end
end Go.Proofs.YtkmbkaoolacofaaGreat
/- A part cut out of an own slice, in place; a slice that an own variable shares. No program is named here. -/
namespace Go.Proofs.YtkmbkaoolacofaaGreat
open Go.RowKit
section
variable {α : Type} [GoT α] {m : Nat → Nat} {w : World}
theorem FlatR.take : ∀ {xs : List α} {cs : List Value} (n : Nat), FlatR m w xs cs → FlatR m w (xs.take n) (cs.take (n * GoT.k α))
 | [], _, n, h => by rw [show _ = [] from h]; simp; exact rfl
 | _ :: _, _, 0, _ => by simp; exact rfl
 | _ :: _, _, n + 1, ⟨c1, c2, he, h1, h2⟩ => by
  subst he
  have hl := GoT.len h1
  have e1 : (n + 1) * GoT.k α = c1.length + n * GoT.k α := by rw [Nat.add_mul, hl]; omega
  rw [List.take_succ_cons, e1, List.take_append, List.take_of_length_le (Nat.le_add_right _ _), Nat.add_sub_cancel_left]
  exact ⟨_, _, rfl, h1, h2.take n⟩
theorem FlatR.drop : ∀ {xs : List α} {cs : List Value} (n : Nat), FlatR m w xs cs → FlatR m w (xs.drop n) (cs.drop (n * GoT.k α))
 | [], _, n, h => by rw [show _ = [] from h]; simp; exact rfl
 | _ :: _, _, 0, h => by simpa using h
 | _ :: _, _, n + 1, ⟨c1, c2, he, h1, h2⟩ => by
  subst he
  have hl := GoT.len h1
  have e1 : (n + 1) * GoT.k α = c1.length + n * GoT.k α := by rw [Nat.add_mul, hl]; omega
  rw [List.drop_succ_cons, e1, List.drop_append, List.drop_of_length_le (Nat.le_add_right _ _), List.nil_append, Nat.add_sub_cancel_left]
  exact h2.drop n
end
section
variable {P : Program} {e : Env} {w : World} {g : Gh} {K : Value → World → Prop} {x y z : Operand}
theorem D_loadSh {α γ : Type} [GoT α] [GoT γ] {A : Ow α} {E : Ow γ} {i b b1 off : Nat} {t t2 : TypeId} {a : α} {s : A.S} {et : TypeId} {st : List γ → α} {put : (Ow.list et E).S → A.S} {ys : List γ} (c : Cxt A b (Ow.list et E) st b1 off put) (hx : st ys = a) (hs : put (.sh : Sl E.S) = s)
  (ha : ∀ w, (isAgg t).run P w = .ok false w) (hsz : ∀ w, (sizeOf t).run P w = .ok 1 w) (hp : ev e x = .pointer (some ⟨b1, off, none⟩)) (h : OV A i g w t2 a b s) (k : ∀ v, RV g.m w ys v → K v w) : Doe P (.load t x) e w K := fun d ty pos af gd => by
 subst hx; subst hs
 obtain ⟨carr, et', cs, h1, h2, h3⟩ := (c.rd h.loc).cellsAt
 have h2 : GoT.rep g.m w ys cs := h2
 have hrun : (execOp (ev e) ⟨d, .load t x, ty, pos, af, gd⟩).run P w = .ok (.value (toV (GoT.agg (List γ)) cs)) w := by
  simp [execOp, hp, Instr.loadAt, Instr.sureAddr, Result.andThen, loadVar_run ha hsz h2 h3]
 unfold doE; rw [hrun]; exact k _ ⟨cs, h2, rfl⟩
theorem L_loadSh {α γ : Type} [GoT α] [GoT γ] {A : Ow α} {E : Ow γ} {i b b1 off : Nat} {t t2 : TypeId} {a : α} {s : A.S} {et : TypeId} {g0 : Gh} {w0 : World} {x : Operand} {st : List γ → α} {put : (Ow.list et E).S → A.S} {ys : List γ} {Kp : Prop} (c : Cxt A b (Ow.list et E) st b1 off put) (hx : st ys = a) (hs : put (.sh : Sl E.S) = s)
  (ha : ∀ w, (isAgg t).run P w = .ok false w) (hsz : ∀ w, (sizeOf t).run P w = .ok 1 w) (h : OV A i g0 w0 t2 a b s)
  (k : ∀ v, RV g0.m w0 ys v → (∀ (e : Env) (g : Gh) (w : World), (Ch g0.m w0 g.m w ∧ ∀ b, b < w0.heap.size → g0.o b = i → w.heap[b]? = w0.heap[b]?) → ev e x = .pointer (some ⟨b1, off, none⟩) → ∀ d ty pos af gd, (execOp (ev e) ⟨d, .load t x, ty, pos, af, gd⟩).run P w = .ok (.value v) w) → Kp) : Kp := by
 subst hx; subst hs
 obtain ⟨carr, et1, cs, h1, h2, h3⟩ := c.rd h.loc
 have h2 : GoT.rep g0.m w0 ys cs := h2
 refine k (toV (GoT.agg (List γ)) cs) ⟨cs, h2, rfl⟩ fun e g w hl he d ty pos af gd => ?_
 obtain ⟨carr', et', cs', g1, g2, g3⟩ := c.rd (h.late hl)
 have g2 : GoT.rep g.m w ys cs' := g2
 have hblk : w.heap[b1]? = w0.heap[b1]? := by
  obtain ⟨_, q1, _, q3, q4, _, q6⟩ := h
  rcases c.mem (.sh : Sl E.S) with e1 | e1
  ·rw [e1]; exact hl.2 b (lt_of_heap q3) q1
  ·exact hl.2 b1 (lt_of_heap h1) (q6 b1 e1).1
 rw [hblk, h1] at g1
 injection g1 with g1; injection g1 with g1 _; subst g1
 have hcs : cs' = cs := by
  have e1 := GoT.len h2; have e2 := GoT.len g2
  refine List.ext_getElem (by omega) fun j q1 q2 => ?_
  have a1 := h3 j _ (List.getElem?_eq_getElem q2)
  have a2 := g3 j _ (List.getElem?_eq_getElem q1)
  rw [a1] at a2; exact (Option.some.inj a2).symm
 subst hcs
 have hcell : ∀ j c, cs'[j]? = some c → w.cell? ⟨b1, off + j, none⟩ = some c := fun j c hj => by
  have := h3 j c hj
  simp only [World.cell?, hblk, h1]; simpa using this
 simp [execOp, he, Instr.loadAt, Instr.sureAddr, loadVar_run ha hsz g2 hcell]
end
end Go.Proofs.YtkmbkaoolacofaaGreat
