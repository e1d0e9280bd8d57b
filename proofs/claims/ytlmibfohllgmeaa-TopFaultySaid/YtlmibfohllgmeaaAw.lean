/- Appends of own rows to an own slice of slices. No program is named here. -/
import Derived.Test.YtlmibfohllgmeaaCh
namespace Go.Proofs.Ytlmibfohllgmeaa
open Go.RowKit
section
variable {γ : Type} [GoT γ] {E : Ow γ} {P : Program} {m : Nat → Nat} {w : World} {g : Gh} {e : Env} {K : Value → World → Prop} {x y : Operand}
theorem Rows.append : ∀ {ss ss' : List E.S} {xs ys : List γ} {c1 c2 : List Value}, Rows E m w ss xs c1 → Rows E m w ss' ys c2 → Rows E m w (ss ++ ss') (xs ++ ys) (c1 ++ c2)
 | [], _, _, _, _, _, ⟨h1, h2⟩, h => by subst h1; subst h2; exact h
 | _ :: _, _, _, _, _, c2, ⟨x, xs', d1, d2, h1, h2, h3, h4⟩, h => by
  subst h1; subst h2
  exact ⟨x, _, d1, d2 ++ c2, rfl, by rw [List.append_assoc], h3, Rows.append h4 h⟩
theorem Ph {i j : Nat} (t ty et : TypeId) (ti : TypeInfo) (z : Value) (ht : P.underlying t = some (.slice et)) (hti : P.info? et = some ti) (hz : ti.zero = some z) (hsz : ti.size = GoT.k γ) (hzs : z.cells.size = GoT.k γ)
  {xs ys r : List γ} {s : (Ow.list et E).S} {b2 c2 : Nat} {ss' : List E.S} {u v : Value} (hu : OW (Ow.list et E) i g w xs s u) (ho : (Ow.list et E).ok s) (hv : OW (Ow.list et E) j g w ys (.at b2 c2 ss') v) (ho' : (Ow.list et E).ok (.at b2 c2 ss')) (hy0 : 0 < ys.length) (hij : Nat.beq i j = false) (hr : apnd ti.bytes xs ys = some r) :
  ∃ g1 g' w' v' s2, (Builtin.append_ #[t, t] ty #[u, v]).run P w = .ok v' w' ∧ Stp j g w g1 w ∧ Stp i g1 w g' w' ∧ OW (Ow.list et E) i g' w' r s2 v' ∧ (Ow.list et E).ok s2 := by
 have hne : i ≠ j := fun e => by rw [e] at hij; simp at hij
 unfold apnd at hr
 split at hr
 case isFalse => cases hr
 rename_i hb
 injection hr with hr
 subst hr
 obtain ⟨hb1, hb2⟩ := hb
 have h48 : (xs.length + ys.length) * ti.bytes ≤ 281474976710656 := by omega
 obtain ⟨cv, rfl, ⟨rfl, hlc, hcm2, carr2, hh2, hcs2, hrow2⟩, hv2, hv3⟩ := hv
 obtain ⟨news, hnw⟩ : ∃ news, news = carr2.toList.take (ys.length * GoT.k γ) := ⟨_, rfl⟩
 rw [← hnw] at hrow2
 have hl2 : news.length = ys.length * GoT.k γ := (Rows.len hrow2).2
 have hone2 := Rows.one hrow2
 have hnews : ∀ j v, news[j]? = some v → w.cell? ((⟨b2, 0, none⟩ : Addr).add j) = some v := fun j v hj => by
  rw [Wo, Nat.zero_add]
  rw [hnw, List.getElem?_take] at hj
  split at hj
  ·simp only [World.cell?, hh2]; simpa using hj
  ·cases hj
 obtain ⟨hv2a, hv2b⟩ := List.nodup_cons.1 hv2
 have htag2 : ∀ c ∈ ss'.flatMap E.bl, g.o c = j ∧ g.m c = 0 := fun c hc => hv3 c (List.mem_cons_of_mem _ hc)
 obtain ⟨g1, hg1⟩ : ∃ g1, g1 = retB (ss'.flatMap E.bl) i g := ⟨_, rfl⟩
 have hst1 : Stp j g w g1 w := hg1 ▸ Cm (fun c hc => (htag2 c hc).1) i
 have hm1 : g1.m = g.m := by rw [hg1]; rfl
 have ho1 : ∀ c, (g.o c = i ∨ c ∈ ss'.flatMap E.bl) → g1.o c = i := fun c hc => by
  rw [hg1]; show (if c ∈ ss'.flatMap E.bl then i else g.o c) = i
  split
  ·rfl
  ·rename_i hn; exact hc.resolve_right hn
 have hlt2 := fun c hc => Rows.lt hrow2 c hc
 -- a new block
 have grown : ∀ (so : List E.S) (olds : List Value) (old : Nat), Rows E g.m w so xs olds → (so.flatMap E.bl).Nodup → (∀ c ∈ so.flatMap E.bl, g.o c = i ∧ g.m c = 0) → (∀ q ∈ so, E.ok q) → old < xs.length + ys.length →
   ∃ g', Stp i g1 w g' (w.drew.alloc (.cells (olds.toArray ++ news.toArray ++ Builtin.zeroCells z.cells (grownCap w (xs.length + ys.length) old et - (xs.length + ys.length))) et)) ∧
    OW (Ow.list et E) i g' (w.drew.alloc (.cells (olds.toArray ++ news.toArray ++ Builtin.zeroCells z.cells (grownCap w (xs.length + ys.length) old et - (xs.length + ys.length))) et)) (xs ++ ys) (.at w.heap.size (grownCap w (xs.length + ys.length) old et) (so ++ ss')) (.slice (some ⟨w.heap.size, 0, none⟩) (xs.length + ys.length) (grownCap w (xs.length + ys.length) old et)) ∧ (Ow.list et E).ok (.at w.heap.size (grownCap w (xs.length + ys.length) old et) (so ++ ss')) := by
  intro so olds old hro hnd htag hok hold
  have hlo := (Rows.len hro).2
  have hge := grownCap_ge w (xs.length + ys.length) old et
  have hcm : grownCap w (xs.length + ys.length) old et ≤ maxLen := grownCap_le_maxLen w (xs.length + ys.length) old et (by simp only [maxLen]; omega)
  generalize grownCap w (xs.length + ys.length) old et = gc at hge hcm ⊢
  have hst0 := Yb i g1 w.drew (olds.toArray ++ news.toArray ++ Builtin.zeroCells z.cells (gc - (xs.length + ys.length))) et 0
  have hst : Stp i g1 w { m := Wx g1.m w.heap.size 0, o := Wx g1.o w.heap.size i } (w.drew.alloc (.cells (olds.toArray ++ news.toArray ++ Builtin.zeroCells z.cells (gc - (xs.length + ys.length))) et)) :=
   ⟨hst0.os, hst0.tape, hst0.output, ⟨hst0.ch.size, hst0.ch.marks, hst0.ch.cells⟩, hst0.block, hst0.m, hst0.o⟩
  have hcs : (olds.toArray ++ news.toArray ++ Builtin.zeroCells z.cells (gc - (xs.length + ys.length))).size = gc * GoT.k γ := by
   simp only [Array.size_append, List.size_toArray, size_zeroCells, hzs, hlo, hl2, ← Nat.add_mul]
   congr 1
   omega
  have hch : Ch g.m w (Wx g1.m w.heap.size 0) (w.drew.alloc (.cells (olds.toArray ++ news.toArray ++ Builtin.zeroCells z.cells (gc - (xs.length + ys.length))) et)) := by rw [← hm1]; exact hst.ch
  have hltO := fun c hc => Rows.lt hro c hc
  have hmem : ∀ c ∈ (so ++ ss').flatMap E.bl, c ∈ so.flatMap E.bl ∨ c ∈ ss'.flatMap E.bl := fun c hc => by rw [List.flatMap_append] at hc; exact List.mem_append.1 hc
  have hltA : ∀ c ∈ (so ++ ss').flatMap E.bl, c < w.heap.size := fun c hc => (hmem c hc).elim (hltO c) (hlt2 c)
  refine ⟨_, hst, ⟨[.slice (some ⟨w.heap.size, 0, none⟩) (xs.length + ys.length) gc], rfl, ⟨by rw [List.length_append], by rw [List.length_append]; exact hge, hcm, _, Wk w.drew _, hcs, ?_⟩, List.nodup_cons.2 ⟨fun h => Nat.lt_irrefl _ (hltA _ h), ?_⟩, fun c hc => ?_⟩, fun q hq => (List.mem_append.1 hq).elim (hok q) (ho' q)⟩
  ·have h3 := Rows.append (Rows.mono hch (fun c hc => Ut w.drew _ (hltO c hc)) hro) (Rows.mono hch (fun c hc => Ut w.drew _ (hlt2 c hc)) hrow2)
   have : (olds.toArray ++ news.toArray ++ Builtin.zeroCells z.cells (gc - (xs.length + ys.length))).toList.take ((xs ++ ys).length * GoT.k γ) = olds ++ news := by
    rw [Array.toList_append, Array.toList_append, List.take_append_of_le_length (by simp only [List.length_append, hlo, hl2, ← Nat.add_mul]; exact Nat.le_refl _), List.take_of_length_le (by simp only [List.length_append, hlo, hl2, ← Nat.add_mul]; exact Nat.le_refl _)]
   rw [this]; exact h3
  ·rw [List.flatMap_append]
   refine List.nodup_append.2 ⟨hnd, hv2b, fun c hc d hd he => ?_⟩
   subst he
   exact hne ((htag c hc).1.symm.trans (htag2 c hd).1)
  ·rcases List.mem_cons.1 hc with rfl | hc
   ·exact ⟨Tw _ _ _, Tw _ _ _⟩
   ·have hcl := hltA c hc
    refine ⟨(Qx _ _ (by omega)).trans (ho1 c ((hmem c hc).imp (fun h => (htag c h).1) id)), (Qx _ _ (by omega)).trans ?_⟩
    rw [hm1]
    exact (hmem c hc).elim (fun h => (htag c h).2) (fun h => (htag2 c h).2)
 obtain ⟨cu, rfl, hu1, hu2, hu3⟩ := hu
 cases s with
 | hole => exact ho.elim
 | sh => exact ho.elim
 | nil =>
  obtain ⟨rfl, rfl⟩ := hu1
  have hrun := run_append_nil (P := P) w t ty et ti z ht hti hz ⟨b2, 0, none⟩ ys.length c2 news (by rw [hsz]; exact hl2) hnews hy0 (by simp at hb2; omega) (by simp at h48; omega)
  obtain ⟨g', h1, h2, h3⟩ := grown [] [] 0 ⟨rfl, rfl⟩ List.nodup_nil (fun c hc => by cases hc) (fun q hq => by cases hq) (by simp; omega)
  simp only [List.length_nil, Nat.zero_add, List.nil_append, Array.empty_append] at h1 h2 h3 ⊢
  exact ⟨g1, g', _, _, _, hrun, hst1, h1, h2, h3⟩
 | «at» b c ss =>
  obtain ⟨rfl, hc, hcm, carr, hh, hcs, hrow⟩ := hu1
  obtain ⟨olds, hol⟩ : ∃ olds, olds = carr.toList.take (xs.length * GoT.k γ) := ⟨_, rfl⟩
  rw [← hol] at hrow
  have hlo := (Rows.len hrow).2
  obtain ⟨hu2a, hu2b⟩ := List.nodup_cons.1 hu2
  have htag : ∀ c ∈ ss.flatMap E.bl, g.o c = i ∧ g.m c = 0 := fun c hc => hu3 c (List.mem_cons_of_mem _ hc)
  have htb := hu3 b (by simp [Ow.list])
  have hco : ∀ j v, olds[j]? = some v → w.cell? ((⟨b, 0, none⟩ : Addr).add j) = some v := fun j v hj => by
   rw [Wo, Nat.zero_add]
   rw [hol, List.getElem?_take] at hj
   split at hj
   ·simp only [World.cell?, hh]; simpa using hj
   ·cases hj
  by_cases hroom : xs.length + ys.length ≤ c
  ·have hkk : (xs.length + ys.length) * GoT.k γ ≤ c * GoT.k γ := Nat.mul_le_mul_right _ hroom
   have hrun := run_append_room (P := P) w t ty et ti ht hti b xs.length c carr hh ⟨b2, 0, none⟩ ys.length c2 news (by rw [hsz]; exact hl2) hnews hone2 hroom (by rw [hsz, hl2, ← Nat.add_mul, hcs]; exact hkk)
   rw [hsz, ← hol] at hrun
   generalize hnc2 : (olds ++ news ++ carr.toList.drop (xs.length * GoT.k γ + news.length)).toArray = cs2 at hrun
   have hsz2 : cs2.size = c * GoT.k γ := by
    rw [← hnc2]; simp only [List.size_toArray, List.length_append, List.length_drop, Array.length_toList]; rw [← hlo, hcs, hl2, hlo, ← Nat.add_mul]; omega
   have hst : Stp i g1 w g1 (w.setRow b cs2) := Sw hh (ho1 b (.inl htb.1)) fun j hj => by rw [hm1, htb.2] at hj; cases hj
   have hch : Ch g.m w g1.m (w.setRow b cs2) := by rw [← hm1]; exact hst.ch
   have hoth : ∀ c' ∈ ss'.flatMap E.bl, c' ≠ b := fun c' hc' he => by subst he; exact hne (htb.1.symm.trans (htag2 _ hc').1)
   refine ⟨g1, g1, _, _, .at b c (ss ++ ss'), hrun, hst1, hst, ⟨[.slice (some ⟨b, 0, none⟩) (xs.length + ys.length) c], rfl, ⟨by rw [List.length_append], by rw [List.length_append]; exact hroom, hcm, cs2, Wc _ _ hh, hsz2, ?_⟩, List.nodup_cons.2 ⟨fun h => ?_, ?_⟩, fun c' hc' => ?_⟩, fun q hq => (List.mem_append.1 hq).elim (ho q) (ho' q)⟩
   ·have h3 := Rows.append (Rows.mono hch (fun c' hc' => We b cs2 fun he => hu2a (he ▸ hc')) hrow) (Rows.mono hch (fun c' hc' => We b cs2 (hoth c' hc')) hrow2)
    have : cs2.toList.take ((xs ++ ys).length * GoT.k γ) = olds ++ news := by
     rw [← hnc2, List.take_append_of_le_length (by simp only [List.length_append, hlo, hl2, ← Nat.add_mul]; exact Nat.le_refl _), List.take_of_length_le (by simp only [List.length_append, hlo, hl2, ← Nat.add_mul]; exact Nat.le_refl _)]
    rw [this]; exact h3
   ·rw [List.flatMap_append] at h
    rcases List.mem_append.1 h with h | h
    ·exact hu2a h
    ·exact hoth b h rfl
   ·rw [List.flatMap_append]
    refine List.nodup_append.2 ⟨hu2b, hv2b, fun c' hc' d hd he => ?_⟩
    subst he
    exact hne ((htag c' hc').1.symm.trans (htag2 c' hd).1)
   ·rw [hm1]
    rcases List.mem_cons.1 hc' with rfl | hc'
    ·exact ⟨ho1 _ (.inl htb.1), htb.2⟩
    ·rw [List.flatMap_append] at hc'
     rcases List.mem_append.1 hc' with h | h
     ·exact ⟨ho1 _ (.inl (htag _ h).1), (htag _ h).2⟩
     ·exact ⟨ho1 _ (.inr h), (htag2 _ h).2⟩
  ·have hrun := run_append_grow (P := P) w t ty et ti z ht hti hz ⟨b, 0, none⟩ xs.length c olds (by rw [hsz]; exact hlo) hco ⟨b2, 0, none⟩ ys.length c2 news (by rw [hsz]; exact hl2) hnews (by omega) (by omega) (growslice_fits (by omega) hb1)
   obtain ⟨g', h1, h2, h3⟩ := grown ss olds c hrow hu2b htag ho (by omega)
   exact ⟨g1, g', _, _, _, hrun, hst1, h1, h2, h3⟩
theorem Nl {i j : Nat} {t et : TypeId} {z u v : Value} {bytes : Nat} {xs ys r : List γ} {s : (Ow.list et E).S} {b2 c2 : Nat} {ss' : List E.S} (ht : P.underlying t = some (.slice et)) (hinfo : (P.info? et).map (fun i => (i.zero, i.size, i.bytes)) = some (some z, GoT.k γ, bytes)) (hzs : z.cells.size = GoT.k γ)
  (hx : ev e x = u) (hu : OW (Ow.list et E) i g w xs s u) (ho : (Ow.list et E).ok s) (hy : ev e y = v) (hv : OW (Ow.list et E) j g w ys (.at b2 c2 ss') v) (ho' : (Ow.list et E).ok (.at b2 c2 ss')) (hy0 : 0 < ys.length) (hij : Nat.beq i j = false) (hr : apnd bytes xs ys = some r)
  (h : ∀ g1 g' w' v' s2, Stp j g w g1 w → Stp i g1 w g' w' → OW (Ow.list et E) i g' w' r s2 v' → (Ow.list et E).ok s2 → K v' w') : Doe P (.call { callee := .builtin .append, args := #[x, y], argTypes := #[t, t] }) e w K := fun d ty pos af gd => by
 cases hti : P.info? et with
 | none => rw [hti] at hinfo; cases hinfo
 | some ti =>
  rw [hti] at hinfo
  simp only [Option.map_some, Option.some.injEq, Prod.mk.injEq] at hinfo
  obtain ⟨q1, q2, q3⟩ := hinfo
  subst q3
  obtain ⟨g1, g', w', v', s2, hrun, k1, k2, k3, k4⟩ := Ph t ty et ti z ht hti q1 q2 hzs hu ho hv ho' hy0 hij hr
  have hrun2 : (execOp (ev e) ⟨d, .call { callee := .builtin .append, args := #[x, y], argTypes := #[t, t] }, ty, pos, af, gd⟩).run P w = .ok (.value v') w' := by
   simp only [execOp, resolve, invoke, builtin, Sem.run_bind, Sem.run_pure, Result.andThen_ok, List.map_toArray, List.map_cons, List.map_nil, hx, hy, hrun]
  unfold doE; rw [hrun2]
  exact h _ _ _ _ _ k1 k2 k3 k4
end
end Go.Proofs.Ytlmibfohllgmeaa
