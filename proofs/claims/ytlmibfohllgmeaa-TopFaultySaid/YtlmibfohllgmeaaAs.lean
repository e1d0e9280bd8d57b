/- Appends to a slice that lies in an own variable, in regions that draw their order. No program is named here. -/
import Derived.Test.YtlmibfohllgmeaaOz
namespace Go.Proofs.Ytlmibfohllgmeaa
open Go.RowKit

def DetR (α : Type) [GoT α] : Prop := ∀ (m m' : Nat → Nat) (w w' : World) (x : α) (cs cs' : List Value), GoT.rep m w x cs → GoT.rep m' w' x cs' → cs = cs'
theorem det_int : DetR Int := fun _ _ _ _ _ _ _ h h' => Eq.trans (show _ = _ from h) (show _ = _ from h').symm
theorem Qf.det {α : Type} [GoT α] (hd : DetR α) {m m' : Nat → Nat} {w w' : World} : ∀ {xs : List α} {cs cs' : List Value}, Qf m w xs cs → Qf m' w' xs cs' → cs = cs'
 | [], _, _, h, h' => Eq.trans (show _ = _ from h) (show _ = _ from h').symm
 | _ :: _, _, _, ⟨c1, c2, h1, h2, h3⟩, ⟨d1, d2, k1, k2, k3⟩ => by rw [h1, k1, hd _ _ _ _ _ _ _ h2 k2, Qf.det hd h3 k3]
section
variable {P : Program} {e : Env} {w : World} {g : Gh} {K : Value → World → Prop} {x y : Operand}
theorem Pj {α : Type} [GoT α] {i : Nat} (t ty et : TypeId) (ti : TypeInfo) (z : Value) (ht : P.underlying t = some (.slice et)) (hti : P.info? et = some ti) (hz : ti.zero = some z) (hsz : ti.size = GoT.k α)
  (hzs : z.cells.size = GoT.k α) {xs ys r : List α} {u v : Value} (hos : OS i g w et xs u) (hu : RV g.m w xs u) (hv : RV g.m w ys v) (hr : apnd ti.bytes xs ys = some r) :
  ∃ g' w' v', (Builtin.append_ #[t, t] ty #[u, v]).run P w = .ok v' w' ∧ Stp i g w g' w' ∧ OS i g' w' et r v' ∧ RV g'.m w' r v' ∧ (Ext g w g' w' ∨ ∃ b c cs2, u = .slice (some ⟨b, 0, none⟩) xs.length c ∧ v' = .slice (some ⟨b, 0, none⟩) r.length c ∧ xs.length < r.length ∧ g' = { m := Wx g.m b (r.length * GoT.k α), o := g.o } ∧ w' = w.setRow b cs2) := by
 unfold apnd at hr
 split at hr
 case isFalse => cases hr
 rename_i hb
 injection hr with hr
 subst hr
 obtain ⟨hb1, hb2⟩ := hb
 obtain ⟨a, c', rfl, hc', hrow⟩ := Km hv
 obtain ⟨s, c, rfl, hc, hrowu⟩ := Km hu
 rcases Nat.eq_zero_or_pos ys.length with hy0 | hy0
 ·-- nothing is appended
  have hys : ys = [] := List.eq_nil_of_length_eq_zero hy0
  subst hys
  refine ⟨g, w, .slice s xs.length c, ?_, ⟨rfl, rfl, rfl, Ch.refl _ _, fun _ _ _ => rfl, fun _ _ _ => rfl, fun _ _ _ => rfl⟩, by rw [List.append_nil]; exact hos, by rw [List.append_nil]; exact hu, .inl ⟨Below.refl _ _, fun _ _ => rfl, fun _ _ => rfl⟩⟩
  exact Yh t ty et ti ht hti s _ _ hc a c'
 obtain ⟨b2, off2, rfl, hlt2, hm2, hrow2⟩ := hrow hy0
 obtain ⟨news, hf2, hcell2⟩ := hrow2.flat
 have hl2 := hf2.len
 have hnews : ∀ j v, news[j]? = some v → w.cell? ((⟨b2, off2, none⟩ : Addr).add j) = some v := fun j v hj => by rw [Wo]; exact hcell2 j v hj
 have h48 : (xs.length + ys.length) * ti.bytes ≤ 281474976710656 := by omega
 -- a new block
 have grown : ∀ (olds : List Value) (old : Nat), Qf g.m w xs olds → old < xs.length + ys.length →
   ∃ g', Stp i g w g' (w.drew.alloc (.cells (olds.toArray ++ news.toArray ++ Builtin.zeroCells z.cells (grownCap w (xs.length + ys.length) old et - (xs.length + ys.length))) et)) ∧
    OS i g' (w.drew.alloc (.cells (olds.toArray ++ news.toArray ++ Builtin.zeroCells z.cells (grownCap w (xs.length + ys.length) old et - (xs.length + ys.length))) et)) et (xs ++ ys) (.slice (some ⟨w.heap.size, 0, none⟩) (xs.length + ys.length) (grownCap w (xs.length + ys.length) old et)) ∧
    RV g'.m (w.drew.alloc (.cells (olds.toArray ++ news.toArray ++ Builtin.zeroCells z.cells (grownCap w (xs.length + ys.length) old et - (xs.length + ys.length))) et)) (xs ++ ys) (.slice (some ⟨w.heap.size, 0, none⟩) (xs.length + ys.length) (grownCap w (xs.length + ys.length) old et)) ∧
    Ext g w g' (w.drew.alloc (.cells (olds.toArray ++ news.toArray ++ Builtin.zeroCells z.cells (grownCap w (xs.length + ys.length) old et - (xs.length + ys.length))) et)) := by
  intro olds old hfo ho
  have hlo := hfo.len
  have hge := grownCap_ge w (xs.length + ys.length) old et
  have hcm : grownCap w (xs.length + ys.length) old et ≤ maxLen := grownCap_le_maxLen w (xs.length + ys.length) old et (by simp only [maxLen]; omega)
  generalize grownCap w (xs.length + ys.length) old et = gc at hge hcm ⊢
  have hst0 := Yb i g w.drew (olds.toArray ++ news.toArray ++ Builtin.zeroCells z.cells (gc - (xs.length + ys.length))) et ((xs.length + ys.length) * GoT.k α)
  have hst : Stp i g w { m := Wx g.m w.heap.size ((xs.length + ys.length) * GoT.k α), o := Wx g.o w.heap.size i } (w.drew.alloc (.cells (olds.toArray ++ news.toArray ++ Builtin.zeroCells z.cells (gc - (xs.length + ys.length))) et)) :=
   ⟨hst0.os, hst0.tape, hst0.output, ⟨hst0.ch.size, hst0.ch.marks, hst0.ch.cells⟩, hst0.block, hst0.m, hst0.o⟩
  have hcs : (olds.toArray ++ news.toArray ++ Builtin.zeroCells z.cells (gc - (xs.length + ys.length))).size = gc * GoT.k α := by
   simp only [Array.size_append, List.size_toArray, size_zeroCells, hzs, hlo, hl2, ← Nat.add_mul]
   congr 1
   omega
  refine ⟨_, hst, .inr ⟨w.heap.size, gc, _, by rw [List.length_append], Tw _ _ _, by rw [List.length_append]; exact Tw _ _ _, Wk w.drew _, by rw [List.length_append]; exact hge, hcm, hcs⟩,
   Kh (by rw [List.length_append]) (by rw [List.length_append]; exact hge) fun _ => ⟨w.heap.size, 0, rfl, by simp, ?_, ?_⟩, ⟨⟨hst0.os, hst0.tape, hst0.output, hst0.ch.size, fun b hb => Ut w.drew _ hb⟩, fun b hb => Qx _ _ (by omega), fun b hb => Qx _ _ (by omega)⟩⟩
  ·rw [List.length_append, Nat.zero_add]
   exact Nat.le_of_eq (Tw _ _ _).symm
  ·refine ((hfo.append hf2).ch hst.ch).row fun j v hj => ?_
   rw [Nat.zero_add]
   refine (Uc w.drew _ _ _).trans ?_
   rw [Array.getElem?_append_left (by simp; rw [← List.length_append]; exact (List.getElem?_eq_some_iff.1 hj).1)]
   rw [← hj]
   simp
 rcases hos with ⟨hnil, rfl⟩ | ⟨b, c0, cs, hval, hob, hmb, hh, hnc, hcm, hcs⟩
 ·injection hnil with h1 h2 h3
  subst h1; subst h3
  have hrun := run_append_nil (P := P) w t ty et ti z ht hti hz ⟨b2, off2, none⟩ ys.length c' news (by rw [hsz]; exact hl2) hnews hy0 (by simp at hb2; omega) (by simp at h48; omega)
  obtain ⟨g', h1, h2, h3, h4⟩ := grown [] 0 rfl (by simp; omega)
  simp only [List.length_nil, Nat.zero_add, List.nil_append, Array.empty_append] at h1 h2 h3 h4 ⊢
  exact ⟨g', _, _, hrun, h1, h2, h3, .inl h4⟩
 ·injection hval with h1 h2 h3
  subst h1; subst h3
  have hold : ∃ olds, Qf g.m w xs olds ∧ ∀ j v, olds[j]? = some v → w.cell? ⟨b, 0 + j, none⟩ = some v := by
   rcases Nat.eq_zero_or_pos xs.length with hx0 | hx0
   ·have hxs : xs = [] := List.eq_nil_of_length_eq_zero hx0
    subst hxs
    exact ⟨[], rfl, by simp⟩
   ·obtain ⟨b', off', he, _, _, hrr⟩ := hrowu hx0
    injection he with he
    injection he with he1 he2
    subst he1; subst he2
    exact hrr.flat
  obtain ⟨olds, hfo, hco⟩ := hold
  have hlo := hfo.len
  by_cases hroom : xs.length + ys.length ≤ c
  ·-- in place
   have hkk : (xs.length + ys.length) * GoT.k α ≤ c * GoT.k α := Nat.mul_le_mul_right _ hroom
   have hrun := run_append_room (P := P) w t ty et ti ht hti b xs.length c cs hh ⟨b2, off2, none⟩ ys.length c' news (by rw [hsz]; exact hl2) hnews hf2.one hroom (by rw [hsz, hl2, ← Nat.add_mul, hcs]; exact hkk)
   rw [hsz] at hrun
   have holds : cs.toList.take (xs.length * GoT.k α) = olds := by
    apply List.ext_getElem?
    intro j
    rw [List.getElem?_take]
    split
    ·rename_i hj
     have hj2 : j < olds.length := by rw [hlo]; exact hj
     have := hco j _ (List.getElem?_eq_getElem hj2)
     simp only [World.cell?, hh, Nat.zero_add, Option.isSome_none, Bool.false_eq_true, if_false] at this
     rw [List.getElem?_eq_getElem hj2, ← this, Array.getElem?_toList]
    ·rename_i hj
     rw [List.getElem?_eq_none (by omega)]
   rw [holds] at hrun
   have hfit : olds.length + news.length ≤ cs.size := by rw [hlo, hl2, ← Nat.add_mul, hcs]; exact hkk
   generalize hnc2 : (olds ++ news ++ cs.toList.drop (xs.length * GoT.k α + news.length)).toArray = cs2 at hrun
   have hget : ∀ j, j < olds.length + news.length → cs2[j]? = (olds ++ news)[j]? := fun j hj => by
    rw [← hnc2, List.getElem?_toArray, List.getElem?_append_left (by rw [List.length_append]; exact hj)]
   have hsz2 : cs2.size = c * GoT.k α := by
    rw [← hnc2]; simp only [List.size_toArray, List.length_append, List.length_drop, Array.length_toList]; rw [← hlo]; omega
   have hch : Ch g.m w (Wx g.m b ((xs.length + ys.length) * GoT.k α)) (w.setRow b cs2) := by
    refine ⟨by rw [Hx]; exact Nat.le_refl _, fun b' hb' => ?_, fun b' hb' j hj => ?_⟩
    ·by_cases hbb : b' = b
     ·subst hbb; rw [Tw, hmb]; exact Nat.mul_le_mul_right _ (by omega)
     ·exact Nat.le_of_eq (Qx _ _ hbb).symm
    ·by_cases hbb : b' = b
     ·subst hbb
      have hjl : j < olds.length := by rw [hlo, ← hmb]; exact hj
      have h1 := hco j _ (List.getElem?_eq_getElem hjl)
      rw [Nat.zero_add] at h1
      rw [h1]
      simp only [World.cell?, Wc _ _ hh, Option.isSome_none, Bool.false_eq_true, if_false]
      rw [hget j (by omega), List.getElem?_append_left hjl, List.getElem?_eq_getElem hjl]
     ·simp only [World.cell?, We b cs2 hbb]
   have hst : Stp i g w { m := Wx g.m b ((xs.length + ys.length) * GoT.k α), o := g.o } (w.setRow b cs2) :=
    ⟨rfl, rfl, rfl, hch, fun b' _ hne => We b cs2 (fun h => hne (h ▸ hob)), fun b' _ hne => Qx _ _ (fun h => hne (h ▸ hob)), fun _ _ _ => rfl⟩
   refine ⟨_, _, _, hrun, hst, .inr ⟨b, c, cs2, by rw [List.length_append], hob, by rw [List.length_append]; exact Tw _ _ _, Wc _ _ hh, by rw [List.length_append]; exact hroom, hcm, hsz2⟩,
    Kh (by rw [List.length_append]) (by rw [List.length_append]; exact hroom) fun _ => ⟨b, 0, rfl, by rw [Hx]; exact Gn hh, ?_, ?_⟩, .inr ⟨b, c, cs2, rfl, by rw [List.length_append], by rw [List.length_append]; omega, by rw [List.length_append], rfl⟩⟩
   ·rw [List.length_append, Nat.zero_add]
    exact Nat.le_of_eq (Tw _ _ _).symm
   ·refine ((hfo.append hf2).ch hch).row fun j v hj => ?_
    have hjl := (List.getElem?_eq_some_iff.1 hj).1
    rw [List.length_append] at hjl
    rw [Nat.zero_add]
    simp only [World.cell?, Wc _ _ hh, Option.isSome_none, Bool.false_eq_true, if_false]
    rw [hget j hjl, hj]
  ·have hrun := run_append_grow (P := P) w t ty et ti z ht hti hz ⟨b, 0, none⟩ xs.length c olds (by rw [hsz]; exact hlo) (fun j v hj => by rw [Wo]; exact hco j v hj) ⟨b2, off2, none⟩ ys.length c' news (by rw [hsz]; exact hl2) hnews (by omega) (by omega) (growslice_fits (by omega) hb1)
   obtain ⟨g', h1, h2, h3, h4⟩ := grown olds c hfo (by omega)
   exact ⟨g', _, _, hrun, h1, h2, h3, .inl h4⟩

end
theorem Qf.split {α : Type} [GoT α] {m : Nat → Nat} {w : World} : ∀ {xs ys : List α} {cs : List Value}, Qf m w (xs ++ ys) cs → ∃ o1 o2, cs = o1 ++ o2 ∧ Qf m w xs o1 ∧ Qf m w ys o2
 | [], _, cs, h => ⟨[], cs, rfl, rfl, h⟩
 | _ :: _, _, _, ⟨c1, _, rfl, h1, h2⟩ => by
  obtain ⟨o1, o2, rfl, k1, k2⟩ := Qf.split h2
  exact ⟨c1 ++ o1, o2, by rw [List.append_assoc], ⟨c1, o1, rfl, h1, k1⟩, k2⟩

def AS {α : Type} [GoT α] (i : Nat) (et : TypeId) (xs r : List α) (u : Value) (g : Gh) (w : World) : Prop :=
 (RV g.m w xs u ∧ OS i g w et xs u) ∨ ∃ b c, u = .slice (some ⟨b, 0, none⟩) xs.length c ∧ RV g.m w r (.slice (some ⟨b, 0, none⟩) r.length c) ∧ OS i g w et r (.slice (some ⟨b, 0, none⟩) r.length c)
def Vm {α : Type} [GoT α] (i : Nat) (et : TypeId) (xs r : List α) (u : Value) : Jb := { rel := fun g w g' w' => Stp i g w g' w' ∧ (AS i et xs r u g w → AS i et xs r u g' w') ∧ ∀ v, (RV g.m w r v ∧ OS i g w et r v) → (RV g'.m w' r v ∧ OS i g' w' et r v) }
section
variable {α : Type} [GoT α] {i : Nat} {et : TypeId} {xs r : List α} {u : Value} {g g' : Gh} {w w' : World}
theorem AS.ext (h : AS i et xs r u g w) (k : Ext g w g' w') : AS i et xs r u g' w' := by
 rcases h with ⟨h1, h2⟩ | ⟨b, c, h0, h1, h2⟩
 ·exact .inl ⟨h1.ext k, h2.ext k⟩
 ·exact .inr ⟨b, c, h0, h1.ext k, h2.ext k⟩
theorem Cg (h : Ext g w g' w') : (Vm i et xs r u).rel g w g' w' := ⟨h.stp, fun k => k.ext h, fun _ k => ⟨k.1.ext h, k.2.ext h⟩⟩
theorem up_as {v : Value} : Up (Vm i et xs r u) (fun g w => RV g.m w r v ∧ OS i g w et r v) := fun _ _ _ _ hx h => hx.2.2 v h
theorem upS_rv {β : Type} [GoT β] {x : β} {v : Value} : Up (Vm i et xs r u) (fun g w => RV g.m w x v) := fun _ _ _ _ hx h => h.stp hx.1
theorem upS_os {β : Type} [GoT β] {j : Nat} {t : TypeId} {x : List β} {v : Value} (hj : Nat.beq j i = false := by rfl) : Up (Vm i et xs r u) (fun g w => OS j g w t x v) := fun _ _ _ _ hx h => h.stp hx.1 hj
theorem Ea (p : Prop) : Up (Vm i et xs r u) (fun _ _ => p) := fun _ _ _ _ _ h => h
variable {P : Program} {N : Nat}
theorem Ee {n : Nat} {ro : Option Nat} {Q' : Jt} {id : Nat} {ops : List Oper} {e : Env} {ds : List Deferred} (h0 : RV g.m w xs u) (h1 : OS i g w et xs u) (words : List (Nat × (Value → Qo))) (ix : List Nat) (hix : ix = List.range n) (hm : P.follows .mixedOrders = true) (hok : Mn N ops.toArray n = true)
  (hΦ : UpL (Vm i et xs r u) words)
  (h : Lex (Vm i et xs r u) P ops.toArray (fun g' w' => Stp i g w g' w' ∧ AS i et xs r u g' w') (Yx words) (fun e' _ w' => EL P N ro ops.toArray (ops.drop n) Q' e' ds w') ix (fun _ _ _ => True) e) : E P N ro (.region id ops.toArray true) Q' e ds w :=
 Mv (SR := Vm i et xs r u) _ (Yx words) hm hok (fun _ _ _ _ hx h => ⟨h.1.trans hx.1, hx.2.1 h.2⟩) ⟨(Jq g w).stp, .inl ⟨h0.ext (Jq g w), h1.ext (Jq g w)⟩⟩ (upC hΦ) wokC (hix ▸ h)
theorem Nx {e : Env} {x y : Operand} (hdet : DetR α) (hk : Nat.blt 0 (GoT.k α) = true) {t : TypeId} {z : Value} {bytes : Nat} {ys : List α} {v : Value}
  (ht : P.underlying t = some (.slice et)) (hinfo : (P.info? et).map (fun i => (i.zero, i.size, i.bytes)) = some (some z, GoT.k α, bytes)) (hzs : z.cells.size = GoT.k α)
  (hx : ev e x = u) (hos : AS i et xs r u g w) (hy : ev e y = v) (hv : RV g.m w ys v) (hr : apnd bytes xs ys = some r) :
  Doe P (.call { callee := .builtin .append, args := #[x, y], argTypes := #[t, t] }) e w fun v' w' => ∃ g', (Vm i et xs r u).rel g w g' w' ∧ RV g'.m w' r v' ∧ OS i g' w' et r v' := fun d ty pos af gd => by
 obtain ⟨ti, hi, hz, hsz, hby⟩ := info_parts hinfo
 subst hby
 have hxr : r = xs ++ ys := by unfold apnd at hr; split at hr <;> simp at hr; exact hr.symm
 have hk : 0 < GoT.k α := by simpa [Nat.blt_eq] using hk
 have fin : ∀ {g' : Gh} {w' : World} {v' : Value}, (Builtin.append_ #[t, t] ty #[u, v]).run P w = .ok v' w' → (Vm i et xs r u).rel g w g' w' → RV g'.m w' r v' → OS i g' w' et r v' →
   doE P ⟨d, .call { callee := .builtin .append, args := #[x, y], argTypes := #[t, t] }, ty, pos, af, gd⟩ e w fun v' w' => ∃ g', (Vm i et xs r u).rel g w g' w' ∧ RV g'.m w' r v' ∧ OS i g' w' et r v' := fun {g' w' v'} hrun h1 h2 h3 => by
  have hrun2 : (execOp (ev e) ⟨d, .call { callee := .builtin .append, args := #[x, y], argTypes := #[t, t] }, ty, pos, af, gd⟩).run P w = .ok (.value v') w' := by
   simp only [execOp, resolve, invoke, builtin, Sem.run_bind, Sem.run_pure, Result.andThen_ok, List.map_toArray, List.map_cons, List.map_nil, hx, hy, hrun]
  unfold doE; rw [hrun2]; exact ⟨g', h1, h2, h3⟩
 rcases hos with ⟨hu, ho⟩ | ⟨b, c, hu, h1, h2⟩
 ·obtain ⟨g', w', v', hrun, k1, k2, k3, k4⟩ := Pj (P := P) t ty et ti z ht hi hz hsz hzs ho hu hv hr
  rcases k4 with k4 | ⟨b, c, cs2, hub, hvb, hlt, hg, hw⟩
  ·exact fin hrun (Cg k4) k3 k2
  ·refine fin hrun ⟨k1, fun _ => .inr ⟨b, c, hub, hvb ▸ k3, hvb ▸ k2⟩, fun v2 hv2 => ⟨hv2.1.stp k1, ?_⟩⟩ k3 k2
   rcases hv2.2 with hn | ⟨b2, c2, cs3, e1, e2, e3, e4, e5⟩
   ·exact .inl hn
   ·have hbb : b2 ≠ b := fun he => by
     subst he
     rcases ho with ⟨hn, _⟩ | ⟨b3, c3, cs4, f1, f2, f3, _⟩
     ·rw [hn] at hub; injection hub with q; cases q
     ·rw [hub] at f1
      injection f1 with q
      injection q with q
      injection q with q
      subst q
      rw [e3] at f3
      have := Nat.eq_of_mul_eq_mul_right hk f3
      omega
    refine .inr ⟨b2, c2, cs3, e1, ?_, ?_, ?_, e5⟩
    ·rw [hg]; exact e2
    ·rw [hg]; exact (Qx _ _ hbb).trans e3
    ·rw [hw]; exact (We b cs2 hbb).trans e4
 ·subst hu
  obtain ⟨a, c', rfl, hc', hrow⟩ := Km hv
  have h2' := h2
  rcases h2' with ⟨hn, _⟩ | ⟨b2, c2, cs, e1, e2, e3, e4, e5, e6, e7⟩
  ·injection hn with q; cases q
  injection e1 with q1 _ q2
  injection q1 with q1
  injection q1 with q1
  subst q1; subst q2
  have hfl := Cf h1 e4
  rcases Nat.eq_zero_or_pos ys.length with hy0 | hy0
  ·have hys : ys = [] := List.eq_nil_of_length_eq_zero hy0
   subst hys
   rw [List.append_nil] at hxr
   subst hxr
   exact fin (Yh t ty et ti ht hi _ _ _ e5 a c') (Cg ⟨Below.refl _ _, fun _ _ => rfl, fun _ _ => rfl⟩) h1 h2
  ·obtain ⟨b3, off3, rfl, hlt3, hm3, hrow3⟩ := hrow hy0
   obtain ⟨news, hf2, hcell2⟩ := hrow3.flat
   have hl2 := hf2.len
   have hnews : ∀ j v, news[j]? = some v → w.cell? ((⟨b3, off3, none⟩ : Addr).add j) = some v := fun j v hj => by rw [Wo]; exact hcell2 j v hj
   have hrl : r.length = xs.length + ys.length := by rw [hxr, List.length_append]
   have hkk : (xs.length + ys.length) * GoT.k α ≤ c * GoT.k α := Nat.mul_le_mul_right _ (by omega)
   have hrun := run_append_room (P := P) w t ty et ti ht hi b xs.length c cs e4 ⟨b3, off3, none⟩ ys.length c' news (by rw [hsz]; exact hl2) hnews hf2.one (by omega) (by rw [hsz, hl2, ← Nat.add_mul, e7]; exact hkk)
   rw [hsz] at hrun
   have hsame : (cs.toList.take (xs.length * GoT.k α) ++ news ++ cs.toList.drop (xs.length * GoT.k α + news.length)).toArray = cs := by
    rw [hxr] at hfl
    obtain ⟨o1, o2, q0, q1, q2⟩ : ∃ o1 o2, cs.toList.take ((xs ++ ys).length * GoT.k α) = o1 ++ o2 ∧ Qf g.m w xs o1 ∧ Qf g.m w ys o2 := Qf.split hfl
    have q3 := q1.len
    have q4 := Qf.det hdet q2 hf2
    subst q4
    have q5 : cs.toList.take (xs.length * GoT.k α) = o1 := by
     have : cs.toList.take (xs.length * GoT.k α) = (cs.toList.take ((xs ++ ys).length * GoT.k α)).take (xs.length * GoT.k α) := by
      rw [List.take_take, List.length_append, Nat.add_mul, Nat.min_eq_left (by omega)]
     rw [this, q0, ← q3, List.take_left']; rfl
    rw [q5, ← q0]
    have q6 : (xs ++ ys).length * GoT.k α = xs.length * GoT.k α + o2.length := by rw [List.length_append, Nat.add_mul, hl2]
    rw [q6, List.take_append_drop]
   rw [hsame] at hrun
   have hE : Ext g w g (w.setRow b cs) := ⟨⟨rfl, rfl, rfl, by rw [Hx]; exact Nat.le_refl _, fun b' _ => by
    by_cases hbb : b' = b
    ·subst hbb; exact (Wc _ _ e4).trans e4.symm
    ·exact We b cs hbb⟩, fun _ _ => rfl, fun _ _ => rfl⟩
   exact fin (by rw [hrun, hrl]) (Cg hE) (h1.ext hE) (h2.ext hE)
end
end Go.Proofs.Ytlmibfohllgmeaa
