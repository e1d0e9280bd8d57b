/- An entry of a map that is changed in place (m[k] op= x); delete. No program is named here. -/
import Derived.Test.YtlmibfohllgmeaaQm
namespace Go.Proofs.Ytlmibfohllgmeaa
open Go.RowKit
open Go.ChangeMaps (setBlock)

section
variable {κ ν : Type} [DecidableEq κ]
def mdel (m : List (κ × ν)) (k : κ) : List (κ × ν) := match (m.map (·.1)).findIdx? fun x => decide (x = k) with | some i => m.eraseIdx i | none => m
end
section
variable {κ ν : Type} [GoT ν] [DecidableEq κ] {enc : κ → Value} {i : Nat} {g g' : Gh} {w w' : World} {m : List (κ × ν)} {k : κ} {v : Value} {n : Nat}
def ME (enc : κ → Value) (i : Nat) (g : Gh) (w : World) (m : List (κ × ν)) (k : κ) (z0 : ν) (n : Nat) (v : Value) : Prop :=
 ∃ (b : Nat) (es : Array MapEntry) (cl : Nat) (M : List (κ × ν)) (ix : Nat) (en : MapEntry), v = .map (some b) ∧ g.o b = i ∧ w.heap[b]? = some (.map es cl) ∧ (∀ e ∈ es.toList, e.born < cl) ∧ (es.toList.map (·.born)).Nodup ∧ Hq enc g.m w es.toList M ∧
  es.toList[ix]? = some en ∧ en.born = n ∧ en.key = enc k ∧ (M.map (·.1)).findIdx? (fun x => decide (x = k)) = some ix ∧ RV g.m w ((Jv m k).getD z0) en.val ∧ ∀ x : ν, M.modify ix (fun _ => (k, x)) = Vw m k x
variable {P : Program} {e : Env} {K : Value → World → Prop} {x y z : Operand}
theorem So {es : Array MapEntry} {j : Nat} {f : MapEntry → MapEntry} (hf : ∀ q, (f q).born = q.born) : (es.modify j f).toList.map (·.born) = es.toList.map (·.born) := by
 apply List.ext_getElem?
 intro n
 simp only [Array.toList_modify, List.getElem?_map, List.getElem?_modify]
 cases es.toList[n]? with
 | none => rfl
 | some q =>
  by_cases h : j = n
  ·subst h; simp [hf]
  ·simp [h]
theorem Pd {α : Type} : ∀ {l : List α}, l.Nodup → ∀ {i j : Nat} (hi : i < l.length) (hj : j < l.length), i < j → l[i] ≠ l[j]
 | [], _, i, _, hi, _, _ => absurd hi (Nat.not_lt_zero _)
 | a :: l, h, 0, j + 1, _, hj, _ => by
  rw [List.nodup_cons] at h
  simp only [List.getElem_cons_zero, List.getElem_cons_succ]
  exact fun he => h.1 (he ▸ List.getElem_mem _)
 | a :: l, h, i + 1, j + 1, hi, hj, hij => by
  rw [List.nodup_cons] at h
  simp only [List.getElem_cons_succ]
  exact Pd h.2 _ _ (by omega)
theorem Si {α : Type} (f : α → α) (p : α) : ∀ l : List α, (l ++ [p]).modify l.length f = l ++ [f p]
 | [] => rfl
 | a :: l => by simp only [List.cons_append, List.length_cons, List.modify_succ_cons, Si f p l]
theorem born_lt {es : Array MapEntry} {cl : Nat} (h : ∀ e ∈ es.toList, e.born < cl) {j : Nat} {f : MapEntry → MapEntry} (hf : ∀ q, (f q).born = q.born) : ∀ e ∈ (es.modify j f).toList, e.born < cl := fun q hq => by
 have : q.born ∈ (es.modify j f).toList.map (·.born) := List.mem_map_of_mem hq
 rw [So hf] at this
 obtain ⟨q', hq', he⟩ := List.mem_map.1 this
 rw [← he]; exact h q' hq'
theorem Ru {t kt et : TypeId} {mv zv : Value} {z0 : ν} (ht : P.underlying t = some (.map kt et)) (hk : Uk P kt enc) (hz : ∀ w, (zeroValue et).run P w = .ok zv w) (hzr : ∀ m w, RV m w z0 zv) (hx : ev e x = mv) (hm : MP enc i g w m mv) (hy : ev e y = enc k)
  (h : ∀ g' w' u n, Stp i g w g' w' → ME enc i g' w' m k z0 n mv → RV g'.m w' ((Jv m k).getD z0) u → K (.tuple #[u, .int .i64 n]) w') : Doe P (.mapEntry t x y) e w K := fun d ty pos af gd => by
 obtain ⟨b, es, cl, rfl, ho, hh, hb1, hb2, her⟩ := hm
 have hf := hk.2.2 k w es.toList (m.map (·.1)) her.keys
 have hget : (getObj b).run P w = .ok (.map es cl) w := by simp [getObj, Sem.run, hh]
 have hmg := Lv (m := m) (k := k)
 cases hi : (m.map (·.1)).findIdx? (fun x => decide (x = k)) with
 | none =>
  rw [hi] at hf hmg
  have hst := Vc (es' := es.push { key := enc k, val := zv, born := cl }) (c' := cl + 1) ho hh
  have hrun : (execOp (ev e) ⟨d, .mapEntry t x y, ty, pos, af, gd⟩).run P w = .ok (.value (.tuple #[zv, .int .i64 cl])) (setBlock w b (.map (es.push { key := enc k, val := zv, born := cl }) (cl + 1))) := by
   simp only [execOp, hx, hy, Instr.mapEntry, Sem.run_bind, run_underlying ht, Result.andThen_ok, hget, hk.1, hf, Option.bind_none, hz]
   simp [setObj, Sem.run, hh, setBlock, goInt]
  unfold doE; rw [hrun]
  have hl := her.len
  refine h g _ _ _ hst.1 ⟨b, _, _, m ++ [(k, z0)], m.length, { key := enc k, val := zv, born := cl }, rfl, ho, hst.2, fun en hen => ?_, ?_, ?_, ?_, rfl, rfl, ?_, by rw [hmg]; exact hzr _ _, fun x => ?_⟩ (by rw [hmg]; exact hzr _ _)
  ·simp only [Array.toList_push, List.mem_append, List.mem_singleton] at hen
   rcases hen with hen | rfl
   ·have := hb1 en hen; omega
   ·show cl < cl + 1; omega
  ·simp only [Array.toList_push, List.map_append, List.map_cons, List.map_nil]
   refine List.nodup_append.2 ⟨hb2, by simp, fun a ha b hb => ?_⟩
   obtain ⟨en, hen, rfl⟩ := List.mem_map.1 ha
   have := hb1 en hen
   simp at hb; subst hb
   omega
  ·rw [Array.toList_push]
   exact Hq.snoc (p := (k, z0)) rfl (hzr _ _) (her.ch hst.1.ch)
  ·rw [Array.toList_push, ← hl, List.getElem?_append_right (Nat.le_refl _)]; simp
  ·rw [List.map_append, List.findIdx?_append, hi]; simp
  ·rw [Sa hi, Si]
 | some i' =>
  have hlt : i' < m.length := by have := List.findIdx?_eq_some_iff_findIdx_eq.1 hi; simpa using this.1
  have hl := her.len
  obtain ⟨en, hen⟩ : ∃ en, es.toList[i']? = some en := ⟨_, List.getElem?_eq_getElem (by omega)⟩
  obtain ⟨p, hp, hkey, hpr⟩ := her.get hen
  have hpk : p.1 = k := by
   obtain ⟨hlt', h2, _⟩ := List.findIdx?_eq_some_iff_getElem.1 hi
   have h3 := (List.getElem?_eq_some_iff.1 hp).2
   simp only [List.getElem_map, decide_eq_true_eq] at h2
   rw [← h3]; exact h2
  have hen2 : es[i']? = some en := by simpa using hen
  have hst := Vc (es' := es.modify i' fun q => { q with key := enc k }) (c' := cl) ho hh
  rw [hi] at hf hmg
  simp only [Option.bind_some, hen, Option.map_some, hp] at hf hmg
  have hke : en.key = enc k := by rw [hkey, hpk]
  have hrun : (execOp (ev e) ⟨d, .mapEntry t x y, ty, pos, af, gd⟩).run P w = .ok (.value (.tuple #[en.val, .int .i64 en.born])) (setBlock w b (.map (es.modify i' fun q => { q with key := enc k }) cl)) := by
   have hks := hk.2.1 k w
   simp only [execOp, hx, hy, Instr.mapEntry, Sem.run_bind, run_underlying ht, Result.andThen_ok, hget, hk.1, hf, hen2, Option.map_some, Option.getD_some, hke, hks]
   simp [setObj, Sem.run, hh, setBlock, goInt]
  have hsame : (es.modify i' fun q => { q with key := enc k }).toList = es.toList := by
   apply List.ext_getElem?
   intro n
   simp only [Array.toList_modify, List.getElem?_modify]
   by_cases hn : i' = n
   ·subst hn; rw [hen]; simp [← hke]
   ·simp [hn]
  unfold doE; rw [hrun]
  refine h g _ _ _ hst.1 ⟨b, _, _, m, i', en, rfl, ho, hst.2, by rw [hsame]; exact hb1, by rw [hsame]; exact hb2, by rw [hsame]; exact her.ch hst.1.ch, by rw [hsame]; exact hen, rfl, hke, hi, by rw [hmg]; exact hpr.ch hst.1.ch, fun x => (Bz hi).symm⟩ (by rw [hmg]; exact hpr.ch hst.1.ch)
theorem Dw {t : TypeId} {mv u : Value} {a : ν} (hx : ev e x = mv) {z0 : ν} (hm : ME enc i g w m k z0 n mv) (hy : ev e y = .int .i64 n) (hz : ev e z = u) (hv : RV g.m w a u)
  (h : ∀ g' w', Stp i g w g' w' → MP enc i g' w' (Vw m k a) mv → K undef w') : Doe P (.entryStore t x y z) e w K := fun d ty pos af gd => by
 obtain ⟨b, es, cl, M, ix, en, rfl, ho, hh, hb1, hb2, her, hen, rfl, hke, _, _, hM⟩ := hm
 have hget : (getObj b).run P w = .ok (.map es cl) w := by simp [getObj, Sem.run, hh]
 have hen2 : es[ix]? = some en := by simpa using hen
 have hfind : es.findIdx? (fun q => ((q.born : Nat) : Int) == (en.born : Int)) = some ix := by
  rw [show es = es.toList.toArray from Array.toArray_toList.symm, List.findIdx?_toArray]
  refine List.findIdx?_eq_some_iff_getElem.2 ?_
  obtain ⟨h1, h2⟩ := List.getElem?_eq_some_iff.1 hen
  refine ⟨h1, by rw [h2]; simp, fun j hj => ?_⟩
  simp only [beq_iff_eq]
  intro he
  have hjb : (es.toList.map (·.born))[j]'(by simp; simp at h1; omega) = (es.toList.map (·.born))[ix]'(by simpa using h1) := by
   simp only [List.getElem_map, h2]; exact Int.ofNat_inj.1 he
  exact absurd hjb (Pd hb2 (by simp at h1 ⊢; omega) (by simpa using h1) (by omega))
 have hst := Vc (es' := es.modify ix fun q => { q with val := u }) (c' := cl) ho hh
 have hrun : (execOp (ev e) ⟨d, .entryStore t x y z, ty, pos, af, gd⟩).run P w = .ok .skip (setBlock w b (.map (es.modify ix fun q => { q with val := u }) cl)) := by
  simp only [execOp, hx, hy, hz, Instr.entryStore, Sem.run_bind, Result.andThen_ok, hget]
  simp [asInt, asIntOf, Result.andThen, hfind, setObj, Sem.run, hh, setBlock]
 unfold doE; rw [hrun]
 refine h g _ hst.1 ⟨b, _, _, rfl, ho, hst.2, born_lt hb1 (f := fun q => { q with val := u }) (fun _ => rfl), by rw [So (f := fun q => { q with val := u }) (fun _ => rfl)]; exact hb2, ?_⟩
 have hsame : (es.modify ix fun q => { q with val := u }).toList = es.toList.modify ix fun q => { q with key := enc k, val := u } := by
  rw [Array.toList_modify]
  apply List.ext_getElem?
  intro n
  simp only [List.getElem?_modify]
  by_cases hn : ix = n
  ·subst hn; rw [hen]; simp [← hke]
  ·simp [hn]
 rw [hsame, ← hM a]
 exact Hq.put (hv.ch hst.1.ch) (her.ch hst.1.ch)
theorem Oe {t kt et : TypeId} {mv : Value} {z0 : ν} (ht : P.underlying t = some (.map kt et)) (hk : Uk P kt enc) (hx : ev e x = mv) (hm : ME enc i g w m k z0 n mv) (hy : ev e y = enc k)
  (h : ∀ v, RV g.m w ((Jv m k).getD z0) v → K v w) : Doe P (.lookup t x y false) e w K := fun d ty pos af gd => by
 obtain ⟨b, es, cl, M, ix, en, rfl, ho, hh, hb1, hb2, her, hen, rfl, hke, hfi, hrv, hM⟩ := hm
 have hf := hk.2.2 k w es.toList (M.map (·.1)) her.keys
 have hget : (getObj b).run P w = .ok (.map es cl) w := by simp [getObj, Sem.run, hh]
 rw [hfi] at hf
 simp only [Option.bind_some, hen, Option.map_some] at hf
 have hrun : (execOp (ev e) ⟨d, .lookup t x y false, ty, pos, af, gd⟩).run P w = .ok (.value en.val) w := by
  simp [execOp, hx, hy, Instr.lookup, Sem.run_bind, run_underlying ht, hget, hk.1, hf]
 unfold doE; rw [hrun]
 exact h _ hrv
omit [DecidableEq κ] in
theorem MO.handm {j i : Nat} {g0 : Gh} {w0 : World} {mo : Option (List (κ × ν))} (hfr : Fr g0 w0 g w) (h : MO enc (j + 1) g w mo v) : ∃ g', Ext g0 w0 g' w ∧ MO enc i g' w mo v := by
 rcases h with ⟨h1, h2⟩ | ⟨m', h1, h2⟩
 ·exact ⟨_, hfr.fin, .inl ⟨h1, h2⟩⟩
 ·obtain ⟨g', a, _, b⟩ := MP.handm hfr h2
  exact ⟨g', a, .inr ⟨m', h1, b⟩⟩
omit [DecidableEq κ] in
/-- A map goes from one name to another. -/
theorem MP.retag (j : Nat) (h : MP enc i g w m v) : ∃ g', Stp i g w g' w ∧ MP enc j g' w m v := by
  obtain ⟨b, es, cl, rfl, ho, hh, hb1, hb2, her⟩ := h
  exact ⟨{ m := g.m, o := Wx g.o b j }, ⟨rfl, rfl, rfl, Ch.refl _ _, fun _ _ _ => rfl, fun _ _ _ => rfl, fun k _ hn => Qx _ _ (fun he => hn (by rw [he]; exact ho))⟩, b, es, cl, rfl, Tw _ _ _, hh, hb1, hb2, her⟩
omit [DecidableEq κ] in
theorem MQ.one {n : Nat} (h : MQ enc n g w m v) : v.oneCell' = true := by
 rcases h with ⟨rfl, _⟩ | ⟨h, _⟩
 ·rfl
 ·exact mp_one h
omit [DecidableEq κ] in
theorem Hq.erase {m : Nat → Nat} {w : World} : ∀ {es : List MapEntry} {l : List (κ × ν)} {j : Nat}, Hq enc m w es l → Hq enc m w (es.eraseIdx j) (l.eraseIdx j)
 | [], _, _, h => by rw [show _ = [] from h]; exact rfl
 | _ :: _, _, 0, ⟨p, l', h, _, _, h5⟩ => by subst h; exact h5
 | _ :: _, _, j + 1, ⟨p, l', h, h3, h4, h5⟩ => by subst h; exact ⟨p, l'.eraseIdx j, rfl, h3, h4, Hq.erase h5⟩
theorem Ed {t t2 kt et : TypeId} {mv : Value} (ht : P.underlying t = some (.map kt et)) (hk : Uk P kt enc) (hx : ev e x = mv) (hm : MP enc i g w m mv) (hy : ev e y = enc k)
  (h : ∀ g' w', Stp i g w g' w' → MP enc i g' w' (mdel m k) mv → K undef w') : Doe P (.call { callee := .builtin .delete, args := #[x, y], argTypes := #[t, t2] }) e w K := fun d ty pos af gd => by
 obtain ⟨b, es, cl, rfl, ho, hh, hb1, hb2, her⟩ := hm
 have hf := hk.2.2 k w es.toList (m.map (·.1)) her.keys
 have hget : (getObj b).run P w = .ok (.map es cl) w := by simp [getObj, Sem.run, hh]
 have hexec : ∀ v w', (Builtin.delete_ #[t, t2] ty #[ev e x, ev e y]).run P w = .ok v w' → (execOp (ev e) ⟨d, .call { callee := .builtin .delete, args := #[x, y], argTypes := #[t, t2] }, ty, pos, af, gd⟩).run P w = .ok (.value v) w' := fun v w' hr => by
  simp only [execOp, resolve, invoke, builtin, Sem.run_bind, Sem.run_pure, Result.andThen_ok, List.map_toArray, List.map_cons, List.map_nil, hr]
 unfold mdel at h
 cases hi : (m.map (·.1)).findIdx? (fun x => decide (x = k)) with
 | none =>
  rw [hi] at hf h
  have hst := Vc (es' := es) (c' := cl) ho hh
  have hrun := hexec undef (setBlock w b (.map es cl)) (by
   rw [hx, hy]
   simp [Builtin.delete_, run_underlying ht, hget, hk.1, hf, Result.andThen, setObj, Sem.run_bind, Sem.run, hh, setBlock, undef])
  unfold doE; rw [hrun]
  exact h g _ hst.1 ⟨b, _, _, rfl, ho, hst.2, hb1, hb2, her.ch hst.1.ch⟩
 | some i' =>
  have hlt : i' < m.length := by have := List.findIdx?_eq_some_iff_findIdx_eq.1 hi; simpa using this.1
  have hl := her.len
  obtain ⟨en, hen⟩ : ∃ en, es.toList[i']? = some en := ⟨_, List.getElem?_eq_getElem (by omega)⟩
  rw [hi] at hf h
  simp only [Option.bind_some, hen, Option.map_some] at hf
  have hst := Vc (es' := es.eraseIdxIfInBounds i') (c' := cl) ho hh
  have hrun := hexec undef (setBlock w b (.map (es.eraseIdxIfInBounds i') cl)) (by
   rw [hx, hy]
   simp [Builtin.delete_, run_underlying ht, hget, hk.1, hf, Result.andThen, setObj, Sem.run_bind, Sem.run, hh, setBlock, undef])
  have htl : (es.eraseIdxIfInBounds i').toList = es.toList.eraseIdx i' := by simp
  unfold doE; rw [hrun]
  refine h g _ hst.1 ⟨b, _, _, rfl, ho, hst.2, fun q hq => ?_, ?_, ?_⟩
  ·rw [htl] at hq; exact hb1 q (List.mem_of_mem_eraseIdx hq)
  ·rw [htl]; exact ((List.eraseIdx_sublist _ _).map _).nodup hb2
  ·rw [htl]; exact (Hq.erase (her.ch hst.1.ch))
end
end Go.Proofs.Ytlmibfohllgmeaa
