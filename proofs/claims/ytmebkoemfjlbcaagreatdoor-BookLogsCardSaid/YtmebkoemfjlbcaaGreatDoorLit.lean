/- Slice and struct literals, cuts of slices: laws over the env-based logic. No program is named here. -/
import Derived.Test.YtmebkoemfjlbcaaGreatDoorCall
namespace Go.Proofs.YtmebkoemfjlbcaaGreatDoor
open Go.RowKit

theorem C3 : ∀ (cs : List Value) (k off : Nat) (a : Array Value), off + k + cs.length ≤ a.size →
  ((cs.zipIdx k).foldl (fun (acc : Array Value) (x : Value × Nat) => acc.setIfInBounds (off + x.2) x.1) a).toList = a.toList.take (off + k) ++ cs ++ a.toList.drop (off + k + cs.length)
 | [], k, off, a, _ => by simp
 | c :: cs, k, off, a, h => by
  rw [List.length_cons] at h
  have hlt : off + k < a.toList.length := by rw [Array.length_toList]; omega
  rw [List.zipIdx_cons, List.foldl_cons, C3 cs (k + 1) off _ (by simp only [Array.size_setIfInBounds]; omega)]
  simp only [Array.toList_setIfInBounds]
  rw [show off + (k + 1) = off + k + 1 from rfl, List.take_set, List.drop_set]
  rw [if_pos (by omega)]
  have hal : a.toList.length = a.size := Array.length_toList
  rw [List.take_add_one, List.set_append_right _ _ (by rw [List.length_take]; omega)]
  rw [List.length_take, Nat.min_eq_left (by omega), Nat.sub_self, List.getElem?_eq_getElem hlt]
  simp only [Option.toList_some, List.set_cons_zero, List.append_assoc, List.cons_append, List.length_cons]
  rw [List.nil_append, show off + k + 1 + cs.length = off + k + (cs.length + 1) from by omega]
def Qf (ch : List (List Value)) : List (Nat × Value) → List (List Value)
 | [] => ch
 | (i, v) :: rest => Qf (ch.set i v.cells.toList) rest
def Qz : Nat → List (List Value) → List (Nat × Nat)
 | _, [] => []
 | o, c :: cs => (o, c.length) :: Qz (o + c.length) cs
theorem Y6 : ∀ (cs : List (List Value)) (o i : Nat) (c : List Value), cs[i]? = some c → (Qz o cs)[i]? = some (o + ((cs.take i).flatten).length, c.length)
 | [], _, _, _, h => by simp at h
 | c :: cs, o, 0, c', h => by simp at h; subst h; simp [Qz]
 | c :: cs, o, i + 1, c', h => by
  simp at h
  simp only [Qz, List.getElem?_cons_succ, List.take_succ_cons, List.flatten_cons, List.length_append]
  rw [Y6 cs _ i c' h, Nat.add_assoc]
theorem Y8 : ∀ (cs : List (List Value)) (o i : Nat) (c c' : List Value), cs[i]? = some c → c'.length = c.length → Qz o (cs.set i c') = Qz o cs
 | [], _, _, _, _, h, _ => by simp at h
 | c :: cs, o, 0, c1, c', h, hl => by simp at h; subst h; simp [Qz, hl]
 | c :: cs, o, i + 1, c1, c', h, hl => by
  simp at h
  simp only [List.set_cons_succ, Qz]
  rw [Y8 cs _ i c1 c' h hl]
theorem Xi : ∀ (cs : List (List Value)) (i : Nat) (c c' : List Value), cs[i]? = some c → c'.length = c.length →
  (cs.set i c').flatten = cs.flatten.take ((cs.take i).flatten).length ++ c' ++ cs.flatten.drop (((cs.take i).flatten).length + c'.length)
 | [], _, _, _, h, _ => by simp at h
 | c :: cs, 0, c1, c', h, hl => by simp at h; subst h; simp [hl]
 | c :: cs, i + 1, c1, c', h, hl => by
  simp at h
  rw [List.set_cons_succ, List.flatten_cons, Xi cs i c1 c' h hl]
  simp only [List.take_succ_cons, List.flatten_cons, List.length_append, Nat.add_assoc, List.take_length_add_append, List.drop_length_add_append, List.append_assoc]
def Si (ch : List (List Value)) : List (Nat × Value) → Prop
 | [] => True
 | (i, v) :: rest => (∃ c, ch[i]? = some c ∧ v.cells.size = c.length) ∧ Si (ch.set i v.cells.toList) rest
theorem V0 {place : Nat → Option (Nat × Nat)} : ∀ (parts : List (Nat × Value)) (ch : List (List Value)), (∀ i c, ch[i]? = some c → place i = (Qz 0 ch)[i]?) → Si ch parts →
  Instr.fill place ch.flatten.toArray parts = some (Qf ch parts).flatten.toArray
 | [], ch, _, _ => rfl
 | (i, v) :: rest, ch, hpl, ⟨⟨c, hc, hl⟩, hrest⟩ => by
  have hp := Y6 ch 0 i c hc
  have hlen : v.cells.toList.length = c.length := by simpa using hl
  have hfl := Xi ch i c v.cells.toList hc hlen
  have hle : ((ch.take i).flatten).length + c.length ≤ ch.flatten.length := by
   have h1 : ch.flatten = (ch.take i).flatten ++ (c ++ (ch.drop (i + 1)).flatten) := by
    have hi := (List.getElem?_eq_some_iff.1 hc).1
    have he := (List.getElem?_eq_some_iff.1 hc).2
    conv => lhs; rw [← List.take_append_drop i ch]
    rw [List.flatten_append, List.drop_eq_getElem_cons hi, List.flatten_cons, he]
   rw [h1]; simp only [List.length_append]; omega
  rw [Instr.fill, hpl i c hc, hp]
  simp only [Nat.zero_add]
  have hcond : ¬ ((decide (v.cells.size ≠ c.length) || decide (((ch.take i).flatten).length + v.cells.size > ch.flatten.toArray.size)) = true) := by
   rw [Bool.not_eq_true, Bool.or_eq_false_iff, decide_eq_false_iff_not, decide_eq_false_iff_not]
   exact ⟨fun h => h hl, by have : ch.flatten.toArray.size = ch.flatten.length := List.size_toArray; omega⟩
  rw [if_neg hcond]
  have hf := C3 v.cells.toList 0 ((ch.take i).flatten).length ch.flatten.toArray (by simp only [List.size_toArray]; omega)
  simp only [Nat.add_zero] at hf
  rw [← hfl] at hf
  have h2 : (Array.foldl (fun (cs : Array Value) (x : Value × Nat) => cs.setIfInBounds (((ch.take i).flatten).length + x.2) x.1) ch.flatten.toArray v.cells.zipIdx) = (ch.set i v.cells.toList).flatten.toArray := by
   apply Array.ext'
   rw [← Array.foldl_toList, Array.toList_zipIdx]
   exact hf
  rw [h2]
  refine V0 rest _ (fun j c' hj => ?_) hrest
  rw [Y8 ch 0 i c _ hc hlen]
  by_cases hij : i = j
  ·subst hij; exact hpl i c hc
  ·rw [List.getElem?_set_ne hij] at hj; exact hpl j c' hj

def T5 (P : Program) (t : TypeId) : Option (List Value × List (Nat × Nat)) :=
 match P.info? t, P.underlying t with
 | some it, some (.struct fields) =>
  match it.zero, fields.toList.mapM (fun f => (P.info? f.type).map fun i => (f.offset, i.size)) with
  | some z, some places => some (z.cells.toList, places)
  | _, _ => none
 | _, _ => none
theorem Pq {P : Program} {t : TypeId} {z : List Value} {places : List (Nat × Nat)} (hl : T5 P t = some (z, places)) (ch : List (List Value)) (hz : z = ch.flatten) (hp : places = Qz 0 ch) (parts : List (Nat × Value)) (hfit : Si ch parts) (w : World) :
  (Instr.build t parts.toArray).run P w = .ok (.agg (Qf ch parts).flatten.toArray) w := by
 refine run_build w t _ _ ?_
 unfold T5 at hl
 unfold Program.built
 cases hi : P.info? t with
 | none => rw [hi] at hl; cases hl
 | some it =>
  rw [hi] at hl
  cases hu : P.underlying t with
  | none => rw [hu] at hl; cases hl
  | some dd =>
   rw [hu] at hl
   cases dd with
   | struct fields =>
    cases hzz : it.zero with
    | none => simp only [hzz] at hl; cases hl
    | some zv =>
     simp only [hzz] at hl ⊢
     cases hm : fields.toList.mapM (fun f => (P.info? f.type).map fun i => (f.offset, i.size)) with
     | none => simp only [hm] at hl; cases hl
     | some pl =>
      simp only [hm] at hl ⊢
      simp only [Option.some.injEq, Prod.mk.injEq] at hl
      obtain ⟨h1, h2⟩ := hl
      have h3 : zv.cells = ch.flatten.toArray := by rw [← hz, ← h1]
      simp only [h3]
      refine V0 parts ch (fun i c _ => ?_) hfit
      rw [h2, hp, List.getElem?_toArray]
   | _ => cases hl

inductive Parts (e : Env) : List (Nat × Operand) → List (Nat × Value) → Prop
 | nil : Parts e [] []
 | cons {i : Nat} {x : Operand} {v : Value} {xs : List (Nat × Operand)} {vs : List (Nat × Value)} (h : ev e x = v) (t : Parts e xs vs) : Parts e ((i, x) :: xs) ((i, v) :: vs)
theorem Parts.map {e : Env} {xs : List (Nat × Operand)} {vs : List (Nat × Value)} (h : Parts e xs vs) : xs.map (fun (i, x) => (i, ev e x)) = vs := by
 induction h with
 | nil => rfl
 | cons h _ ih => rw [List.map_cons, ih]; show (_, ev e _) :: _ = _; rw [h]

section
variable {α β : Type} [GoT α] [GoT β] {m : Nat → Nat} {w : World}
theorem Tq {a : α} {b : β} {c : List Value} {cs : List (List Value)} (h1 : GoT.rep m w a c) (h2 : GoT.rep m w b cs.flatten) : GoT.rep m w (a, b) (c :: cs).flatten := ⟨c, cs.flatten, rfl, h1, h2⟩
theorem Qv {a : α} {c : List Value} (h1 : GoT.rep m w a c) : GoT.rep m w a [c].flatten := by simpa using h1
def RVs (m : Nat → Nat) (w : World) : List α → List Value → Prop
 | [], vs => vs = []
 | x :: xs, vs => ∃ v rest, vs = v :: rest ∧ RV m w x v ∧ RVs m w xs rest
theorem RVs.cons {x : α} {v : Value} {xs : List α} {vs : List Value} (h : RV m w x v) (t : RVs m w xs vs) : RVs m w (x :: xs) (v :: vs) := ⟨v, vs, rfl, h, t⟩
theorem RVs.nil : RVs m w ([] : List α) [] := rfl
theorem RVs.len : ∀ {xs : List α} {vs : List Value}, RVs m w xs vs → vs.length = xs.length
 | [], _, h => by rw [show _ = [] from h]; rfl
 | _ :: _, _, ⟨v, rest, he, _, h⟩ => by rw [he, List.length_cons, List.length_cons, h.len]
theorem RVs.flat : ∀ {xs : List α} {vs : List Value}, RVs m w xs vs → Tn m w xs (vs.map fun v => v.cells.toList).flatten
 | [], _, h => by rw [show _ = [] from h]; rfl
 | _ :: _, _, ⟨v, rest, he, h1, h⟩ => by subst he; exact ⟨v.cells.toList, _, rfl, h1.cells, h.flat⟩
theorem RVs.fit : ∀ {xs : List α} {vs : List Value}, RVs m w xs vs → ∀ v ∈ vs, v.cells.size = GoT.k α
 | [], _, h => by rw [show _ = [] from h]; simp
 | _ :: _, _, ⟨v, rest, he, h1, h⟩ => by
  subst he
  intro u hu
  rcases List.mem_cons.1 hu with rfl | hu
  ·exact T4 h1
  ·exact h.fit u hu
end

def Km : Nat → List Value → List (Nat × Value)
 | _, [] => []
 | k, v :: vs => (k, v) :: Km (k + 1) vs
theorem Ug : ∀ (vs : List Value) (k : Nat) (ch : List (List Value)), k + vs.length = ch.length → Qf ch (Km k vs) = ch.take k ++ vs.map (fun v => v.cells.toList)
 | [], k, ch, h => by simp at h; subst h; simp [Km, Qf]
 | v :: vs, k, ch, h => by
  simp only [Km, Qf]
  rw [List.length_cons] at h
  rw [Ug vs (k + 1) _ (by rw [List.length_set]; omega), List.take_set, List.take_add_one, List.set_append_right _ _ (by rw [List.length_take]; omega)]
  rw [List.length_take, Nat.min_eq_left (by omega), Nat.sub_self, List.getElem?_eq_getElem (by omega)]
  simp
theorem Uh {s : Nat} : ∀ (vs : List Value) (k : Nat) (ch : List (List Value)), k + vs.length = ch.length → (∀ c ∈ ch, c.length = s) → (∀ v ∈ vs, v.cells.size = s) → Si ch (Km k vs)
 | [], _, _, _, _, _ => trivial
 | v :: vs, k, ch, h, hc, hv => by
  rw [List.length_cons] at h
  have hk : k < ch.length := by omega
  refine ⟨⟨ch[k], List.getElem?_eq_getElem hk, by rw [hv v (by simp), hc _ (List.getElem_mem hk)]⟩, ?_⟩
  refine Uh vs (k + 1) _ (by rw [List.length_set]; omega) (fun c h' => ?_) (fun u hu => hv u (by simp [hu]))
  rcases List.mem_or_eq_of_mem_set h' with h' | h'
  ·exact hc c h'
  ·rw [h']; simpa using hv v (by simp)
theorem Hy {s : Nat} : ∀ (ch : List (List Value)) (o i : Nat) (c : List Value), (∀ c ∈ ch, c.length = s) → ch[i]? = some c → (Qz o ch)[i]? = some (o + i * s, s)
 | [], _, _, _, _, h => by simp at h
 | c :: ch, o, 0, _, hc, _ => by simp [Qz, hc c (by simp)]
 | c :: ch, o, i + 1, c', hc, h => by
  simp only [Qz, List.getElem?_cons_succ]
  rw [Hy ch _ i c' (fun c h => hc c (by simp [h])) (by simpa using h), hc c (by simp), Nat.add_mul]
  congr 2
  omega

section
variable {P : Program} {e : Env} {w : World} {g : Gh} {K : Value → World → Prop} {x y z : Operand}

theorem T7 {t : TypeId} {zc : List Value} {places : List (Nat × Nat)} {xs : List (Nat × Operand)} {vs : List (Nat × Value)} (ch : List (List Value))
  (hl : T5 P t = some (zc, places)) (hz : zc = ch.flatten) (hp : places = Qz 0 ch) (hps : Parts e xs vs) (hfit : Si ch vs) : Pur P (.build t xs.toArray) e (.agg (Qf ch vs).flatten.toArray) := fun _ _ _ _ _ w => by
 simp only [execOp, List.map_toArray, hps.map, Sem.run_bind, Pq hl ch hz hp vs hfit w, Result.andThen_ok, Sem.run_pure]
theorem Qq {α : Type} [GoT α] {m : Nat → Nat} {a : α} {cs : List Value} (hagg : GoT.agg α = true) (hr : GoT.rep m w a cs) : RV m w a (.agg cs.toArray) := ⟨cs, hr, by rw [hagg]; rfl⟩

theorem Fp (zc : Array Value) (n : Nat) : (Array.range (n * zc.size)).map (fun i => zc[i % zc.size]!) = (List.replicate n zc.toList).flatten.toArray := by
 apply Array.ext'
 simp only [Array.toList_map, Array.toList_range]
 induction n with
 | zero => simp
 | succ n ih =>
  rw [List.replicate_succ', List.flatten_append, ← ih, Nat.add_mul, Nat.one_mul, List.range_add, List.map_append, List.flatten_singleton, List.map_map]
  congr 1
  apply List.ext_getElem?
  intro j
  by_cases hj : j < zc.size
  ·simp [hj, Nat.mod_eq_of_lt hj]
  ·rw [List.getElem?_eq_none (by simp; omega), List.getElem?_eq_none (by simp; omega)]
theorem Jl {α : Type} [GoT α] {t et : TypeId} {zv : Value} (ht : P.underlying t = some (.slice et)) (hs : ∀ w, (sizeOf et).run P w = .ok (GoT.k α) w) (hz : ∀ w, (zeroValue et).run P w = .ok zv w) (hzs : zv.cells.size = GoT.k α) (hk : 0 < GoT.k α)
  {m : Nat → Nat} {xs : List α} {vs : List Value} (hv : RVs m w xs vs) (hsm : xs.length * GoT.k α ≤ 16777216) :
  (Instr.buildSlice t xs.length (Km 0 vs).toArray).run P w = .ok (.slice (some ⟨w.heap.size, 0, none⟩) xs.length xs.length) (w.alloc (.cells (vs.map fun v => v.cells.toList).flatten.toArray et)) := by
 have hl := hv.len
 have hfin : Instr.fill (fun i => some (i * GoT.k α, GoT.k α)) ((Array.range (xs.length * GoT.k α)).map (fun i => zv.cells[i % zv.cells.size]!)) (Km 0 vs) = some (vs.map fun v => v.cells.toList).flatten.toArray := by
  rw [← hzs, Fp zv.cells xs.length]
  have hc : ∀ c ∈ List.replicate xs.length zv.cells.toList, c.length = zv.cells.size := fun c hc => by rw [(List.mem_replicate.1 hc).2]; simp
  have h1 := V0 (place := fun i => some (i * zv.cells.size, zv.cells.size)) (Km 0 vs) (List.replicate xs.length zv.cells.toList) (fun i c hi => by rw [Hy _ 0 i c hc hi, Nat.zero_add])
   (Uh (s := zv.cells.size) vs 0 _ (by simp [hl]) hc (fun v hv' => by rw [hzs]; exact hv.fit v hv'))
  rw [h1, Ug vs 0 _ (by simp [hl])]
  simp
 have h24 : ¬ (xs.length * GoT.k α > 2 ^ 24) := by omega
 by_cases h0 : xs.length * GoT.k α = 0
 ·have hx0 : xs.length = 0 := by rcases Nat.mul_eq_zero.1 h0 with h | h <;> omega
  have hvs : vs = [] := List.eq_nil_of_length_eq_zero (by omega)
  subst hvs
  simp only [Instr.buildSlice, Sem.run_bind, run_underlying ht, Result.andThen_ok, hs, hx0, Nat.zero_mul]
  simp [Km, Instr.fill, newRow]
  rw [show Array.range 0 = #[] from by simp [Array.range], Array.map_empty]
 ·simp only [Instr.buildSlice, Sem.run_bind, run_underlying ht, Result.andThen_ok, hs]
  rw [if_neg h24]
  simp only [if_neg h0, Sem.run_bind, hz, Result.andThen_ok, Sem.run_pure]
  simp only [hfin]
  simp [newRow]
theorem Ga {α : Type} [GoT α] (i : Nat) {t et : TypeId} {zv : Value} {n : Nat} {os : List (Nat × Operand)} {xs : List α} {vs : List Value}
  (ht : P.underlying t = some (.slice et)) (hs : ∀ w, (sizeOf et).run P w = .ok (GoT.k α) w) (hz : ∀ w, (zeroValue et).run P w = .ok zv w) (hzs : zv.cells.size = GoT.k α) (hk : Nat.blt 0 (GoT.k α) = true)
  (hps : Parts e os (Km 0 vs)) (hv : RVs g.m w xs vs) (hn : n = xs.length) (hsm : Nat.ble (xs.length * GoT.k α) 16777216 = true)
  (h : ∀ g' w' v, Stp i g w g' w' → OS i g' w' et xs v → RV g'.m w' xs v → Ext g w g' w' → Hl v → K v w') : Doe P (.buildSlice t n os.toArray) e w K := fun d ty pos af gd => by
 subst hn
 have hrun := Jl (P := P) ht hs hz hzs (Nat.le_of_ble_eq_true hk) hv (Nat.le_of_ble_eq_true hsm)
 have hflat := hv.flat
 have hl := hflat.len
 generalize hcs : (vs.map fun v => v.cells.toList).flatten = cs at hrun hflat hl
 have hst := Hs i g w cs.toArray et (xs.length * GoT.k α)
 have hrun2 : (execOp (ev e) ⟨d, .buildSlice t xs.length os.toArray, ty, pos, af, gd⟩).run P w = .ok (.value (.slice (some ⟨w.heap.size, 0, none⟩) xs.length xs.length)) (w.alloc (.cells cs.toArray et)) := by
  simp only [execOp, List.map_toArray, hps.map, Sem.run_bind, hrun, Result.andThen_ok, Sem.run_pure]
 unfold doE; rw [hrun2]
 refine h _ _ _ hst (.inr ⟨w.heap.size, xs.length, _, rfl, Tj _ _ _, Tj _ _ _, Wd _ _, Nat.le_refl _, ?_, by simpa using hl⟩)
  (Q4 rfl (Nat.le_refl _) fun _ => ⟨w.heap.size, 0, rfl, by simp, by rw [Nat.zero_add]; exact Nat.le_of_eq (Tj _ _ _).symm, (hflat.ch hst.ch).row fun j v hj => ?_⟩)
  ⟨(Below.refl _ w).alloc (Nat.le_refl _) _, fun b hb => Q1 _ _ (by omega), fun b hb => Q1 _ _ (by omega)⟩ (fun a n c h => by injection h with _ h1 h2; exact h1.symm.trans h2)
 ·have h1 : xs.length * GoT.k α ≤ 16777216 := Nat.le_of_ble_eq_true hsm
  have h2 : xs.length ≤ xs.length * GoT.k α := Nat.le_mul_of_pos_right _ (Nat.le_of_ble_eq_true hk)
  simp only [maxLen]; omega
 ·rw [Nat.zero_add, H5, List.getElem?_toArray]; exact hj

/-! ### Cuts -/
def cut {α : Type} (xs : List α) (lo hi : Int) : Option (List α) := if 0 ≤ lo ∧ lo ≤ hi ∧ hi ≤ xs.length then some ((xs.take hi.toNat).drop lo.toNat) else none
def Kf (v : Value) (l h k : Nat) : Value :=
 match v with
 | .slice a _ c => .slice (if c = l then a else a.map (·.add (l * k))) (h - l) (c - l)
 | _ => undef
theorem U7 {α : Type} [GoT α] {m : Nat → Nat} {v : Value} {xs r : List α} {l h : Int} (hv : RV m w xs v) (hc : cut xs l h = some r) : RV m w r (Kf v l.toNat h.toNat (GoT.k α)) := by
 obtain ⟨a, c, rfl, hxc, hr⟩ := Qc hv
 unfold cut at hc
 split at hc
 case isFalse => cases hc
 rename_i hb
 injection hc with hc
 subst hc
 obtain ⟨h0, hlh, hhl⟩ := hb
 have hlen : ((xs.take h.toNat).drop l.toNat).length = h.toNat - l.toNat := by rw [List.length_drop, List.length_take]; omega
 refine Q4 hlen.symm (by rw [hlen]; omega) fun hp => ?_
 rw [hlen] at hp
 have hx0 : 0 < xs.length := by clear hr; omega
 have hc0 : ¬c = l.toNat := by clear hr; omega
 obtain ⟨b, off, rfl, hb, hm, hrow⟩ := hr hx0
 clear hr
 rw [if_neg hc0]
 refine ⟨b, off + l.toNat * GoT.k α, by simp [Wb], hb, ?_, fun i x hi => ?_⟩
 ·rw [hlen, Nat.add_assoc, ← Nat.add_mul]
  have : (l.toNat + (h.toNat - l.toNat)) * GoT.k α ≤ xs.length * GoT.k α := Nat.mul_le_mul_right _ (by omega)
  omega
 ·rw [List.getElem?_drop, List.getElem?_take] at hi
  split at hi
  ·obtain ⟨cs, hrep, hcell⟩ := hrow _ x hi
   refine ⟨cs, hrep, fun j v hj => ?_⟩
   rw [← hcell j v hj, Nat.add_mul, Nat.add_assoc off]
  ·cases hi
theorem X9 {α : Type} [GoT α] {m : Nat → Nat} {t et : TypeId} {v : Value} {xs r : List α} {lo hi : Option Operand} {l h : Int} (ht : P.underlying t = some (.slice et)) (hs : ∀ w, (sizeOf et).run P w = .ok (GoT.k α) w)
  (hx : ev e x = v) (hv : RV m w xs v) (hlo : match lo with | some o => ev e o = .int .i64 l | none => l = 0) (hhi : match hi with | some o => ev e o = .int .i64 h | none => h = xs.length) (hc : cut xs l h = some r) :
  Pur P (.slice t x lo hi none) e (Kf v l.toNat h.toNat (GoT.k α)) := fun _ _ _ _ _ _ => by
 obtain ⟨a, c, rfl, hxc, hrow⟩ := Qc hv
 unfold cut at hc
 split at hc
 case isFalse => cases hc
 rename_i hb
 obtain ⟨h0, hlh, hhl⟩ := hb
 obtain ⟨ln, rfl⟩ := Int.eq_ofNat_of_zero_le h0
 obtain ⟨hn, rfl⟩ := Int.eq_ofNat_of_zero_le (Int.le_trans h0 hlh)
 have hlh' : ln ≤ hn := by omega
 have hhl' : hn ≤ xs.length := by omega
 have hb3 : hn ≤ c := by omega
 simp only [Int.toNat_natCast]
 cases lo with
 | none =>
  simp only at hlo
  have : ln = 0 := by omega
  subst this
  cases hi with
  | none =>
   simp only at hhi
   have : hn = xs.length := by omega
   subst this
   simp [execOp, hx, Instr.sliceAt, Instr.slice, run_underlying ht, Instr.sliceBounds, hs, Kf]
  | some oh =>
   simp only at hhi
   simp [execOp, hx, hhi, Instr.sliceAt, Instr.slice, run_underlying ht, Instr.sliceBounds, Instr.sliceBound, asIntOf, hs, hb3, Kf]
 | some ol =>
  simp only at hlo
  cases hi with
  | none =>
   simp only at hhi
   have : hn = xs.length := by omega
   subst this
   simp [execOp, hx, hlo, Instr.sliceAt, Instr.slice, run_underlying ht, Instr.sliceBounds, Instr.sliceBound, asIntOf, hs, hlh', Kf]
  | some oh =>
   simp only at hhi
   simp [execOp, hx, hlo, hhi, Instr.sliceAt, Instr.slice, run_underlying ht, Instr.sliceBounds, Instr.sliceBound, asIntOf, hs, hb3, hlh', Kf]
end
end Go.Proofs.YtmebkoemfjlbcaaGreatDoor
