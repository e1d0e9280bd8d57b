/- Own maps, conversions of strings and bytes, slices handed out. No program is named here. -/
import Derived.Test.YtmebkoemfjlbcaaGreatDoorSb
import Derived.Maps.RangeRun
import Derived.Laws.IdiomStrings
namespace Go.Proofs.YtmebkoemfjlbcaaGreatDoor
open Go.RowKit
open Go.ChangeMaps (setBlock)

/-! ### Maps as lists of entries, in the order in which they were laid -/
def Jq {κ ν : Type} [DecidableEq κ] (m : List (κ × ν)) (k : κ) : Option ν := (m.find? fun p => decide (p.1 = k)).map (·.2)
def Bp {κ ν : Type} [DecidableEq κ] : List (κ × ν) → κ → ν → List (κ × ν)
 | [], k, v => [(k, v)]
 | p :: m, k, v => if p.1 = k then (k, v) :: m else p :: Bp m k v
def Rl (P : Program) (kt : TypeId) {κ : Type} [DecidableEq κ] (enc : κ → Value) : Prop :=
 (∀ a w empty, (Instr.checkKey empty 10000 kt (enc a)).run P w = .ok () w) ∧ (∀ a w, (Instr.keyThatStays (enc a) (enc a)).run P w = .ok (enc a) w) ∧
 ∀ (a : κ) (w : World) (es : List MapEntry) (ks : List κ), es.map (·.key) = ks.map enc → (Instr.findKey kt (enc a) es).run P w = .ok ((ks.findIdx? fun x => decide (x = a)).bind fun i => (es[i]?).map fun e => (i, e.val)) w
def Jp {κ ν : Type} [GoT ν] (enc : κ → Value) (m : Nat → Nat) (w : World) : List MapEntry → List (κ × ν) → Prop
 | [], l => l = []
 | e :: es, l => ∃ p l', l = p :: l' ∧ e.key = enc p.1 ∧ RV m w p.2 e.val ∧ Jp enc m w es l'
def MP {κ ν : Type} [GoT ν] (enc : κ → Value) (i : Nat) (g : Gh) (w : World) (m : List (κ × ν)) (v : Value) : Prop :=
 ∃ b es clock, v = .map (some b) ∧ g.o b = i ∧ w.heap[b]? = some (.map es clock) ∧ (∀ e ∈ es.toList, e.born < clock) ∧ (es.toList.map (·.born)).Nodup ∧ Jp enc g.m w es.toList m
section
variable {κ ν : Type} [GoT ν] {enc : κ → Value}
theorem Jp.ch {m m' : Nat → Nat} {w w' : World} (k : Ch m w m' w') : ∀ {es : List MapEntry} {l : List (κ × ν)}, Jp enc m w es l → Jp enc m' w' es l
 | [], _, h => h
 | _ :: _, _, ⟨p, l', h1, h2, h3, h4⟩ => ⟨p, l', h1, h2, h3.ch k, Jp.ch k h4⟩
theorem Jp.keys {m : Nat → Nat} {w : World} : ∀ {es : List MapEntry} {l : List (κ × ν)}, Jp enc m w es l → es.map (·.key) = (l.map (·.1)).map enc
 | [], _, h => by rw [show _ = [] from h]; rfl
 | _ :: _, _, ⟨p, l', h1, h2, _, h4⟩ => by subst h1; simp [h2, h4.keys]
theorem Jp.len {m : Nat → Nat} {w : World} : ∀ {es : List MapEntry} {l : List (κ × ν)}, Jp enc m w es l → es.length = l.length
 | [], _, h => by rw [show _ = [] from h]; rfl
 | _ :: _, _, ⟨p, l', h1, _, _, h4⟩ => by subst h1; simp [h4.len]
theorem Jp.get {m : Nat → Nat} {w : World} : ∀ {es : List MapEntry} {l : List (κ × ν)}, Jp enc m w es l → ∀ {i : Nat} {e : MapEntry}, es[i]? = some e → ∃ p, l[i]? = some p ∧ e.key = enc p.1 ∧ RV m w p.2 e.val
 | [], _, _, _, _, hi => by simp at hi
 | _ :: _, _, ⟨p, l', h1, h2, h3, _⟩, 0, e, hi => by subst h1; simp at hi; subst hi; exact ⟨p, rfl, h2, h3⟩
 | _ :: _, _, ⟨p, l', h1, _, _, h4⟩, i + 1, e, hi => by subst h1; simp at hi; obtain ⟨q, hq⟩ := h4.get hi; exact ⟨q, by simpa using hq.1, hq.2⟩
theorem Jp.snoc {m : Nat → Nat} {w : World} {e : MapEntry} {p : κ × ν} (h1 : e.key = enc p.1) (h2 : RV m w p.2 e.val) : ∀ {es : List MapEntry} {l : List (κ × ν)}, Jp enc m w es l → Jp enc m w (es ++ [e]) (l ++ [p])
 | [], _, h => by rw [show _ = [] from h]; exact ⟨p, [], rfl, h1, h2, rfl⟩
 | _ :: _, _, ⟨q, l', h, h3, h4, h5⟩ => by subst h; exact ⟨q, l' ++ [p], rfl, h3, h4, Jp.snoc h1 h2 h5⟩
theorem Jp.put {m : Nat → Nat} {w : World} {k : κ} {v : ν} {u : Value} (h2 : RV m w v u) : ∀ {es : List MapEntry} {l : List (κ × ν)} {i : Nat}, Jp enc m w es l → Jp enc m w (es.modify i fun e => { e with key := enc k, val := u }) (l.modify i fun _ => (k, v))
 | [], _, _, h => by rw [show _ = [] from h]; simp [Jp]
 | e :: es, _, 0, ⟨q, l', h, _, _, h5⟩ => by subst h; exact ⟨(k, v), l', by simp, rfl, h2, h5⟩
 | e :: es, _, i + 1, ⟨q, l', h, h3, h4, h5⟩ => by subst h; exact ⟨q, l'.modify i fun _ => (k, v), by simp, h3, h4, Jp.put h2 h5⟩
variable {i j B : Nat} {g g' : Gh} {w w' : World} {m : List (κ × ν)} {v : Value}
theorem MP.stp (h : MP enc i g w m v) (k : Stp j g w g' w') (hne : Nat.beq i j = false) : MP enc i g' w' m v := by
 obtain ⟨b, es, cl, hv, ho, hh, h1, h2, h3⟩ := h
 have hij : g.o b ≠ j := by rw [ho]; intro he; rw [he] at hne; simp at hne
 exact ⟨b, es, cl, hv, (k.o b (Gw hh) hij).trans ho, (k.block b (Gw hh) hij).trans hh, h1, h2, h3.ch k.ch⟩
end
theorem Bx {κ ν : Type} [DecidableEq κ] {k : κ} {v : ν} : ∀ {m : List (κ × ν)}, (m.map (·.1)).findIdx? (fun x => decide (x = k)) = none → Bp m k v = m ++ [(k, v)]
 | [], _ => rfl
 | p :: m, h => by
  simp only [List.map_cons, List.findIdx?_cons] at h
  by_cases hp : p.1 = k
  ·simp [hp] at h
  ·simp only [hp, decide_false, Bool.false_eq_true, if_false, Option.map_eq_none_iff] at h
   simp only [Bp, if_neg hp, Bx h, List.cons_append]
theorem Bs {κ ν : Type} [DecidableEq κ] {k : κ} {v : ν} : ∀ {m : List (κ × ν)} {i : Nat}, (m.map (·.1)).findIdx? (fun x => decide (x = k)) = some i → Bp m k v = m.modify i fun _ => (k, v)
 | [], _, h => by simp at h
 | p :: m, i, h => by
  simp only [List.map_cons, List.findIdx?_cons] at h
  by_cases hp : p.1 = k
  ·simp [hp] at h; subst h; simp [Bp, hp]
  ·simp only [hp, decide_false, Bool.false_eq_true, if_false, Option.map_eq_some_iff] at h
   obtain ⟨j, hj, rfl⟩ := h
   simp only [Bp, if_neg hp, Bs hj, List.modify_succ_cons]
theorem Lu {κ ν : Type} [DecidableEq κ] {k : κ} : ∀ {m : List (κ × ν)}, Jq m k = ((m.map (·.1)).findIdx? fun x => decide (x = k)).bind fun i => (m[i]?).map (·.2)
 | [] => rfl
 | p :: m => by
  have ih := Lu (k := k) (m := m)
  unfold Jq at ih ⊢
  simp only [List.map_cons, List.findIdx?_cons, List.find?_cons]
  by_cases hp : p.1 = k
  ·simp [hp]
  ·simp only [hp, decide_false, Bool.false_eq_true, if_false, ih]
   cases (m.map (·.1)).findIdx? (fun x => decide (x = k)) with
   | none => rfl
   | some i => simp
section
variable {P : Program} {e : Env} {w : World} {g : Gh} {K : Value → World → Prop} {x y z : Operand} {κ ν : Type} [GoT ν] {enc : κ → Value}
theorem L6 (enc : κ → Value) (ν : Type) [GoT ν] (i : Nat) {t : TypeId} (h : ∀ g' w' v, Stp i g w g' w' → MP (ν := ν) enc i g' w' [] v → K v w') : Doe P (.makeMap t none) e w K := fun d ty pos af gd => by
 have hrun : (execOp (ev e) ⟨d, .makeMap t none, ty, pos, af, gd⟩).run P w = .ok (.value (.map (some w.heap.size))) (w.alloc (.map #[] 0)) := by
  simp [execOp, Instr.makeMap, Result.andThen]
 unfold doE; rw [hrun]
 exact h _ _ _ (Jj i g w (.map #[] 0)).stp ⟨_, #[], 0, rfl, Tj _ _ _, Wd _ _, by simp, by simp, rfl⟩
theorem Ls {i b : Nat} {es es' : Array MapEntry} {c c' : Nat} (ho : g.o b = i) (hh : w.heap[b]? = some (.map es c)) : Stp i g w g (setBlock w b (.map es' c')) ∧ (setBlock w b (.map es' c')).heap[b]? = some (.map es' c') := by
 have h1 : (setBlock w b (.map es' c')).heap[b]? = some (.map es' c') := ChangeMaps.heap_setBlock_same hh _
 refine ⟨⟨rfl, rfl, rfl, ⟨by simp [setBlock], fun _ _ => Nat.le_refl _, fun k hk j _ => ?_⟩, fun k hk hn => ChangeMaps.heap_setBlock_other hh _ (fun he => hn (by rw [he]; exact ho)), fun _ _ _ => rfl, fun _ _ _ => rfl⟩, h1⟩
 by_cases hkb : k = b
 ·subst hkb; simp only [World.cell?, h1, hh]
 ·simp only [World.cell?, ChangeMaps.heap_setBlock_other hh _ hkb]
variable [DecidableEq κ]
theorem Ck {i : Nat} {t kt et : TypeId} {m : List (κ × ν)} {mv u : Value} {k : κ} {v : ν} (ht : P.underlying t = some (.map kt et)) (hk : Rl P kt enc) (hx : ev e x = mv) (hm : MP enc i g w m mv) (hy : ev e y = enc k) (hz : ev e z = u) (hv : RV g.m w v u)
  (h : ∀ g' w', Stp i g w g' w' → MP enc i g' w' (Bp m k v) mv → K undef w') : Doe P (.mapUpdate t x y z) e w K := fun d ty pos af gd => by
 obtain ⟨b, es, cl, rfl, ho, hh, hb1, hb2, her⟩ := hm
 have hf := hk.2.2 k w es.toList (m.map (·.1)) her.keys
 have hget : (getObj b).run P w = .ok (.map es cl) w := by simp [getObj, Sem.run, hh]
 cases hi : (m.map (·.1)).findIdx? (fun x => decide (x = k)) with
 | none =>
  have hst := Ls (es' := es.push { key := enc k, val := u, born := cl }) (c' := cl + 1) ho hh
  have hrun : (execOp (ev e) ⟨d, .mapUpdate t x y z, ty, pos, af, gd⟩).run P w = .ok .skip (setBlock w b (.map (es.push { key := enc k, val := u, born := cl }) (cl + 1))) := by
   rw [hi] at hf
   simp only [execOp, hx, hy, hz, Instr.mapUpdate, Sem.run_bind, run_underlying ht, Result.andThen_ok, hget, hk.1, hf, Option.bind_none]
   simp [setObj, Sem.run, hh, setBlock]
  unfold doE; rw [hrun]
  refine h g _ hst.1 ⟨b, _, _, rfl, ho, hst.2, fun en hen => ?_, ?_, ?_⟩
  ·simp only [Array.toList_push, List.mem_append, List.mem_singleton] at hen
   rcases hen with hen | rfl
   ·have := hb1 en hen; omega
   ·show cl < cl + 1; omega
  ·simp only [Array.toList_push, List.map_append, List.map_cons, List.map_nil]
   refine List.nodup_append.2 ⟨hb2, by simp, fun a ha b hb => ?_⟩
   obtain ⟨en, hen, rfl⟩ := List.mem_map.1 ha
   have := hb1 en hen
   simp at hb; subst hb
   omega
  ·rw [Array.toList_push, Bx hi]
   exact Jp.snoc (p := (k, v)) rfl (hv.ch hst.1.ch) (her.ch hst.1.ch)
 | some i' =>
  have hlt : i' < m.length := by have := List.findIdx?_eq_some_iff_findIdx_eq.1 hi; simpa using this.1
  have hl := her.len
  have hie : ∃ en, es.toList[i']? = some en := ⟨_, List.getElem?_eq_getElem (by omega)⟩
  obtain ⟨en, hen⟩ := hie
  obtain ⟨p, hp, hkey, _⟩ := her.get hen
  have hpk : p.1 = k := by
   have h1 := List.findIdx?_eq_some_iff_getElem.1 hi
   obtain ⟨hlt', h2, _⟩ := h1
   have h3 := (List.getElem?_eq_some_iff.1 hp).2
   simp only [List.getElem_map, decide_eq_true_eq] at h2
   rw [← h3]; exact h2
  have hen2 : es[i']? = some en := by simpa using hen
  have hst := Ls (es' := es.modify i' fun q => { q with key := enc k, val := u }) (c' := cl) ho hh
  have hrun : (execOp (ev e) ⟨d, .mapUpdate t x y z, ty, pos, af, gd⟩).run P w = .ok .skip (setBlock w b (.map (es.modify i' fun q => { q with key := enc k, val := u }) cl)) := by
   rw [hi] at hf
   simp only [Option.bind_some, hen, Option.map_some] at hf
   have hks := hk.2.1 k w
   have hke : en.key = enc k := by rw [hkey, hpk]
   simp only [execOp, hx, hy, hz, Instr.mapUpdate, Sem.run_bind, run_underlying ht, Result.andThen_ok, hget, hk.1, hf, hen2, Option.map_some, Option.getD_some, hke, hks]
   simp [setObj, Sem.run, hh, setBlock]
  unfold doE; rw [hrun]
  refine h g _ hst.1 ⟨b, _, _, rfl, ho, hst.2, fun q hq => ?_, ?_, ?_⟩
  ·simp only [Array.toList_modify] at hq
   obtain ⟨n, hn⟩ := List.getElem?_of_mem hq
   rw [List.getElem?_modify] at hn
   obtain ⟨q0, hq0, hq1⟩ := Option.map_eq_some_iff.1 hn
   have := hb1 q0 (List.mem_of_getElem? hq0)
   split at hq1 <;> (subst hq1; exact this)
  ·have : (es.modify i' fun q => { q with key := enc k, val := u }).toList.map (·.born) = es.toList.map (·.born) := by
    apply List.ext_getElem?
    intro n
    simp only [Array.toList_modify, List.getElem?_map, List.getElem?_modify]
    cases es.toList[n]? with
    | none => rfl
    | some q => simp only [Option.map_some]; split <;> rfl
   rw [this]; exact hb2
  ·rw [Array.toList_modify, Bs hi]
   exact Jp.put (hv.ch hst.1.ch) (her.ch hst.1.ch)
theorem Fl {i : Nat} {t kt et : TypeId} {m : List (κ × ν)} {mv zv : Value} {k : κ} {z0 : ν} (ht : P.underlying t = some (.map kt et)) (hk : Rl P kt enc) (hz : ∀ w, (zeroValue et).run P w = .ok zv w) (hzr : ∀ m w, RV m w z0 zv) (hx : ev e x = mv) (hm : MP enc i g w m mv) (hy : ev e y = enc k)
  (h : ∀ v, RV g.m w ((Jq m k).getD z0) v → K (.tuple #[v, .bool (Jq m k).isSome]) w) : Doe P (.lookup t x y true) e w K := fun d ty pos af gd => by
 obtain ⟨b, es, cl, rfl, ho, hh, hb1, hb2, her⟩ := hm
 have hf := hk.2.2 k w es.toList (m.map (·.1)) her.keys
 have hget : (getObj b).run P w = .ok (.map es cl) w := by simp [getObj, Sem.run, hh]
 have hmg := Lu (m := m) (k := k)
 cases hi : (m.map (·.1)).findIdx? (fun x => decide (x = k)) with
 | none =>
  rw [hi] at hf hmg
  have hrun : (execOp (ev e) ⟨d, .lookup t x y true, ty, pos, af, gd⟩).run P w = .ok (.value (.tuple #[zv, .bool false])) w := by
   simp [execOp, hx, hy, Instr.lookup, Sem.run_bind, run_underlying ht, hget, hk.1, hf, hz]
  unfold doE; rw [hrun]
  have h1 := h zv (by rw [hmg]; exact hzr _ _)
  rw [hmg] at h1; exact h1
 | some i' =>
  have hlt : i' < m.length := by have := List.findIdx?_eq_some_iff_findIdx_eq.1 hi; simpa using this.1
  have hl := her.len
  have hen : es.toList[i']? = some es.toList[i'] := List.getElem?_eq_getElem (by omega)
  obtain ⟨p, hp, _, hpr⟩ := her.get hen
  rw [hi] at hf hmg
  simp only [Option.bind_some, hen, Option.map_some, hp] at hf hmg
  have hrun : (execOp (ev e) ⟨d, .lookup t x y true, ty, pos, af, gd⟩).run P w = .ok (.value (.tuple #[es.toList[i'].val, .bool true])) w := by
   simp [execOp, hx, hy, Instr.lookup, Sem.run_bind, run_underlying ht, hget, hk.1, hf]
  unfold doE; rw [hrun]
  have h1 := h es.toList[i'].val (by rw [hmg]; exact hpr)
  rw [hmg] at h1; exact h1
end
/-! ### Ranges over own maps -/
/-! ### Strings and bytes -/
section
variable {P : Program} {e : Env} {w : World} {g : Gh} {K : Value → World → Prop} {x y z : Operand}
theorem Sh {m : Nat → Nat} {t1 t2 et : TypeId} {xs : List UInt8} {v : Value} (h1 : P.underlying t1 = some (.slice et)) (h2 : P.underlying t2 = some .string) (h3 : P.underlying et = some (.int .u8)) (hx : ev e x = v) (hv : RV m w xs v)
  (h : K (Str.v ⟨xs⟩) w) : Doe P (.convert t1 t2 x) e w K := fun d ty pos af gd => by
 obtain ⟨a, c, rfl, hc, hr⟩ := Qc hv
 have hrun : (convert t1 t2 (.slice a xs.length c)).run P w = .ok (Str.v ⟨xs⟩) w := by
  rcases Nat.eq_zero_or_pos xs.length with h0 | h0
  ·have hx0 : xs = [] := List.eq_nil_of_length_eq_zero h0
   subst hx0
   cases a with
   | none => exact run_convert_bytes_nil w t1 et h1 h3 0 c t2 h2
   | some ad => exact run_convert_bytes_back (P := P) w t1 t2 et ad c [] h1 h3 h2 (fun j hj => absurd hj (by simp))
  ·obtain ⟨b, off, rfl, _, _, hrow⟩ := hr h0
   obtain ⟨fl, hf, hcell⟩ := hrow.flat
   refine run_convert_bytes_back (P := P) w t1 t2 et ⟨b, off, none⟩ c xs h1 h3 h2 fun j hj => ?_
   rw [Wb]
   exact hcell j _ (S3 hf j xs[j] (List.getElem?_eq_getElem hj))
 have hrun2 : (execOp (ev e) ⟨d, .convert t1 t2 x, ty, pos, af, gd⟩).run P w = .ok (.value (Str.v ⟨xs⟩)) w := by
  simp only [execOp, hx, Sem.run_bind, hrun, Result.andThen_ok, Sem.run_pure]
 unfold doE; rw [hrun2]; exact h

/-! ### Slices that are handed out to be written -/
theorem J8 : Uz Int := fun _ _ _ _ _ _ h => h
theorem Un {α β : Type} [GoT α] [GoT β] (h1 : Uz α) (h2 : Uz β) : Uz (α × β) := fun _ m' _ w' _ _ ⟨c1, c2, he, k1, k2⟩ => ⟨c1, c2, he, h1 _ m' _ w' _ _ k1, h2 _ m' _ w' _ _ k2⟩
end
end Go.Proofs.YtmebkoemfjlbcaaGreatDoor
