/- slices.SortFunc at structs without pointers, by the kit's shelf, as this logic's contract. No program is named here. -/
import Derived.Test.YtmebkoemfjlbcaaGreatDoorSf
import Derived.Shelf.SlSortCmp.InsertionK
import Derived.Sort.AssemblyPlain
import Derived.Test.YtmebkoemfjlbcaaGreatDoorWr
namespace Go.Proofs.YtmebkoemfjlbcaaGreatDoor
open Go.RowKit Go.Sort

section
variable {α : Type} [GoT α] [Inhabited α] {enc : α → List Value}
structure Enc (α : Type) [GoT α] (enc : α → List Value) : Prop where
 rep : ∀ (m : Nat → Nat) (w : World) (x : α) (cs : List Value), GoT.rep m w x cs ↔ cs = enc x
 len : ∀ x, (enc x).length = GoT.k α
 one : ∀ x, ∀ v ∈ enc x, v.oneCell' = true
 pos : 0 < GoT.k α
omit [Inhabited α] in
theorem Enc.flat (h : Enc α enc) (m : Nat → Nat) (w : World) : ∀ xs : List α, Tn m w xs (xs.map enc).flatten
 | [] => rfl
 | x :: xs => ⟨enc x, (xs.map enc).flatten, rfl, (h.rep _ _ _ _).2 rfl, h.flat m w xs⟩
theorem Enc.get (h : Enc α enc) {m : Nat → Nat} {w : World} {xs : List α} {cs : List Value} (hf : Tn m w xs cs) {t : Nat} (ht : t < xs.length * GoT.k α) : cs[t]? = some (flatK enc (GoT.k α) xs.toArray)[t]! := by
 have hk := h.pos
 have hi : t / GoT.k α < xs.length := (Nat.div_lt_iff_lt_mul hk).2 ht
 have hj : t % GoT.k α < GoT.k α := Nat.mod_lt _ hk
 obtain ⟨c, hc, hg⟩ := hf.get (i := t / GoT.k α) (List.getElem?_eq_getElem hi)
 have hc : c = enc xs[t / GoT.k α] := (h.rep _ _ _ _).1 hc
 have hl : t % GoT.k α < c.length := by rw [hc, h.len]; exact hj
 have h1 := hg _ _ (List.getElem?_eq_getElem hl)
 rw [Nat.div_add_mod' t] at h1
 rw [h1, get_flatK _ _ _ _ (by simpa using ht)]
 subst hc
 rw [show (xs.toArray)[t / GoT.k α]! = xs[t / GoT.k α] by rw [getElem!_pos _ _ (by simpa using hi)]; simp]
 rw [getElem!_pos (enc xs[t / GoT.k α]) _ hl]
theorem Enc.take (h : Enc α enc) {m : Nat → Nat} {w : World} {xs : List α} {cs : Array Value} (hg : ∀ t, t < xs.length * GoT.k α → cs[t]? = some (flatK enc (GoT.k α) xs.toArray)[t]!) : Tn m w xs (cs.toList.take (xs.length * GoT.k α)) := by
 have hf := h.flat m w xs
 have hl := hf.len
 have e : cs.toList.take (xs.length * GoT.k α) = (xs.map enc).flatten := by
  apply List.ext_getElem?
  intro t
  rw [List.getElem?_take]
  split
  ·rename_i ht
   rw [Array.getElem?_toList, hg t ht, h.get hf ht]
  ·rename_i ht
   rw [List.getElem?_eq_none (by omega)]
 rw [e]; exact hf
end
noncomputable def Bu {α : Type} [Inhabited α] (xs : List α) (φ : α → α → Option Int) : Option (List α) := by
 classical exact if (∀ a b, (φ a b).isSome = true) ∧ SWO (ltOf fun a b => (φ a b).getD 0) ∧ xs.length < 4611686018427387904 then some (pdq (ltOf fun a b => (φ a b).getD 0) xs.toArray 0 xs.length (Lib.bitLen xs.length) true true).toList else none
structure O2 (P : Program) (f : FuncId) {α : Type} [GoT α] [Inhabited α] (enc : α → List Value) : Prop where
 row : ∀ (cf : α → α → Int), SWO (ltOf cf) → ∀ (g : Nat) (blk off cap : Nat) (d : Array α) (w : World), (∀ args w, (callFunc g args).run P w = .ok (.enter g args) w) → CmpLays P g #[] enc (GoT.k α) cf blk off d.size w → HoldsK enc (GoT.k α) w blk off d → blk < w.heap.size → d.size < 4611686018427387904 →
  Calls P f #[.slice (some ⟨blk, off, none⟩) d.size cap, .func (.func g) #[] #[]] w fun e w' => e = .returned (.tuple #[]) ∧ ∃ n os, w' = sortWorldK enc (GoT.k α) w blk off n (pdq (ltOf cf) d 0 d.size (Lib.bitLen d.size) true true) os
 none : ∀ (g : Nat) (w : World), Calls P f #[.slice none 0 0, .func (.func g) #[] #[]] w fun e w' => e = .returned (.tuple #[]) ∧ w' = w
section
variable {P : Program} {f gq : FuncId} {α : Type} [GoT α] [Inhabited α] {enc : α → List Value}
omit [GoT α] in
theorem Fy {φ : α → α → Option Int} {r : List α} (h : Bu [] φ = some r) : r = [] := by
 unfold Bu at h
 split at h
 ·injection h with h
  rename_i hc
  have hp := pdq_sorts (ltOf fun a b => (φ a b).getD 0) hc.2.1 (#[] : Array α) 0 0 (Lib.bitLen 0) true true (Nat.le_refl _) (Nat.le_refl _) (.inl rfl)
  have := hp.1.1
  rw [← h]
  exact List.eq_nil_of_length_eq_zero (by simpa using this)
 ·cases h
theorem Ab (hE : Enc α enc) (hS : O2 P f enc) (ent : ∀ args w, (callFunc gq args).run P w = .ok (.enter gq args) w) {φ : α → α → Option Int}
  (hc : ∀ (g : Gh) (w : World) (x y : α) (z : Int), φ x y = some z → FnD P gq #[.agg (enc x).toArray, .agg (enc y).toArray] g w (fun _ _ v => v = .int .i64 z))
  {i : Nat} {g : Gh} {w : World} {et : TypeId} {xs r : List α} {v : Value} (hv : OM i g w et xs v) (h : Bu xs φ = some r) :
  FnM P f #[v, .func (.func gq) #[] #[]] i g w (fun g w u => u = .tuple #[] ∧ OM i g w et r v) := by
 rcases hv with ⟨rfl, rfl⟩ | ⟨b, c, cs, rfl, hlc, ho, hm, hh, hsz, hf⟩
 ·obtain rfl := Fy h
  refine Calls.mono (hS.none gq w) ?_
  rintro e w' ⟨rfl, rfl⟩
  exact ⟨_, rfl, g, (Ext.refl g _).stp, rfl, .inl ⟨rfl, rfl⟩⟩
 unfold Bu at h
 split at h
 case isFalse => cases h
 rename_i hcd
 obtain ⟨ht, hO, hn⟩ := hcd
 injection h with h
 have hholds : HoldsK enc (GoT.k α) w b 0 xs.toArray := fun j hj => by
  have hj' : j < xs.length * GoT.k α := by simpa using hj
  refine ⟨?_, ?_⟩
  ·rw [Nat.zero_add, hh.cell]
   have h1 := hE.get hf hj'
   rw [List.getElem?_take, if_pos hj', Array.getElem?_toList] at h1
   exact h1
  ·obtain ⟨fr, hfr, hok⟩ := hh
   have := hok.not (j := j) (by omega)
   simp [World.frozen?, hfr] at this ⊢
   omega
 have hcmp : CmpLays P gq #[] enc (GoT.k α) (fun a b => (φ a b).getD 0) b 0 xs.toArray.size w := fun m os dk hs x y => by
  obtain ⟨z, hz⟩ := Option.isSome_iff_exists.1 (ht x y)
  refine Calls.mono (hc ⟨fun _ => 0, fun _ => 0⟩ (sortWorldK enc (GoT.k α) w b 0 m dk os) x y z hz) ?_
  rintro e w' ⟨u, rfl, g', ⟨hx, hd⟩, rfl⟩
  exact ⟨by show _ = Ending.returned (.int .i64 ((φ x y).getD 0)); rw [hz]; rfl, N3 hx.below hd⟩
 have hrun := hS.row _ hO gq b 0 c xs.toArray w ent hcmp hholds hh.lt (by simpa using hn)
 have hsorts := pdq_sorts (ltOf fun a b => (φ a b).getD 0) hO xs.toArray 0 xs.toArray.size (Lib.bitLen xs.toArray.size) true true (Nat.zero_le _) (Nat.le_refl _) (.inl rfl)
 have hrl : r.length = xs.length := by rw [← h]; have := hsorts.1.1; simpa using this
 simp only [List.size_toArray] at hrun
 refine Calls.mono hrun ?_
 rintro e w' ⟨rfl, n, os, rfl⟩
 obtain ⟨fr, hfr, hok⟩ := hh
 generalize hD : pdq (ltOf fun a b => (φ a b).getD 0) xs.toArray 0 xs.length (Lib.bitLen xs.length) true true = D at h
 have hDr : D = r.toArray := by rw [← h]
 have hother : ∀ b', b' < w.heap.size → b' ≠ b → (sortWorldK enc (GoT.k α) w b 0 n D os).heap[b']? = w.heap[b']? := fun b' hb hne => by
  show ((mapBlock (Sort.ahead w n) b (putCells id 0 (flatK enc (GoT.k α) D))).heap ++ os)[b']? = _
  unfold mapBlock
  rw [Array.getElem?_append_left (by simpa [Sort.ahead] using hb), Array.getElem?_modify]
  simp [Ne.symm hne, Sort.ahead]
 have hself : (sortWorldK enc (GoT.k α) w b 0 n D os).heap[b]? = some (.cells (putCells id 0 (flatK enc (GoT.k α) D) cs) et fr) := by
  show ((mapBlock (Sort.ahead w n) b (putCells id 0 (flatK enc (GoT.k α) D))).heap ++ os)[b]? = _
  unfold mapBlock
  have hb := Gw hfr
  rw [Array.getElem?_append_left (by simpa [Sort.ahead] using hb), Array.getElem?_modify]
  simp [Sort.ahead, hfr, onCells]
 have hps : (putCells id 0 (flatK enc (GoT.k α) D) cs).size = cs.size := by simp [putCells]
 have hsize : w.heap.size ≤ (sortWorldK enc (GoT.k α) w b 0 n D os).heap.size := by
  show w.heap.size ≤ ((mapBlock (Sort.ahead w n) b (putCells id 0 (flatK enc (GoT.k α) D))).heap ++ os).size
  simp [mapBlock, Sort.ahead]
 refine ⟨_, rfl, g, ⟨rfl, rfl, rfl, ⟨hsize, fun _ _ => Nat.le_refl _, fun b' hb' j hj => ?_⟩, fun b' hb' hne => hother b' hb' fun e => hne (e ▸ ho), fun _ _ _ => rfl, fun _ _ _ => rfl⟩, rfl, .inr ⟨b, c, _, by rw [hrl], by rw [hrl]; exact hlc, ho, hm, ⟨fr, hself, by rw [hps]; exact hok⟩, by rw [hps, hrl]; exact hsz, ?_⟩⟩
 ·by_cases hbb : b' = b
  ·subst hbb; rw [hm] at hj; omega
  ·simp only [World.cell?, hother b' hb' hbb]
 ·refine hE.take fun t ht => ?_
  have htc : t < cs.size := by rw [hrl] at ht; omega
  have hts : t < (flatK enc (GoT.k α) D).size := by rw [size_flatK, hDr]; simpa using ht
  unfold putCells
  rw [Array.getElem?_mapIdx, Array.getElem?_eq_getElem htc, Option.map_some, if_pos ⟨Nat.zero_le _, by omega⟩, Nat.sub_zero, hDr]; rfl
end
end Go.Proofs.YtmebkoemfjlbcaaGreatDoor
/- An own variable that holds an array of slices of the function's own, any of which is appended to. No program is named here. -/
namespace Go.Proofs.YtmebkoemfjlbcaaGreatDoor
open Go.RowKit

/-! ### The array -/
end Go.Proofs.YtmebkoemfjlbcaaGreatDoor
