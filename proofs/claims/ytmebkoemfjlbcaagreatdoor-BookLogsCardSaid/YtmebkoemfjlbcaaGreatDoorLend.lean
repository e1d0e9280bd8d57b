/- What is lent for a call; maps that are only read; cells of arrays by a number that varies; more of makeSlice. No program is named here. -/
import Derived.Test.YtmebkoemfjlbcaaGreatDoorOa
import Derived.Test.YtmebkoemfjlbcaaGreatDoorKey
namespace Go.Proofs.YtmebkoemfjlbcaaGreatDoor
open Go.RowKit

/-! ### Lending: all that there is may be read for the time of a call -/
/-! ### Maps that are only read -/
/-! ### Cells of an array, by a number that varies -/
section
variable {β : Type} [GoT β] {n : Nat}
def At {β : Type} {n : Nat} (v : Vector β n) (i : Int) (y : β) : Vector β n := v.setIfInBounds i.toNat y
def vat {β : Type} {n : Nat} (i : Nat) (h : i < n) (v : Vector β n) : β := v[i]
omit [GoT β] in
theorem Nz {v : Vector β n} {i : Int} {a : β} (h : idx v.toList i = some a) : ∃ hi : i.toNat < n, vat i.toNat hi v = a := let ⟨_, hi, h⟩ := Rp h; ⟨hi, h⟩
theorem Gr.dyn {i : Int} (hi : i.toNat < n) : Gr (α := Vector β n) (i.toNat * GoT.k β) (vat i.toNat hi) (fun v y => At v i y) := by
 have h := Gr.vec (β := β) hi
 refine ⟨h.1, fun m w x y cs cy hx hy => ?_⟩
 have := h.2 m w x y cs cy hx hy
 have he : At x i y = x.set i.toNat y hi := by
  unfold At
  apply Vector.ext
  intro j hj
  simp [Vector.getElem_setIfInBounds, Vector.getElem_set]
 show GoT.rep m w (At x i y) _
 rw [he]; exact this
variable {P : Program} {e : Env} {w : World} {g : Gh} {K : Value → World → Prop} {a1 : Operand}
end
/-! ### A pointer to an element, or nil -/
/-! ### A variable that a draw makes and stores to -/
/-! ### A variable that holds an own slice -/
theorem Ue {α : Type} [GoT α] {m : Nat → Nat} {w : World} {x : α} {cs : List Value} (h : GoT.rep m w x cs) : ∀ n : Nat, Tn m w (List.replicate n x) (List.replicate n cs).flatten
 | 0 => rfl
 | n + 1 => ⟨cs, (List.replicate n cs).flatten, rfl, h, Ue h n⟩
/-! ### makeSlice, of structs too -/
def mka {α : Type} (bytes : Nat) (x0 : α) (n : Int) : Option (List α) :=
 if 0 ≤ n ∧ n ≤ 1000000 ∧ (bytes : Int) * n ≤ 281474976710656 then some (List.replicate n.toNat x0) else none
theorem Vq {γ : Type} {l : List γ} {k : Nat} (hk : l.length = k) : ∀ (n j : Nat), j < n * k → (List.replicate n l).flatten[j]? = l[j % k]?
 | 0, j, h => by omega
 | n + 1, j, h => by
  rw [List.replicate_succ, List.flatten_cons, List.getElem?_append, hk]
  split
  ·rename_i hj
   rw [Nat.mod_eq_of_lt hj]
  ·rename_i hj
   have hm : j % k = (j - k) % k := Nat.mod_eq_sub_mod (by omega)
   rw [Vq hk n (j - k) (by rw [Nat.add_mul, Nat.one_mul] at h; omega), hm]
theorem Nh {zc : Array Value} {k n : Nat} (hk : zc.size = k) : (madeCells zc (n * k)).toList = (List.replicate n zc.toList).flatten := by
 have hl : (List.replicate n zc.toList).flatten.length = n * k := by simp [hk]
 apply List.ext_getElem?
 intro j
 by_cases hj : j < n * k
 ·rw [Vq (by simpa using hk) n j hj]
  have hk0 : 0 < k := by
   rcases Nat.eq_zero_or_pos k with h0 | h0
   ·rw [h0] at hj; omega
   ·exact h0
  have hm : j % k < zc.size := by rw [hk]; exact Nat.mod_lt _ hk0
  simp only [Array.getElem?_toList]
  have hm2 : j % zc.size < zc.size := by rw [hk]; rw [hk] at hm; exact hm
  have h1 : (madeCells zc (n * k))[j]? = some (zc[j % zc.size]!) := by simp [madeCells, hj]
  rw [h1, getElem!_pos zc _ hm2, ← hk, Array.getElem?_eq_getElem hm2]
 ·rw [List.getElem?_eq_none (by simp [madeCells]; omega), List.getElem?_eq_none (by omega)]
section
variable {P : Program} {e : Env} {w : World} {g : Gh} {K : Value → World → Prop} {x y z : Operand}
theorem Vd {α : Type} [GoT α] (i : Nat) {t et : TypeId} {zv : Value} {bytes : Nat} (x0 : α) {n : Int} {r : List α}
    (ht : P.underlying t = some (.slice et)) (hinfo : (P.info? et).map (fun i => (i.zero, i.size, i.bytes)) = some (some zv, GoT.k α, bytes)) (hk : Nat.ble (GoT.k α) 16 = true) (hz : ∀ m w, RV m w x0 zv)
    (hx : ev e x = .int .i64 n) (hy : ev e y = .int .i64 n) (hr : mka bytes x0 n = some r)
    (h : ∀ g' w' v', Stp i g w g' w' → OA i g' w' et r v' → K v' w') : Doe P (.makeSlice t x y) e w K := fun d ty pos af gd => by
  obtain ⟨ti, hi, hzz, hsz, hby⟩ := info_parts hinfo
  subst hby
  unfold mka at hr
  split at hr
  case isFalse => cases hr
  rename_i hc
  obtain rfl := Option.some.inj hr
  obtain ⟨h0, h1, h2⟩ := hc
  have hk' : GoT.k α ≤ 16 := Nat.le_of_ble_eq_true hk
  have hsz2 : n.toNat * ti.size ≤ 16777216 := by
    rw [hsz]
    calc n.toNat * GoT.k α ≤ n.toNat * 16 := Nat.mul_le_mul_left _ hk'
      _ ≤ 16777216 := by omega
  have hrun := run_makeSlice (P := P) w t et ti zv ht hi hzz .i64 .i64 n n h0 (Int.le_refl _) hsz2 h2 (by omega)
  have hrun2 : (execOp (ev e) ⟨d, .makeSlice t x y, ty, pos, af, gd⟩).run P w = .ok (.value (.slice (some ⟨w.heap.size, 0, none⟩) n.toNat n.toNat)) (w.alloc (.cells (madeCells zv.cells (n.toNat * ti.size)) et)) := by
    simp only [execOp, hx, hy, Sem.run_bind, hrun, Result.andThen_ok, Sem.run_pure]
  unfold doE; rw [hrun2]
  have hzr := RV.cells (hz g.m w)
  have hzs : zv.cells.size = GoT.k α := by simpa using GoT.len hzr
  have hcs := Nh (n := n.toNat) hzs
  have hst := Hs i g w (madeCells zv.cells (n.toNat * ti.size)) et 0
  refine h { m := K6 g.m w.heap.size 0, o := K6 g.o w.heap.size i } _ _ hst (.inr ⟨w.heap.size, n.toNat, _, by simp, Tj _ _ _, Tj _ _ _, Wd _ _, by simp, ?_, ?_, ?_⟩)
  · simp only [maxLen]; omega
  · simp [madeCells, hsz]
  · rw [hsz] at hst ⊢
    rw [hcs, List.length_replicate, List.take_of_length_le (by simp [hzs])]
    exact (Ue hzr _).ch hst.ch
end
/-! ### bits.Len of small numbers -/
end Go.Proofs.YtmebkoemfjlbcaaGreatDoor
