/- makeSlice. No program is named here. -/
import Derived.Test.YtmebkoemfjlbcaaGreatDoorNest
import Derived.Laws.MakeOwn
namespace Go.Proofs.YtmebkoemfjlbcaaGreatDoor
open Go.RowKit

def mks {α : Type} (bytes : Nat) (x0 : α) (n : Int) : Option (List α) :=
 if 0 ≤ n ∧ n ≤ 16777216 ∧ (bytes : Int) * n ≤ 281474976710656 then some (List.replicate n.toNat x0) else none
theorem Cp {α : Type} [GoT α] {m : Nat → Nat} {w : World} {x : α} {z : Value} (h : GoT.rep m w x [z]) : ∀ n : Nat, Tn m w (List.replicate n x) (List.replicate n z)
 | 0 => rfl
 | n + 1 => ⟨[z], List.replicate n z, rfl, h, Cp h n⟩
section
variable {P : Program} {e : Env} {w : World} {g : Gh} {K : Value → World → Prop} {x y z : Operand}
theorem S0 {α : Type} [GoT α] (i : Nat) {t et : TypeId} {zv : Value} {bytes : Nat} (x0 : α) {n : Int} {r : List α} (hk : GoT.k α = 1)
  (ht : P.underlying t = some (.slice et)) (hinfo : (P.info? et).map (fun i => (i.zero, i.size, i.bytes)) = some (some zv, 1, bytes)) (hz1 : zv.cells = #[zv]) (hz : ∀ m w, GoT.rep m w x0 [zv])
  (hx : ev e x = .int .i64 n) (hy : ev e y = .int .i64 n) (hr : mks bytes x0 n = some r)
  (h : ∀ g' w' v', Stp i g w g' w' → OM i g' w' et r v' → K v' w') : Doe P (.makeSlice t x y) e w K := fun d ty pos af gd => by
 obtain ⟨ti, hi, hzz, hsz, hby⟩ := info_parts hinfo
 subst hby
 unfold mks at hr
 split at hr
 case isFalse => cases hr
 rename_i hc
 obtain rfl := Option.some.inj hr
 obtain ⟨h0, h1, h2⟩ := hc
 have hrun := run_makeSlice (P := P) w t et ti zv ht hi hzz .i64 .i64 n n h0 (Int.le_refl _) (by rw [hsz]; omega) h2 (by omega)
 have hrun2 : (execOp (ev e) ⟨d, .makeSlice t x y, ty, pos, af, gd⟩).run P w = .ok (.value (.slice (some ⟨w.heap.size, 0, none⟩) n.toNat n.toNat)) (w.alloc (.cells (madeCells zv.cells (n.toNat * ti.size)) et)) := by
  simp only [execOp, hx, hy, Sem.run_bind, hrun, Result.andThen_ok, Sem.run_pure]
 unfold doE; rw [hrun2]
 have hcs : (madeCells zv.cells (n.toNat * ti.size)).toList = List.replicate n.toNat zv := by
  rw [hz1, hsz, Nat.mul_one]
  apply List.ext_getElem
  ·simp [madeCells]
  ·intro j h1 h2; simp [madeCells, Nat.mod_one]
 refine h { m := K6 g.m w.heap.size 0, o := K6 g.o w.heap.size i } _ _ (Hs i g w _ et 0) (.inr ⟨w.heap.size, n.toNat, _, by simp, by simp, Tj _ _ _, Tj _ _ _, CF.of (Wd _ _), ?_, ?_⟩)
 ·have := congrArg List.length hcs
  simp at this
  rw [List.length_replicate, hk, Nat.mul_one]; omega
 ·rw [hcs, List.length_replicate, hk, Nat.mul_one, List.take_of_length_le (by simp)]
  exact Cp (hz _ _) _
end
theorem Ub (s : List UInt8) (l h : Nat) : (⟨⟨s⟩⟩ : ByteArray).extract l h = ⟨⟨(s.take h).drop l⟩⟩ := by
 apply ByteArray.ext
 rw [ByteArray.data_extract]
 apply Array.toList_inj.1
 simp [List.extract_eq_take_drop, List.drop_take]
theorem Dm {P : Program} {e : Env} {x : Operand} {t : TypeId} {s : Str} {r : List UInt8} {lo hi : Option Operand} {l h : Int} (ht : P.underlying t = some .string)
  (hx : ev e x = s.v) (hlo : match lo with | some o => ev e o = .int .i64 l | none => l = 0) (hhi : match hi with | some o => ev e o = .int .i64 h | none => h = s.b.length) (hc : cut s.b l h = some r) :
  Pur P (.slice t x lo hi none) e ((⟨r⟩ : Str).v) := fun _ _ _ _ _ _ => by
 unfold cut at hc
 split at hc
 case isFalse => cases hc
 rename_i hb
 injection hc with hc
 subst hc
 obtain ⟨h0, hlh, hhl⟩ := hb
 obtain ⟨ln, rfl⟩ := Int.eq_ofNat_of_zero_le h0
 obtain ⟨hn, rfl⟩ := Int.eq_ofNat_of_zero_le (Int.le_trans h0 hlh)
 have hlh' : ln ≤ hn := by omega
 have hhl' : hn ≤ s.b.length := by omega
 simp only [Int.toNat_natCast]
 have hsz : ByteArray.size ⟨⟨s.b⟩⟩ = s.b.length := rfl
 cases lo with
 | none =>
  simp only at hlo
  have : ln = 0 := by omega
  subst this
  cases hi with
  | none =>
   simp only at hhi
   have : hn = s.b.length := by omega
   subst this
   simp [execOp, hx, Str.v, Instr.sliceAt, Instr.slice, run_underlying ht, Instr.sliceBounds]
  | some oh =>
   simp only at hhi
   simp [execOp, hx, Str.v, hhi, Instr.sliceAt, Instr.slice, run_underlying ht, Instr.sliceBounds, Instr.sliceBound, asIntOf, hsz, hhl', Ub]
 | some ol =>
  simp only at hlo
  cases hi with
  | none =>
   simp only at hhi
   have : hn = s.b.length := by omega
   subst this
   simp [execOp, hx, Str.v, hlo, Instr.sliceAt, Instr.slice, run_underlying ht, Instr.sliceBounds, Instr.sliceBound, asIntOf, hsz, hlh', Ub]
  | some oh =>
   simp only at hhi
   simp [execOp, hx, Str.v, hlo, hhi, Instr.sliceAt, Instr.slice, run_underlying ht, Instr.sliceBounds, Instr.sliceBound, asIntOf, hsz, hlh', hhl', Ub]
theorem Lg {cs cy : List Value} {off k p : Nat} (hl : cy.length = k) (ho : off + k ≤ cs.length) : (cs.take off ++ cy ++ cs.drop (off + cy.length))[p]? = if p < off then cs[p]? else if p < off + k then cy[p - off]? else cs[p]? := by
 have ht : (cs.take off).length = off := by rw [List.length_take]; omega
 by_cases h1 : p < off
 ·rw [if_pos h1, List.append_assoc, List.getElem?_append_left (by omega), List.getElem?_take, if_pos h1]
 ·rw [if_neg h1]
  by_cases h2 : p < off + k
  ·rw [if_pos h2, List.append_assoc, List.getElem?_append_right (by omega), ht, List.getElem?_append_left (by omega)]
  ·rw [if_neg h2, List.getElem?_append_right (by rw [List.length_append, ht, hl]; omega), List.length_append, ht, hl, List.getElem?_drop]
   congr 1; omega
theorem Gr.vec {β : Type} [GoT β] {n i : Nat} (hi : i < n) : Gr (α := Vector β n) (i * GoT.k β) (fun v => v[i]) (fun v y => v.set i y) := by
 have hk : i * GoT.k β + GoT.k β ≤ n * GoT.k β := by
  have : (i + 1) * GoT.k β ≤ n * GoT.k β := Nat.mul_le_mul_right _ hi
  rw [Nat.add_mul, Nat.one_mul] at this; exact this
 refine ⟨⟨hk, fun m w x cs h => h.2 i hi⟩, fun m w x y cs cy h hy => ?_⟩
 have hcy := GoT.len hy
 have hcs : cs.length = n * GoT.k β := h.1
 refine ⟨?_, fun j hj => ?_⟩
 ·simp only [List.length_append, List.length_take, List.length_drop]; omega
 ·have hkj : j * GoT.k β + GoT.k β ≤ n * GoT.k β := by
   have : (j + 1) * GoT.k β ≤ n * GoT.k β := Nat.mul_le_mul_right _ hj
   rw [Nat.add_mul, Nat.one_mul] at this; exact this
  by_cases hij : i = j
  ·subst hij
   have : ((cs.take (i * GoT.k β) ++ cy ++ cs.drop (i * GoT.k β + cy.length)).drop (i * GoT.k β)).take (GoT.k β) = cy := by
    apply List.ext_getElem?
    intro t
    rw [List.getElem?_take, List.getElem?_drop, Lg hcy (by omega)]
    split
    ·rw [if_neg (by omega), if_pos (by omega)]; congr 1; omega
    ·rw [List.getElem?_eq_none (by omega)]
   rw [this]
   simpa using hy
  ·have : ((cs.take (i * GoT.k β) ++ cy ++ cs.drop (i * GoT.k β + cy.length)).drop (j * GoT.k β)).take (GoT.k β) = (cs.drop (j * GoT.k β)).take (GoT.k β) := by
    apply List.ext_getElem?
    intro t
    rw [List.getElem?_take, List.getElem?_drop, List.getElem?_take, List.getElem?_drop, Lg hcy (by omega)]
    split
    ·rename_i ht
     rcases Nat.lt_or_gt_of_ne hij with h1 | h1
     ·have : (i + 1) * GoT.k β ≤ j * GoT.k β := Nat.mul_le_mul_right _ h1
      rw [Nat.add_mul, Nat.one_mul] at this
      rw [if_neg (by omega), if_neg (by omega)]
     ·have : (j + 1) * GoT.k β ≤ i * GoT.k β := Nat.mul_le_mul_right _ h1
      rw [Nat.add_mul, Nat.one_mul] at this
      rw [if_pos (by omega)]
    ·rfl
   rw [this]
   have h2 := h.2 j hj
   simpa [Vector.getElem_set, hij] using h2
theorem Lj {β : Type} {n i : Nat} {v : Vector β n} (hi : i < n) : idx v.toList (i : Int) = some v[i] := by
 unfold idx
 rw [if_pos (Int.natCast_nonneg i)]
 simp [hi]
end Go.Proofs.YtmebkoemfjlbcaaGreatDoor
