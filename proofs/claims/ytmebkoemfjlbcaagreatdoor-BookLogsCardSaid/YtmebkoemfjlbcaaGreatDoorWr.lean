/- A row of bytes that a function owns and whose head may be frozen (a builder of strings that goes on behind String). No program is named here. -/
import Derived.Test.YtmebkoemfjlbcaaGreatDoorAny
import Derived.Lib.FrozenHead2
namespace Go.Proofs.YtmebkoemfjlbcaaGreatDoor
open Go.RowKit

def Qb (xs : List UInt8) : List Value := xs.map fun b => Value.int .u8 b.toNat
theorem Ww (xs : List UInt8) : (Qb xs).length = xs.length := by simp [Qb]
theorem Yr (xs ys : List UInt8) : Qb (xs ++ ys) = Qb xs ++ Qb ys := by simp [Qb]
theorem Dp (xs : List UInt8) : ∀ u ∈ Qb xs, u.oneCell' = true := fun u hu => by
 obtain ⟨b, _, rfl⟩ := List.mem_map.1 hu; rfl
theorem Vb (s : Str) : Lib.strCells ⟨⟨s.b⟩⟩ = Qb s.b := rfl
def OZ (i : Nat) (g : Gh) (w : World) (et : TypeId) (xs : List UInt8) (v : Value) : Prop := w.ownsRowF 0 et 1 v xs.length (Qb xs) ∧ ∀ b, v.ownBlock = some b → g.o b = i ∧ g.m b = 0
section
variable {P : Program} {e : Env} {w w' : World} {g g' : Gh} {K : Value → World → Prop} {x y : Operand} {i j : Nat} {et t u : TypeId} {xs r : List UInt8} {v : Value}
theorem Va {base : Nat} {size n : Nat} {cs : List Value} (h : w.ownsRowF base et size v n cs) (hb : ∀ b, v.ownBlock = some b → w'.heap[b]? = w.heap[b]?) : w'.ownsRowF base et size v n cs := by
 refine ⟨h.1, ?_⟩
 rcases h.2 with hn | ⟨b, cap, cur, fz, rfl, hB, hg, rest⟩
 ·exact .inl hn
 ·exact .inr ⟨b, cap, cur, fz, rfl, hB, (hb b rfl).trans hg, rest⟩
theorem OZ.nil : OZ i g w et [] (.slice none 0 0) := ⟨⟨rfl, .inl ⟨rfl, rfl⟩⟩, fun b h => by cases h⟩
theorem OZ.lt (h : OZ i g w et xs v) : ∀ b, v.ownBlock = some b → b < w.heap.size := fun b hb => (h.1.lt b hb).2
theorem OZ.ext (h : OZ i g w et xs v) (k : Ext g w g' w') : OZ i g' w' et xs v :=
 ⟨Va h.1 fun b hb => k.below.block b (h.lt b hb), fun b hb => ⟨(k.o b (h.lt b hb)).trans (h.2 b hb).1, (k.m b (h.lt b hb)).trans (h.2 b hb).2⟩⟩
theorem OZ.stp (h : OZ i g w et xs v) (k : Stp j g w g' w') (hne : Nat.beq i j = false) : OZ i g' w' et xs v := by
 have hij : ∀ b, v.ownBlock = some b → g.o b ≠ j := fun b hb he => by rw [(h.2 b hb).1] at he; subst he; simp at hne
 exact ⟨Va h.1 fun b hb => k.block b (h.lt b hb) (hij b hb), fun b hb => ⟨(k.o b (h.lt b hb) (hij b hb)).trans (h.2 b hb).1, (k.m b (h.lt b hb) (hij b hb)).trans (h.2 b hb).2⟩⟩
theorem OZ.hdr (h : OZ i g w et xs v) : ∃ a c, v = .slice a xs.length c ∧ xs.length ≤ c ∧ (xs ≠ [] → ∃ b, a = some ⟨b, 0, none⟩) := by
 rcases h.1.2 with ⟨rfl, hn⟩ | ⟨b, cap, cur, fz, rfl, _, _, _, hc, _⟩
 ·have : xs = [] := List.eq_nil_of_length_eq_zero hn
  subst this; exact ⟨none, 0, rfl, Nat.le_refl _, fun h => absurd rfl h⟩
 ·exact ⟨_, cap, rfl, hc, fun _ => ⟨b, rfl⟩⟩
theorem OZ.one (h : OZ i g w et xs v) : v.oneCell' = true := by obtain ⟨a, c, rfl, _⟩ := h.hdr; rfl
theorem Vl {b : Nat} (hob : g.o b = i) (hmb : g.m b = 0) (ho : w'.os = w.os) (ht : w'.tape = w.tape) (hp : w'.output = w.output) (hs : w.heap.size ≤ w'.heap.size) (hb : ∀ k, k < w.heap.size → k ≠ b → w'.heap[k]? = w.heap[k]?) : Stp i g w g w' := by
 refine ⟨ho, ht, hp, ⟨hs, fun _ _ => Nat.le_refl _, fun k hk q hq => ?_⟩, fun k hk hne => hb k hk fun h => hne (h ▸ hob), fun _ _ _ => rfl, fun _ _ _ => rfl⟩
 have hkb : k ≠ b := fun h => by subst h; rw [hmb] at hq; omega
 simp only [World.cell?, hb k hk hkb]
theorem V4 (ho : w'.os = w.os) (ht : w'.tape = w.tape) (hp : w'.output = w.output) (hs : w.heap.size ≤ w'.heap.size) (hb : ∀ k, k < w.heap.size → w'.heap[k]? = w.heap[k]?) : Stp i g w { m := fun k => if k < w.heap.size then g.m k else 0, o := fun k => if k < w.heap.size then g.o k else i } w' := by
 refine ⟨ho, ht, hp, ⟨hs, fun k hk => by simp [hk], fun k hk q _ => by unfold World.cell?; simp only [hb k hk]⟩, fun k hk _ => hb k hk, fun k hk _ => by simp [hk], fun k hk _ => by simp [hk]⟩
theorem Rh (h : w'.ownsRowF w.heap.size et 1 v xs.length (Qb xs)) : OZ i { m := fun k => if k < w.heap.size then g.m k else 0, o := fun k => if k < w.heap.size then g.o k else i } w' et xs v := by
 refine ⟨⟨h.1, h.2.imp id ?_⟩, fun b hb => ?_⟩
 ·rintro ⟨b, cap, cur, fz, h1, _, rest⟩; exact ⟨b, cap, cur, fz, h1, Nat.zero_le _, rest⟩
 ·have := (h.lt b hb).1
  exact ⟨if_neg (by omega), if_neg (by omega)⟩
theorem My {xs ys r : List UInt8} (h : apnd 1 xs ys = some r) : r = xs ++ ys ∧ xs.length + ys.length ≤ 140737488355328 := by
 unfold apnd at h; split at h
 ·rename_i hb; injection h with h; exact ⟨h.symm, by have := hb.1; have := hb.2; omega⟩
 ·cases h
def U5 (g : Gh) (w : World) (g' : Gh) (w' : World) (v v' : Value) : Prop := ∀ k, k < w.heap.size → v.ownBlock ≠ some k → w'.heap[k]? = w.heap[k]? ∧ g'.o k = g.o k ∧ g'.m k = g.m k ∧ v'.ownBlock ≠ some k
theorem Us (hb : ∀ k, k < w.heap.size → w'.heap[k]? = w.heap[k]?) {v v' : Value} (h : w'.ownsRowF w.heap.size et 1 v' xs.length (Qb xs)) : U5 g w { m := fun k => if k < w.heap.size then g.m k else 0, o := fun k => if k < w.heap.size then g.o k else i } w' v v' :=
 fun k hk _ => ⟨hb k hk, if_pos hk, if_pos hk, fun he => by have := (h.lt k he).1; omega⟩
theorem Fo (ht : P.underlying t = some (.slice et)) (hu : P.underlying u = some .string) (hinfo : (P.info? et).map (fun i => (i.zero, i.size, i.bytes)) = some (some (.int .u8 0), 1, 1)) {s : Str}
  (hx : ev e x = v) (hz : OZ i g w et xs v) (hy : ev e y = s.v) (hr : apnd 1 xs s.b = some r) (h : ∀ g' w' v', Stp i g w g' w' → OZ i g' w' et r v' → U5 g w g' w' v v' → K v' w') :
  Doe P (.call { callee := .builtin .append, args := #[x, y], argTypes := #[t, u] }) e w K := fun d ty pos af gd => by
 obtain ⟨rfl, hlen⟩ := My hr
 obtain ⟨ti, hi, hz0, hsz, hby⟩ := info_parts hinfo
 have hn : (ByteArray.mk (Array.mk s.b)).size = s.b.length := rfl
 suffices hrun : ∃ g' w' v', (Builtin.append_ #[t, u] ty #[v, s.v]).run P w = .ok v' w' ∧ Stp i g w g' w' ∧ OZ i g' w' et (xs ++ s.b) v' ∧ U5 g w g' w' v v' by
  obtain ⟨g', w', v', h1, h2, h3, h4⟩ := hrun
  have hrun2 : (execOp (ev e) ⟨d, .call { callee := .builtin .append, args := #[x, y], argTypes := #[t, u] }, ty, pos, af, gd⟩).run P w = .ok (.value v') w' := by
   simp only [execOp, resolve, invoke, builtin, Sem.run_bind, Sem.run_pure, Result.andThen_ok, List.map_toArray, List.map_cons, List.map_nil, hx, hy, h1]
  unfold doE; rw [hrun2]; exact h g' w' v' h2 h3 h4
 have hm : xs.length + s.b.length ≤ maxLen := by simp only [maxLen]; omega
 rcases hz.1.2 with ⟨rfl, hn0⟩ | ⟨b, cap, cur, fz, rfl, hbg, hg, hfz, hnc, hcm, hcs, htake⟩
 ·have : xs = [] := List.eq_nil_of_length_eq_zero hn0
  subst this
  obtain ⟨v', w', h1, h2, h3, h4⟩ := Lib.run_append_own_string (P := P) w w.heap.size t u ty et ti ht hu hi hz0 hsz hby (.slice none 0 0) 0 [] ⟨rfl, .inl ⟨rfl, rfl⟩⟩ ⟨⟨s.b⟩⟩ (by rw [hn]; simpa using hm) (by rw [hn]; simpa using hlen) (Nat.le_refl _)
  have := World.ownsRowF_of h2
  rw [hn, Nat.zero_add, List.nil_append, Vb] at this
  exact ⟨_, w', v', h1, V4 h3.os h3.tape h3.output h3.size fun k hk => h3.block k hk (by simp [Value.ownBlock]), Rh this, Us (fun k hk => h3.block k hk (by simp [Value.ownBlock])) this⟩
 ·obtain ⟨hob, hmb⟩ := hz.2 b rfl
  simp only [Nat.mul_one] at hfz hcs htake
  by_cases hroom : xs.length + s.b.length ≤ cap
  ·have hr := Lib.run_append_room_stringF (P := P) w t u ty et ti ht hu hi hsz b xs.length cap cur fz hg hfz ⟨⟨s.b⟩⟩ hroom (by rw [hn]; omega)
   rw [hn, Vb] at hr
   refine ⟨g, _, _, hr, Vl hob hmb rfl rfl rfl (by rw [Kw]; exact Nat.le_refl _) (fun k _ hk => Qh b _ hk), ⟨⟨by rw [Ww, List.length_append, Nat.mul_one], .inr ⟨b, cap, _, fz, by rw [List.length_append], Nat.zero_le _, Go.setRow_heap w b cur _ et _ hg, by rw [List.length_append]; omega, by rw [List.length_append]; exact hroom, hcm, ?_, ?_⟩⟩, fun k hk => by simp only [Value.ownBlock, Option.some.injEq] at hk; subst hk; exact ⟨hob, hmb⟩⟩, fun k _ hk => ⟨Qh b _ (fun he => hk (by rw [he]; rfl)), rfl, rfl, hk⟩⟩
   ·simp only [List.size_toArray, List.length_append, List.length_take, List.length_drop, Array.length_toList, Ww]
    omega
   ·rw [htake, Nat.mul_one, Yr]
    rw [show (xs ++ s.b).length = (Qb xs ++ Qb s.b).length by simp [Qb]]
    exact List.take_left
  ·have holds : ∀ j u, (Qb xs)[j]? = some u → w.cell? ((⟨b, 0, none⟩ : Addr).add j) = some u := hz.1.cells (g := b) rfl
   have hr := Lib.run_append_grow_string (P := P) w t u ty et ti (.int .u8 0) ht hu hi hz0 ⟨b, 0, none⟩ xs.length cap (Qb xs) (by rw [hsz, Ww, Nat.mul_one]) holds ⟨⟨s.b⟩⟩ (by rw [hn]; omega) (by rw [hn]; omega) (by rw [hby, hn]; exact growslice_fits (by omega) (by omega))
   rw [hn, Vb] at hr
   have hge := grownCap_ge w (xs.length + s.b.length) cap et
   have hcm2 : grownCap w (xs.length + s.b.length) cap et ≤ maxLen := grownCap_le_maxLen w (xs.length + s.b.length) cap et hm
   refine (fun hq => ⟨_, _, _, hr, V4 rfl rfl rfl (by simp) (fun k hk => Jn w.drew _ hk), Rh hq, Us (fun k hk => Jn w.drew _ hk) hq⟩) ⟨by rw [Ww, Nat.mul_one], .inr ⟨w.heap.size, _, _, (0, 0), by rw [List.length_append], Nat.le_refl _, heap_alloc_new w.drew _, Nat.zero_le _, by rw [List.length_append]; exact hge, hcm2, ?_, ?_⟩⟩
   ·have hz1 : (Value.int IntKind.u8 0).cells.size = 1 := rfl
    simp only [Array.size_append, List.size_toArray, size_zeroCells, hz1, Ww]
    omega
   ·simp only [Array.toList_append, List.append_assoc]
    rw [← List.append_assoc, Nat.mul_one, Yr, show (xs ++ s.b).length = (Qb xs ++ Qb s.b).length by simp [Qb]]
    exact List.take_left
theorem Fk (ht : P.underlying t = some (.slice et)) (hinfo : (P.info? et).map (fun i => (i.zero, i.size, i.bytes)) = some (some (.int .u8 0), 1, 1)) {c : UInt8} {q : Value}
  (hx : ev e x = v) (hz : OZ i g w et xs v) (hy : ev e y = q) (hq : RV g.m w [c] q) (hr : apnd 1 xs [c] = some r) (h : ∀ g' w' v', Stp i g w g' w' → OZ i g' w' et r v' → U5 g w g' w' v v' → K v' w') :
  Doe P (.call { callee := .builtin .append, args := #[x, y], argTypes := #[t, t] }) e w K := fun d ty pos af gd => by
 obtain ⟨rfl, hlen⟩ := My hr
 obtain ⟨ti, hi, hz0, hsz, hby⟩ := info_parts hinfo
 obtain ⟨a, cq, rfl, hcq, hrow⟩ := Qc hq
 obtain ⟨b2, off2, rfl, hlt2, hm2, hrow2⟩ := hrow (by simp)
 obtain ⟨news, hf2, hcell2⟩ := hrow2.flat
 have hnews : news = Qb [c] := by
  have h1 := S3 hf2 0 c rfl
  have hl2 := hf2.len
  simp [GoT.k] at hl2
  match news, hl2 with
  | [n0], _ => simpa [Qb] using h1
 subst hnews
 have hnews : ∀ j v, (Qb [c])[j]? = some v → w.cell? ((⟨b2, off2, none⟩ : Addr).add j) = some v := fun j v hj => by rw [Wb]; exact hcell2 j v hj
 suffices hrun : ∃ g' w' v', (Builtin.append_ #[t, t] ty #[v, .slice (some ⟨b2, off2, none⟩) [c].length cq]).run P w = .ok v' w' ∧ Stp i g w g' w' ∧ OZ i g' w' et (xs ++ [c]) v' ∧ U5 g w g' w' v v' by
  obtain ⟨g', w', v', h1, h2, h3, h4⟩ := hrun
  have hrun2 : (execOp (ev e) ⟨d, .call { callee := .builtin .append, args := #[x, y], argTypes := #[t, t] }, ty, pos, af, gd⟩).run P w = .ok (.value v') w' := by
   simp only [execOp, resolve, invoke, builtin, Sem.run_bind, Sem.run_pure, Result.andThen_ok, List.map_toArray, List.map_cons, List.map_nil, hx, hy, h1]
  unfold doE; rw [hrun2]; exact h g' w' v' h2 h3 h4
 have hlen1 : xs.length + 1 ≤ 140737488355328 := hlen
 have hm : xs.length + 1 ≤ maxLen := by simp only [maxLen]; omega
 rcases hz.1.2 with ⟨rfl, hn0⟩ | ⟨b, cap, cur, fz, rfl, hbg, hg, hfz, hnc, hcm, hcs, htake⟩
 ·have : xs = [] := List.eq_nil_of_length_eq_zero hn0
  subst this
  obtain ⟨v', w', h1, h2, h3, h4⟩ := run_append_ownF (P := P) w w.heap.size t ty et ti (.int .u8 0) 1 1 ht hi hz0 hsz hby rfl (by omega) (.slice none 0 0) 0 [] ⟨rfl, .inl ⟨rfl, rfl⟩⟩ ⟨b2, off2, none⟩ 1 cq (Qb [c]) rfl hnews (Dp _) (by unfold maxLen; omega) (by omega) (Nat.le_refl _)
  have h5 : w'.ownsRowF w.heap.size et 1 v' ([] ++ [c]).length (Qb ([] ++ [c])) := by simpa using h2
  exact ⟨_, w', v', h1, V4 h3.os h3.tape h3.output h3.size fun k hk => h3.block k hk (by simp [Value.ownBlock]), Rh h5, Us (fun k hk => h3.block k hk (by simp [Value.ownBlock])) h5⟩
 ·obtain ⟨hob, hmb⟩ := hz.2 b rfl
  simp only [Nat.mul_one] at hfz hcs htake
  have h1l : (Qb [c]).length = 1 := rfl
  by_cases hroom : xs.length + 1 ≤ cap
  ·have hr := run_append_roomF (P := P) w t ty et ti ht hi b xs.length cap cur fz hg (by rw [hsz]; simpa using hfz) ⟨b2, off2, none⟩ 1 cq (Qb [c]) (by rw [hsz]; rfl) hnews (Dp _) hroom (by rw [hsz, h1l]; omega)
   rw [hsz, h1l, Nat.mul_one] at hr
   refine ⟨g, _, _, hr, Vl hob hmb rfl rfl rfl (by rw [Kw]; exact Nat.le_refl _) (fun k _ hk => Qh b _ hk), ⟨⟨by rw [Ww, List.length_append, Nat.mul_one], .inr ⟨b, cap, _, fz, by rw [List.length_append]; rfl, Nat.zero_le _, Go.setRow_heap w b cur _ et _ hg, by rw [List.length_append]; omega, by rw [List.length_append]; exact hroom, hcm, ?_, ?_⟩⟩, fun k hk => by simp only [Value.ownBlock, Option.some.injEq] at hk; subst hk; exact ⟨hob, hmb⟩⟩, fun k _ hk => ⟨Qh b _ (fun he => hk (by rw [he]; rfl)), rfl, rfl, hk⟩⟩
   ·simp only [List.size_toArray, List.length_append, List.length_take, List.length_drop, Array.length_toList, Ww]
    simp
    omega
   ·rw [htake, Nat.mul_one, Yr]
    rw [show (xs ++ [c]).length = (Qb xs ++ Qb [c]).length by simp [Qb]]
    exact List.take_left
  ·have holds : ∀ j u, (Qb xs)[j]? = some u → w.cell? ((⟨b, 0, none⟩ : Addr).add j) = some u := hz.1.cells (g := b) rfl
   have hr := run_append_grow (P := P) w t ty et ti (.int .u8 0) ht hi hz0 ⟨b, 0, none⟩ xs.length cap (Qb xs) (by rw [hsz, Ww, Nat.mul_one]) holds ⟨b2, off2, none⟩ 1 cq (Qb [c]) (by rw [hsz]; rfl) hnews (by omega) (by omega) (growslice_fits (by omega) (by rw [hby]; omega))
   have hge := grownCap_ge w (xs.length + 1) cap et
   have hcm2 : grownCap w (xs.length + 1) cap et ≤ maxLen := grownCap_le_maxLen w (xs.length + 1) cap et hm
   refine (fun hq => ⟨_, _, _, hr, V4 rfl rfl rfl (by simp) (fun k hk => Jn w.drew _ hk), Rh hq, Us (fun k hk => Jn w.drew _ hk) hq⟩) ⟨by rw [Ww, Nat.mul_one], .inr ⟨w.heap.size, _, _, (0, 0), by rw [List.length_append]; rfl, Nat.le_refl _, heap_alloc_new w.drew _, Nat.zero_le _, by rw [List.length_append]; exact hge, hcm2, ?_, ?_⟩⟩
   ·have hz1 : (Value.int IntKind.u8 0).cells.size = 1 := rfl
    simp only [Array.size_append, List.size_toArray, size_zeroCells, hz1, Ww, h1l]
    omega
   ·simp only [Array.toList_append, List.append_assoc]
    rw [← List.append_assoc, Nat.mul_one, Yr, show (xs ++ [c]).length = (Qb xs ++ Qb [c]).length by simp [Qb]]
    exact List.take_left
theorem Xr {pt it : TypeId} {ats : Array TypeId} {a : Option Addr} {c : Nat} (hats : ats = #[pt, it]) (hp : P.underlying pt = some (.pointer et)) (hc1 : P.cellsOf et = 1) (h0 : xs ≠ [])
  (hx : ev e x = .pointer a) (hy : ev e y = .int .i64 (xs.length : Int)) (hz : OZ i g w et xs (.slice a xs.length c)) (h : ∀ w', Stp i g w g w' → OZ i g w' et xs (.slice a xs.length c) → U5 g w g w' (.slice a xs.length c) (.slice a xs.length c) → K (Str.v ⟨xs⟩) w') :
  Doe P (.call { callee := .builtin .unsafeString, args := #[x, y], argTypes := ats }) e w K := fun d ty pos af gd => by
 subst hats
 have hl0 : 0 < xs.length := by cases xs with
  | nil => exact absurd rfl h0
  | cons _ _ => simp
 rcases hz.1.2 with ⟨hv, hn0⟩ | ⟨b, cap, cur, fz, hv, hbg, hg, hfz, hnc, hcm, hcs, htake⟩
 ·omega
 injection hv with hv1 hv2 hv3
 subst hv1; subst hv3
 obtain ⟨hob, hmb⟩ := hz.2 b rfl
 simp only [Nat.mul_one] at hfz hcs htake
 have hcell : ∀ k u, xs[k]? = some u → w.cell? ((⟨b, 0, none⟩ : Addr).add k) = some (.int .u8 u.toNat) := fun k u hk => hz.1.cells (g := b) rfl k _ (by simp [Qb, hk])
 have hrun := Lib.run_unsafeString_row (P := P) w pt it ty et hp hc1 b cur.size (by simp [World.shape?, hg]) xs h0 (by omega) (by unfold maxLen at hcm; omega) (fun k u hk => hcell k u hk)
 have hrun2 : (execOp (ev e) ⟨d, .call { callee := .builtin .unsafeString, args := #[x, y], argTypes := #[pt, it] }, ty, pos, af, gd⟩).run P w = .ok (.value (Str.v ⟨xs⟩)) (w.freeze ⟨b, 0, none⟩ xs.length) := by
  simp only [execOp, resolve, invoke, builtin, hx, hy, Sem.run_bind, Sem.run_pure, Result.andThen_ok, List.map_toArray, List.map_cons, List.map_nil, hrun]
  rfl
 unfold doE; rw [hrun2]
 have hparts : (w.freeze ⟨b, 0, none⟩ xs.length).os = w.os ∧ (w.freeze ⟨b, 0, none⟩ xs.length).tape = w.tape ∧ (w.freeze ⟨b, 0, none⟩ xs.length).output = w.output ∧ (w.freeze ⟨b, 0, none⟩ xs.length).heap.size = w.heap.size := by
  unfold World.freeze
  rw [if_neg (by omega)]
  exact ⟨rfl, rfl, rfl, by simp⟩
 have hne : ∀ k, k ≠ b → (w.freeze ⟨b, 0, none⟩ xs.length).heap[k]? = w.heap[k]? := fun k hk => by
  unfold World.freeze
  rw [if_neg (by omega)]
  simp only [Array.getElem?_modify]
  rw [if_neg (fun h => hk h.symm)]
 have hself : ∃ fz', (w.freeze ⟨b, 0, none⟩ xs.length).heap[b]? = some (.cells cur et fz') ∧ fz'.2 ≤ xs.length := by
  unfold World.freeze
  rw [if_neg (by omega)]
  simp only [Array.getElem?_modify, if_true, hg, Option.map_some]
  refine ⟨_, rfl, ?_⟩
  split <;> simp <;> omega
 obtain ⟨fz', hs1, hs2⟩ := hself
 exact h _ (Vl hob hmb hparts.1 hparts.2.1 hparts.2.2.1 (by rw [hparts.2.2.2]; exact Nat.le_refl _) (fun k _ hk => hne k hk)) ⟨⟨by rw [Ww, Nat.mul_one], .inr ⟨b, c, cur, fz', rfl, Nat.zero_le _, hs1, by omega, hnc, hcm, by omega, by rw [Nat.mul_one]; exact htake⟩⟩, hz.2⟩ fun k _ hk => ⟨hne k (fun he => hk (by rw [he]; rfl)), rfl, rfl, hk⟩
end
/-! ### A struct that begins with a builder of strings, and ends with an integer -/
def HBm (i : Nat) (g : Gh) (w : World) (b : Nat) (ob : Obj) : Prop := g.o b = i ∧ g.m b = 0 ∧ w.heap[b]? = some ob
section
variable {P : Program} {e : Env} {w w' : World} {g g' : Gh} {K : Value → World → Prop} {x y : Operand} {i j b : Nat} {et t T : TypeId} {xs r : List UInt8} {v : Value} {ob : Obj}
theorem HBm.lt (h : HBm i g w b ob) : b < w.heap.size := Gw h.2.2
theorem HBm.ext (h : HBm i g w b ob) (k : Ext g w g' w') : HBm i g' w' b ob := ⟨(k.o b h.lt).trans h.1, (k.m b h.lt).trans h.2.1, (k.below.block b h.lt).trans h.2.2⟩
theorem HBm.stp (h : HBm i g w b ob) (k : Stp j g w g' w') (hne : Nat.beq i j = false) : HBm i g' w' b ob := by
 have hij : g.o b ≠ j := fun he => by rw [h.1] at he; subst he; simp at hne
 exact ⟨(k.o b h.lt hij).trans h.1, (k.m b h.lt hij).trans h.2.1, (k.block b h.lt hij).trans h.2.2⟩
theorem HBm.apart {v v' : Value} (h : HBm i g w b ob) (k : U5 g w g' w' v v') (hne : v.ownBlock ≠ some b) : HBm i g' w' b ob ∧ v'.ownBlock ≠ some b :=
 let ⟨h1, h2, h3, h4⟩ := k b h.lt hne; ⟨⟨h2.trans h.1, h3.trans h.2.1, h1.trans h.2.2⟩, h4⟩
def WR (i : Nat) (g : Gh) (w : World) (et T : TypeId) (s : List UInt8 × Int) (p : Value) : Prop :=
 ∃ b a v, p = .pointer (some ⟨b, 0, none⟩) ∧ HBm i g w b (.cells #[a, v, .int .i64 s.2] T (0, 0)) ∧ OZ i g w et s.1 v ∧ v.ownBlock ≠ some b ∧ (a = .pointer none ∨ a = p)
theorem WR.ext {s : List UInt8 × Int} {p : Value} (h : WR i g w et T s p) (k : Ext g w g' w') : WR i g' w' et T s p := by
 obtain ⟨b, a, v, h1, h2, h3, h4, h5⟩ := h; exact ⟨b, a, v, h1, h2.ext k, h3.ext k, h4, h5⟩
theorem WR.stp {s : List UInt8 × Int} {p : Value} (h : WR i g w et T s p) (k : Stp j g w g' w') (hne : Nat.beq i j = false) : WR i g' w' et T s p := by
 obtain ⟨b, a, v, h1, h2, h3, h4, h5⟩ := h; exact ⟨b, a, v, h1, h2.stp k hne, h3.stp k hne, h4, h5⟩
theorem Qu {c : Value} {o : Nat} (ha : ∀ w, (isAgg t).run P w = .ok false w) (hx : ev e x = .pointer (some ⟨b, o, none⟩)) (hc : w.cell? ⟨b, o, none⟩ = some c) (h : K c w) : Doe P (.load t x) e w K := fun d ty pos af gd => by
 have hrun : (execOp (ev e) ⟨d, .load t x, ty, pos, af, gd⟩).run P w = .ok (.value c) w := by
  simp [execOp, hx, Instr.loadAt, Instr.sureAddr, Result.andThen, Sj ha hc]
 unfold doE; rw [hrun]; exact h
theorem Kc {c : Value} {o : Nat} {cs : Array Value} (hs : ∀ w, (sizeOf t).run P w = .ok 1 w) (hx : ev e x = .pointer (some ⟨b, o, none⟩)) (hy : ev e y = c) (h1 : c.oneCell' = true) (ho : o < cs.size) (hb : HBm i g w b (.cells cs T (0, 0)))
  (h : ∀ w', Stp i g w g w' → HBm i g w' b (.cells (cs.toList.set o c).toArray T (0, 0)) → (∀ k, k ≠ b → w'.heap[k]? = w.heap[k]?) → K undef w') : Doe P (.store t x y) e w K := fun d ty pos af gd => by
 have hcc : c.cells = #[c] := U4 h1
 have hsv := Ki (P := P) (t := t) (v := c) (b := b) (o := o) (by rw [hcc]; exact hs) hb.2.2 (by rw [hcc]; exact ho) (by rw [hcc]; simpa using h1)
 rw [hcc] at hsv
 have hrow : cs.toList.take o ++ #[c].toList ++ cs.toList.drop (o + #[c].size) = cs.toList.set o c := by
  rw [List.set_eq_take_append_cons_drop, if_pos (by simpa using ho)]; simp
 rw [hrow] at hsv
 have hrun : (execOp (ev e) ⟨d, .store t x y, ty, pos, af, gd⟩).run P w = .ok .skip (w.setRow b (cs.toList.set o c).toArray) := by
  simp [execOp, hx, hy, Instr.storeAt, Instr.sureAddr, Result.andThen, hsv]
 unfold doE; rw [hrun]
 exact h _ (Vl hb.1 hb.2.1 rfl rfl rfl (by rw [Kw]; exact Nat.le_refl _) (fun k _ hk => Qh b _ hk)) ⟨hb.1, hb.2.1, Qa _ _ hb.2.2⟩ fun k hk => Qh b _ hk
theorem Jo {c : Value} {o : Nat} {cs : Array Value} (ha : ∀ w, (isAgg t).run P w = .ok false w) (hb : HBm i g w b (.cells cs T (0, 0))) (hc : cs[o]? = some c) :
  ∀ (x : Operand) (e : Env) (g' : Gh) (w' : World), (Ch g.m w g'.m w' ∧ ∀ k, k < w.heap.size → g.o k = i → w'.heap[k]? = w.heap[k]?) → ev e x = .pointer (some ⟨b, o, none⟩) → ∀ d ty pos af gd, (execOp (ev e) ⟨d, .load t x, ty, pos, af, gd⟩).run P w' = .ok (.value c) w' := fun x e g' w' hx he d ty pos af gd => by
 have hh := (hx.2 b hb.lt hb.1).trans hb.2.2
 have hc' : w'.cell? ⟨b, o, none⟩ = some c := by simp [World.cell?, hh, hc]
 simp [execOp, he, Instr.loadAt, Instr.sureAddr, Result.andThen, Sj ha hc']
theorem OZ.other {k : Nat} (h : OZ i g w et xs v) (hne : v.ownBlock ≠ some k) (hk : ∀ q, q ≠ k → w'.heap[q]? = w.heap[q]?) : OZ i g w' et xs v :=
 ⟨Va h.1 fun b hb => hk b (fun he => hne (he ▸ hb)), h.2⟩
theorem HBm.cell {cs : Array Value} {o : Nat} (h : HBm i g w b (.cells cs T (0, 0))) : w.cell? ⟨b, o, none⟩ = cs[o]? := by simp [World.cell?, h.2.2]
theorem HBm.shape {cs : Array Value} (h : HBm i g w b (.cells cs T (0, 0))) : w.shape? b = some (T, cs.size) := by simp [World.shape?, h.2.2]
end
end Go.Proofs.YtmebkoemfjlbcaaGreatDoor
