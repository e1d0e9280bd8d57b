/- Own slices whose elements are own slices. No program is named here. -/
import Derived.Test.YtmebkoemfjlbcaaGreatDoorMap
namespace Go.Proofs.YtmebkoemfjlbcaaGreatDoor
open Go.RowKit

def RO (i : Nat) (g : Gh) (w : World) (t : TypeId) (rows : List Fv) (v : Value) : Prop :=
 (v = .slice none 0 0 ∧ rows = []) ∨
 ∃ b c cs, v = .slice (some ⟨b, 0, none⟩) rows.length c ∧ g.o b = i ∧ g.m b = 0 ∧ w.heap[b]? = some (.cells cs t (0, 0)) ∧ rows.length ≤ c ∧ c ≤ maxLen ∧ cs.size = c ∧ ∀ (n : Nat) (r : Fv), rows[n]? = some r → cs[n]? = some r.v
theorem RO.ext {i : Nat} {g g' : Gh} {w w' : World} {t : TypeId} {rows : List Fv} {v : Value} (h : RO i g w t rows v) (k : Ext g w g' w') : RO i g' w' t rows v := by
 rcases h with h | ⟨b, c, cs, hp, ho, hm, hh, h⟩
 ·exact .inl h
 have hb := Gw hh
 exact .inr ⟨b, c, cs, hp, (k.o b hb).trans ho, (k.m b hb).trans hm, (k.below.block b hb).trans hh, h⟩
theorem RO.stp {i j : Nat} {g g' : Gh} {w w' : World} {t : TypeId} {rows : List Fv} {v : Value} (h : RO i g w t rows v) (k : Stp j g w g' w') (hne : Nat.beq i j = false) : RO i g' w' t rows v := by
 rcases h with h | ⟨b, c, cs, hp, ho, hm, hh, h⟩
 ·exact .inl h
 have hb := Gw hh
 have hij : g.o b ≠ j := by rw [ho]; intro he; rw [he] at hne; simp at hne
 exact .inr ⟨b, c, cs, hp, (k.o b hb hij).trans ho, (k.m b hb hij).trans hm, (k.block b hb hij).trans hh, h⟩
theorem L4 {m : Nat → Nat} {w : World} : ∀ {rows : List Fv} {cs : List Value}, cs = rows.map (·.v) → Tn m w rows cs
 | [], _, h => h
 | r :: rs, cs, h => ⟨[r.v], rs.map (fun r => r.v), by simpa using h, rfl, L4 rfl⟩
theorem RO.toM {i : Nat} {g : Gh} {w : World} {t : TypeId} {rows : List Fv} {v : Value} (h : RO i g w t rows v) : OM i g w t rows v := by
 rcases h with h | ⟨b, c, cs, hp, ho, hm, hh, hc, hcm, hcs, hr⟩
 ·exact .inl h
 refine .inr ⟨b, c, cs, hp, hc, ho, hm, CF.of hh, ?_, L4 ?_⟩
 ·show rows.length * 1 ≤ _; omega
 ·show cs.toList.take (rows.length * 1) = _
  apply List.ext_getElem?
  intro n
  rw [List.getElem?_take, List.getElem?_map, Nat.mul_one]
  split
  ·rename_i hn
   have h1 := hr n _ (List.getElem?_eq_getElem hn)
   rw [List.getElem?_eq_getElem hn, Array.getElem?_toList, h1]; rfl
  ·rename_i hn
   rw [List.getElem?_eq_none (by omega)]; rfl
theorem Ac (r : Fv) : r.v.cells = #[r.v] := by
 have h := RV.cells (Xo.2 (rfl : r.v = r.v) : RV (fun _ => 0) default r r.v)
 have : r.v.cells.toList = [r.v] := h
 exact Array.toList_inj.1 this
section
variable {P : Program} {e : Env} {w : World} {g : Gh} {K : Value → World → Prop} {x y z : Operand}
theorem Pd {n : Nat} {t et : TypeId} {v : Value} {rows : List Fv} {i : Int} {r : Fv} (r' : Fv) (hs : ∀ w, (sizeOf t).run P w = .ok 1 w) (hx : ev e x = Gq v i 1) (hv : RO n g w et rows v) (hi : idx rows i = some r) (hy : ev e y = r'.v)
  (h : ∀ w', Stp n g w g w' → RO n g w' et (rows.set i.toNat r') v → K undef w') : Doe P (.store t x y) e w K := fun d ty pos af gd => by
 rcases hv with ⟨_, rfl⟩ | ⟨b, c, cs, rfl, ho, hm, hh, hc, hcm, hcs, hr⟩
 ·exact (Js hi).elim
 obtain ⟨h0, hi'⟩ := Wr hi
 have hlt : i.toNat < rows.length := (List.getElem?_eq_some_iff.1 hi').1
 have hcl := Ac r'
 have hrun := Ki (P := P) (t := t) (v := r'.v) (b := b) (o := i.toNat) (by rw [hcl]; exact hs) hh (by rw [hcl]; simp; omega) (by rw [hcl]; simpa using r'.h)
 have hrow : (cs.toList.take i.toNat ++ r'.v.cells.toList ++ cs.toList.drop (i.toNat + r'.v.cells.size)).toArray = cs.setIfInBounds i.toNat r'.v := by
  rw [hcl]
  apply Array.toList_inj.1
  rw [Array.toList_setIfInBounds, List.set_eq_take_append_cons_drop]
  have : i.toNat < cs.toList.length := by simp; omega
  simp
  intro hle; exfalso; simp at this; omega
 rw [hrow] at hrun
 have hstp : Stp n g w g (w.setRow b (cs.setIfInBounds i.toNat r'.v)) := Uo hh ho (fun j hj => by rw [hm] at hj; omega)
 have hrun2 : (execOp (ev e) ⟨d, .store t x y, ty, pos, af, gd⟩).run P w = .ok .skip (w.setRow b (cs.setIfInBounds i.toNat r'.v)) := by
  simp [execOp, hx, hy, Gq, Instr.storeAt, Instr.sureAddr, Result.andThen, hrun]
 unfold doE; rw [hrun2]
 refine h _ hstp (.inr ⟨b, c, _, by rw [List.length_set], ho, hm, Qa _ _ hh, by rw [List.length_set]; exact hc, hcm, by rw [Array.size_setIfInBounds]; exact hcs, fun k r2 hk => ?_⟩)
 rw [Array.getElem?_setIfInBounds]
 rw [List.getElem?_set] at hk
 split at hk
 ·rename_i he
  rw [if_pos he]
  have hk : some r' = some r2 := by
   by_cases hl : i.toNat < rows.length
   ·simpa [hl] using hk
   ·exact absurd hlt hl
  rw [if_pos (by omega)]; injection hk with hk; rw [hk]
 ·rename_i he
  rw [if_neg he]
  exact hr _ _ hk
theorem Rt {i : Nat} {B : Nat → Bool} {n b' : Nat} {g' : Gh} {w' : World} (hB : ∀ x, x < w.heap.size → B x = true → g.o x = i ∧ g.m x = 0)
  (hst : Stp 1 { m := fun x => if B x then n else g.m x, o := fun x => if B x then 1 else 0 } w g' w') (ho : g'.o b' = 1) :
  Stp i g w { m := fun x => if x = b' ∨ B x = true then 0 else g'.m x, o := fun x => if x = b' then i else if x < w.heap.size then g.o x else 0 } w' := by
 have hb' : b' < w.heap.size → B b' = true := fun hb => by
  by_cases hBb : B b' = true
  ·exact hBb
  ·have := hst.o b' hb (by simp [hBb])
   simp [hBb, ho] at this
 have hne : ∀ x, x < w.heap.size → B x ≠ true → x ≠ b' := fun x hx hn he => hn (he ▸ hb' (he ▸ hx))
 refine ⟨hst.os, hst.tape, hst.output, ⟨hst.ch.size, fun x hx => ?_, fun x hx j hj => ?_⟩, fun x hx hn => ?_, fun x hx hn => ?_, fun x hx hn => ?_⟩
 ·by_cases hBx : B x = true
  ·rw [(hB x hx hBx).2]; exact Nat.zero_le _
  ·have h1 := hst.m x hx (by simp [hBx])
   simp only [hBx, if_false, Bool.false_eq_true] at h1
   simp [hne x hx hBx, hBx, h1]
 ·have hBx : B x ≠ true := fun hBx => by rw [(hB x hx hBx).2] at hj; omega
  have h1 := hst.block x hx (by simp [hBx])
  simp only [World.cell?, h1]
 ·have hBx : B x ≠ true := fun hBx => hn (hB x hx hBx).1
  exact hst.block x hx (by simp [hBx])
 ·have hBx : B x ≠ true := fun hBx => hn (hB x hx hBx).1
  have h1 := hst.m x hx (by simp [hBx])
  simp only [hBx, if_false, Bool.false_eq_true] at h1
  simp [hne x hx hBx, hBx, h1]
 ·have hBx : B x ≠ true := fun hBx => hn (hB x hx hBx).1
  simp [hne x hx hBx, hx]
end

/-! ### The rows -/
def Xf (v u : Value) : Prop := ∀ b n c b' n' c', v = .slice (some ⟨b, 0, none⟩) n c → u = .slice (some ⟨b', 0, none⟩) n' c' → b ≠ b'
theorem Xf.symm {v u : Value} (h : Xf v u) : Xf u v := fun _ _ _ _ _ _ h1 h2 he => h _ _ _ _ _ _ h2 h1 he.symm
structure Sz {α : Type} (R : Nat → Gh → World → List α → Value → Prop) : Prop where
 ext : ∀ {i g w g' w' x v}, R i g w x v → Ext g w g' w' → R i g' w' x v
 stp : ∀ {i k g w g' w' x v}, R i g w x v → Stp k g w g' w' → Nat.beq i k = false → R i g' w' x v
 own : ∀ {i g w x v}, R i g w x v → v = .slice none 0 0 ∨ ∃ b n c, v = .slice (some ⟨b, 0, none⟩) n c ∧ g.o b = i ∧ b < w.heap.size
 loc : ∀ {i i' g w x v}, R i g w x v → ∀ o' : Nat → Nat, (∀ b n c, v = .slice (some ⟨b, 0, none⟩) n c → o' b = i') → R i' { m := g.m, o := o' } w x v
def RS {α : Type} [GoT α] (t : TypeId) (i : Nat) (g : Gh) (w : World) (xs : List α) (v : Value) : Prop := OS i g w t xs v ∧ RV g.m w xs v
theorem Bj {α : Type} [GoT α] (t : TypeId) : Sz (RS (α := α) t) where
 ext h k := ⟨h.1.ext k, h.2.ext k⟩
 stp h k hne := ⟨h.1.stp k hne, h.2.ch k.ch⟩
 own h := by
  rcases h.1 with ⟨h, _⟩ | ⟨b, c, cs, hp, ho, hm, hh, _⟩
  ·exact .inl h
  ·exact .inr ⟨b, _, c, hp, ho, Gw hh⟩
 loc h o' ho' := by
  refine ⟨?_, h.2⟩
  rcases h.1 with h | ⟨b, c, cs, hp, ho, hm, hh, h⟩
  ·exact .inl h
  ·exact .inr ⟨b, c, cs, hp, ho' _ _ _ hp, hm, hh, h⟩
def Uu {α : Type} (R : Nat → Gh → World → List α → Value → Prop) (j : Nat) (g : Gh) (w : World) (rows : List Fv) (xss : List (List α)) (hole : Option Nat) : Prop :=
 rows.length = xss.length ∧ (∀ (n : Nat) (r : Fv) (x : List α), hole ≠ some n → rows[n]? = some r → xss[n]? = some x → R j g w x r.v) ∧
 ∀ (n n' : Nat) (r r' : Fv), hole ≠ some n → hole ≠ some n' → n ≠ n' → rows[n]? = some r → rows[n']? = some r' → Xf r.v r'.v
section
variable {α : Type} {R : Nat → Gh → World → List α → Value → Prop} {i j k j' : Nat} {g g' : Gh} {w w' : World} {rows : List Fv} {xss : List (List α)} {hole : Option Nat}
theorem Uu.ext (K : Sz R) (h : Uu R j g w rows xss hole) (k : Ext g w g' w') : Uu R j g' w' rows xss hole := ⟨h.1, fun n r x hn h1 h2 => K.ext (h.2.1 n r x hn h1 h2) k, h.2.2⟩
theorem Uu.stp (K : Sz R) (h : Uu R j g w rows xss hole) (k' : Stp k g w g' w') (hne : Nat.beq j k = false) : Uu R j g' w' rows xss hole := ⟨h.1, fun n r x hn h1 h2 => K.stp (h.2.1 n r x hn h1 h2) k' hne, h.2.2⟩
theorem beq_ne {i j : Nat} (h : Nat.beq i j = false) : i ≠ j := fun he => by rw [he] at h; simp at h
theorem Oi {w : World} {b : Nat} (ho : g.o b = i) (i' : Nat) : Stp i g w { m := g.m, o := K6 g.o b i' } w :=
 ⟨rfl, rfl, rfl, Ch.refl _ _, fun _ _ _ => rfl, fun _ _ _ => rfl, fun _ _ hn => Q1 _ _ (fun h => hn (h ▸ ho))⟩
theorem Uu.take (K : Sz R) (h : Uu R j g w rows xss none) {n : Nat} {r : Fv} {x : List α} (h1 : rows[n]? = some r) (h2 : xss[n]? = some x) (j' : Nat) :
  ∃ g', g'.m = g.m ∧ Stp j g w g' w ∧ R j' g' w x r.v ∧ Uu R j g' w rows xss (some n) := by
 have hr := h.2.1 n r x (by simp) h1 h2
 rcases K.own hr with hv | ⟨b, l, c, hv, ho, hb⟩
 ·refine ⟨g, rfl, (Ext.refl _ _).stp, K.loc hr g.o (fun b n c he => by rw [hv] at he; cases he), h.1, fun n' r' x' hn => h.2.1 n' r' x' (by simp), fun n1 n2 r1 r2 h1 h2 => h.2.2 n1 n2 r1 r2 (by simp) (by simp)⟩
 ·refine ⟨{ m := g.m, o := K6 g.o b j' }, rfl, Oi ho j', K.loc hr _ (fun b' n' c' he => ?_), h.1, fun n' r' x' hn h1' h2' => ?_, fun n1 n2 r1 r2 h1 h2 => h.2.2 n1 n2 r1 r2 (by simp) (by simp)⟩
  ·rw [hv] at he
   injection he with he _ _
   injection he with he
   injection he with he _
   subst he
   exact Tj _ _ _
  ·have hr' := h.2.1 n' r' x' (by simp) h1' h2'
   refine K.loc hr' _ (fun b' l' c' he => ?_)
   have hap := h.2.2 n n' r r' (by simp) (by simp) (fun he => hn (by rw [he])) h1 h1' _ _ _ _ _ _ hv he
   rw [Q1 _ _ (fun h => hap h.symm)]
   rcases K.own hr' with hv' | ⟨b2, l2, c2, hv', ho2, _⟩
   ·rw [hv'] at he; cases he
   ·rw [hv'] at he
    injection he with he _ _
    injection he with he
    injection he with he _
    subst he
    exact ho2
theorem N6 (K : Sz R) {x x' : List α} {v v' : Value} (h : R j g w x v) (h' : R j' g w x' v') (hne : Nat.beq j j' = false) : Xf v v' := fun b n c b' n' c' h1 h2 he => by
 subst he
 have e1 : g.o b = j := by
  rcases K.own h with hv | ⟨b2, l2, c2, hv', ho2, _⟩
  ·rw [hv] at h1; cases h1
  ·rw [hv'] at h1
   injection h1 with he _ _
   injection he with he
   injection he with he _
   subst he; exact ho2
 have e2 : g.o b = j' := by
  rcases K.own h' with hv | ⟨b2, l2, c2, hv', ho2, _⟩
  ·rw [hv] at h2; cases h2
  ·rw [hv'] at h2
   injection h2 with he _ _
   injection he with he
   injection he with he _
   subst he; exact ho2
 exact beq_ne hne (e1.symm.trans e2)
theorem K_tag (K : Sz R) {x : List α} {v : Value} (h : R j' g w x v) (j : Nat) : ∃ g', g'.m = g.m ∧ Stp j' g w g' w ∧ R j g' w x v := by
 rcases K.own h with hv | ⟨b, l, c, hv, ho, hb⟩
 ·exact ⟨g, rfl, (Ext.refl _ _).stp, K.loc h g.o (fun b n c he => by rw [hv] at he; cases he)⟩
 ·refine ⟨{ m := g.m, o := K6 g.o b j }, rfl, Oi ho j, K.loc h _ (fun b' n' c' he => ?_)⟩
  rw [hv] at he
  injection he with he _ _
  injection he with he
  injection he with he _
  subst he
  exact Tj _ _ _
theorem Uu.put (K : Sz R) {n : Nat} (h : Uu R j g w rows xss (some n)) (r : Fv) {x : List α} (hr : R j' g w x r.v) (hne : Nat.beq j j' = false) :
  ∃ g', g'.m = g.m ∧ Stp j' g w g' w ∧ Uu R j g' w (rows.set n r) (xss.set n x) none := by
 obtain ⟨g', hm, hst, hr'⟩ := K_tag K hr j
 refine ⟨g', hm, hst, by simp [h.1], fun n' r' x' _ h1 h2 => ?_, fun n1 n2 r1 r2 _ _ hn h1 h2 => ?_⟩
 ·rw [List.getElem?_set] at h1 h2
  by_cases he : n = n'
  ·rw [if_pos he] at h1 h2
   split at h1
   ·split at h2
    ·injection h1 with h1; injection h2 with h2; subst h1; subst h2; exact hr'
    ·cases h2
   ·cases h1
  ·rw [if_neg he] at h1 h2
   exact K.stp (h.2.1 n' r' x' (by simpa using he) h1 h2) hst hne
 ·rw [List.getElem?_set] at h1 h2
  have hx : ∀ (n' : Nat) (r' : Fv), n ≠ n' → rows[n']? = some r' → Xf r'.v r.v := fun n' r' he h1 => by
   have hlt : n' < xss.length := by rw [← h.1]; exact (List.getElem?_eq_some_iff.1 h1).1
   exact N6 K (h.2.1 n' r' _ (by simpa using he) h1 (List.getElem?_eq_getElem hlt)) hr hne
  by_cases he1 : n = n1
  ·rw [if_pos he1] at h1
   have he2 : n ≠ n2 := fun h => hn (he1.symm.trans h)
   rw [if_neg he2] at h2
   split at h1
   ·injection h1 with h1; subst h1; exact (hx _ _ he2 h2).symm
   ·cases h1
  ·rw [if_neg he1] at h1
   by_cases he2 : n = n2
   ·rw [if_pos he2] at h2
    split at h2
    ·injection h2 with h2; subst h2; exact hx _ _ he1 h1
    ·cases h2
   ·rw [if_neg he2] at h2
    exact h.2.2 n1 n2 r1 r2 (by simpa using he1) (by simpa using he2) hn h1 h2
end
def NS {α : Type} (R : Nat → Gh → World → List α → Value → Prop) (i j : Nat) (g : Gh) (w : World) (et : TypeId) (xss : List (List α)) (v : Value) : Prop := ∃ rows, RO i g w et rows v ∧ Uu R j g w rows xss none
section
variable {α : Type} {R : Nat → Gh → World → List α → Value → Prop} {i j k : Nat} {g g' : Gh} {w w' : World} {et : TypeId} {xss : List (List α)} {v : Value}
theorem NS.ext (K : Sz R) (h : NS R i j g w et xss v) (k : Ext g w g' w') : NS R i j g' w' et xss v := let ⟨rows, h1, h2⟩ := h; ⟨rows, h1.ext k, h2.ext K k⟩
theorem NS.stp (K : Sz R) (h : NS R i j g w et xss v) (k' : Stp k g w g' w') (h1 : Nat.beq i k = false) (h2 : Nat.beq j k = false) : NS R i j g' w' et xss v := let ⟨rows, a, b⟩ := h; ⟨rows, a.stp k' h1, b.stp K k' h2⟩
theorem Uu.idx {rows : List Fv} {hole : Option Nat} (h : Uu R j g w rows xss hole) {n : Int} {x : List α} (hi : Go.Proofs.YtmebkoemfjlbcaaGreatDoor.idx xss n = some x) : ∃ r, Go.Proofs.YtmebkoemfjlbcaaGreatDoor.idx rows n = some r ∧ rows[n.toNat]? = some r ∧ xss[n.toNat]? = some x := by
 obtain ⟨h0, h1⟩ := Wr hi
 have hl : n.toNat < rows.length := by rw [h.1]; exact (List.getElem?_eq_some_iff.1 h1).1
 refine ⟨_, ?_, List.getElem?_eq_getElem hl, h1⟩
 unfold Go.Proofs.YtmebkoemfjlbcaaGreatDoor.idx
 rw [if_pos h0]; exact List.getElem?_eq_getElem hl
variable [GoT α]
theorem NS.key (hR : ∀ {j g w x v}, R j g w x v → RV g.m w x v) (h : NS R i j g w et xss v) :
  ∃ B : Nat → Bool, (∀ x, x < w.heap.size → B x = true → g.o x = i ∧ g.m x = 0) ∧ Ch g.m w (fun x => if B x then xss.length else g.m x) w ∧ RV (fun x => if B x then xss.length else g.m x) w xss v := by
 obtain ⟨rows, hro, hp⟩ := h
 rcases hro with ⟨rfl, rfl⟩ | ⟨b, c, cs, rfl, ho, hm, hh, hc, hcm, hcs, hro⟩
 ·have : xss = [] := List.eq_nil_of_length_eq_zero hp.1.symm
  subst this
  exact ⟨fun _ => false, fun _ _ h => by simp at h, ⟨Nat.le_refl _, fun _ _ => by simp, fun _ _ _ _ => rfl⟩, Tp⟩
 ·have hch : Ch g.m w (fun x => if (x == b) = true then xss.length else g.m x) w := ⟨Nat.le_refl _, fun x hx => by
   by_cases hb : x = b
   ·subst hb; rw [hm]; exact Nat.zero_le _
   ·simp [hb], fun _ _ _ _ => rfl⟩
  refine ⟨fun x => x == b, fun x _ h => by simp at h; subst h; exact ⟨ho, hm⟩, hch, Q4 hp.1 (by rw [← hp.1]; exact hc) fun _ => ⟨b, 0, rfl, Gw hh, ?_, fun n x hn => ?_⟩⟩
  ·show 0 + xss.length * 1 ≤ _; simp
  ·have hl : n < rows.length := by rw [hp.1]; exact (List.getElem?_eq_some_iff.1 hn).1
   have hrn := List.getElem?_eq_getElem hl
   have hrv := (hR (hp.2.1 n _ x (by simp) hrn hn)).ch hch
   refine ⟨_, hrv.cells, fun k c hk => ?_⟩
   rw [Ul hrv] at hk
   have hk0 : k = 0 := by
    have := (List.getElem?_eq_some_iff.1 hk).1
    simp at this; exact this
   subst hk0
   simp at hk
   subst hk
   show w.cell? ⟨b, 0 + n * 1 + 0, none⟩ = _
   simp only [World.cell?, hh]
   simpa using hro n _ hrn
theorem NS.pub (hR : ∀ {j g w x v}, R j g w x v → RV g.m w x v) (h : NS R i j g w et xss v) : ∃ g', Stp i g w g' w ∧ RV g'.m w xss v := by
 obtain ⟨B, hB, hch, hr⟩ := NS.key hR h
 refine ⟨{ m := fun x => if B x then xss.length else g.m x, o := g.o }, ⟨rfl, rfl, rfl, hch, fun _ _ _ => rfl, fun x hx hn => ?_, fun _ _ _ => rfl⟩, hr⟩
 by_cases hb : B x = true
 ·exact absurd (hB x hx hb).1 hn
 ·simp [hb]
end
end Go.Proofs.YtmebkoemfjlbcaaGreatDoor
