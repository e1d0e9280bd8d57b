/- The builtin copy into a slice that the function owns; a variable that holds an own slice that is appended to; full products of unsigned numbers. No program is named here. -/
import Derived.Test.YtmebkoemfjlbcaaGreatDoorVr
namespace Go.Proofs.YtmebkoemfjlbcaaGreatDoor
open Go.RowKit

/-! ### A variable that holds an own slice that begins its block -/
/-! ### copy -/
def cpy {α : Type} (xs : List α) (l : Int) (p q : List α) : List α := xs.take l.toNat ++ (q.take (min q.length p.length) ++ xs.drop (l.toNat + min q.length p.length))
section
variable {P : Program} {e : Env} {w : World} {g : Gh} {K : Value → World → Prop} {x y : Operand}
theorem C4 {t t2 et ty : TypeId} {ti : TypeInfo} {b o dl dc sl : Nat} {sv : Value} {news : List Value} {cs : Array Value} {fr : Nat × Nat} (ht : P.underlying t = some (.slice et)) (hi : P.info? et = some ti)
  (hsl : (Builtin.lenOf sv).run P w = .ok sl w) (hnews : (Builtin.firstCells ti.size (min sl dl) sv).run P w = .ok news.toArray w)
  (hh : w.heap[b]? = some (.cells cs et fr)) (hok : okF cs.size fr) (hfit : o + news.length ≤ cs.size) (hone : ∀ v ∈ news, v.oneCell' = true) :
  (Builtin.copy_ #[t, t2] ty #[.slice (some ⟨b, o, none⟩) dl dc, sv]).run P w = .ok (.int .i64 (min sl dl : Nat)) (w.setRow b (cs.toList.take o ++ news ++ cs.toList.drop (o + news.length)).toArray) := by
 have hst := Hi (P := P) b o et fr news 0 cs w hh hok (by omega) hone
 simp only [Nat.add_zero] at hst
 have hmin : Nat.min sl dl = min sl dl := rfl
 simp [Builtin.copy_, run_underlying ht, sizeOf, typeInfo, hi, hsl, hmin, hnews, hst, goInt]
theorem Lb {α : Type} [GoT α] {i b c l : Nat} {t : TypeId} {cs : Array Value} {xs q : List α} {news : List Value} (hc : xs.length ≤ c) (ho : g.o b = i) (hm : g.m b = 0) (hh : CF w b cs t) (hcs : xs.length * GoT.k α ≤ cs.size) (hf : Tn g.m w xs (cs.toList.take (xs.length * GoT.k α)))
  (hq : Tn g.m w q news) (hl : l + q.length ≤ xs.length) :
  Stp i g w g (w.setRow b (cs.toList.take (l * GoT.k α) ++ news ++ cs.toList.drop (l * GoT.k α + news.length)).toArray) ∧
  OM i g (w.setRow b (cs.toList.take (l * GoT.k α) ++ news ++ cs.toList.drop (l * GoT.k α + news.length)).toArray) t (xs.take l ++ (q ++ xs.drop (l + q.length))) (.slice (some ⟨b, 0, none⟩) xs.length c) := by
 obtain ⟨fr, hh, hok⟩ := hh
 have hnl := hq.len
 have hcsl : cs.toList.length = cs.size := Array.length_toList
 have h1 : l * GoT.k α + q.length * GoT.k α ≤ xs.length * GoT.k α := by rw [← Nat.add_mul]; exact Nat.mul_le_mul_right _ hl
 have h2 : l * GoT.k α ≤ cs.size := by omega
 have htl : (cs.toList.take (l * GoT.k α)).length = l * GoT.k α := by rw [List.length_take, hcsl]; omega
 have hstp := Dr (i := i) (g := g) (w := w) (b := b) (cs := (cs.toList.take (l * GoT.k α) ++ news ++ cs.toList.drop (l * GoT.k α + news.length)).toArray) hh ho (fun j hj => by rw [hm] at hj; omega)
 have hsize : (cs.toList.take (l * GoT.k α) ++ news ++ cs.toList.drop (l * GoT.k α + news.length)).toArray.size = cs.size := by
  simp only [List.size_toArray, List.length_append, htl, List.length_drop, hcsl]; omega
 have hlen : (xs.take l ++ (q ++ xs.drop (l + q.length))).length = xs.length := by simp only [List.length_append, List.length_take, List.length_drop]; omega
 refine ⟨hstp, .inr ⟨b, c, _, by rw [hlen], by rw [hlen]; exact hc, ho, hm, ⟨fr, setRow_heap w b cs _ t fr hh, by rw [hsize]; exact hok⟩, by rw [hlen, hsize]; exact hcs, ?_⟩⟩
 rw [hlen]
 have hfa : Tn g.m w (xs.take l) (cs.toList.take (l * GoT.k α)) := by
  have := hf.take l
  rw [List.take_take, Nat.min_eq_left (by omega)] at this
  exact this
 have hfb : Tn g.m w (xs.drop (l + q.length)) ((cs.toList.take (xs.length * GoT.k α)).drop ((l + q.length) * GoT.k α)) := hf.drop _
 have := (hfa.append (hq.append hfb)).ch hstp.ch
 have e1 : List.take (xs.length * GoT.k α) (cs.toList.take (l * GoT.k α) ++ news ++ cs.toList.drop (l * GoT.k α + news.length)) = cs.toList.take (l * GoT.k α) ++ (news ++ (cs.toList.take (xs.length * GoT.k α)).drop ((l + q.length) * GoT.k α)) := by
  have hnt : news.take (xs.length * GoT.k α - l * GoT.k α) = news := List.take_of_length_le (by omega)
  rw [List.append_assoc, List.take_append, htl, List.take_of_length_le (by rw [htl]; omega), List.take_append, hnt, hnl, Nat.add_mul, List.drop_take]
  congr 3
  omega
 show Tn g.m _ _ (List.take _ (_ : List Value))
 rw [e1]; exact this
theorem N0 {α : Type} [GoT α] {i : Nat} {t et : TypeId} {z : Value} {bytes : Nat} {xs ys : List α} {u v : Value} (ht : P.underlying t = some (.slice et)) (hinfo : (P.info? et).map (fun i => (i.zero, i.size, i.bytes)) = some (some z, GoT.k α, bytes))
  (hx : ev e x = u) (hos : OM i g w et xs u) (hy : ev e y = v) (hv : RV g.m w ys v)
  (h : ∀ g' w', Stp i g w g' w' → OM i g' w' et (cpy xs 0 xs ys) u → K (.int .i64 (min ys.length xs.length : Nat)) w') : Doe P (.call { callee := .builtin .copy, args := #[x, y], argTypes := #[t, t] }) e w K := fun d ty pos af gd => by
 obtain ⟨ti, hi, hz, hsz, hby⟩ := info_parts hinfo
 obtain ⟨a, c', rfl, hc', hrow⟩ := Qc hv
 have fin : ∀ (r : Value) (w' : World), (Builtin.copy_ #[t, t] ty #[u, .slice a ys.length c']).run P w = .ok r w' → K r w' → doE P ⟨d, .call { callee := .builtin .copy, args := #[x, y], argTypes := #[t, t] }, ty, pos, af, gd⟩ e w K := fun r w' hrun hk => by
  have hrun2 : (execOp (ev e) ⟨d, .call { callee := .builtin .copy, args := #[x, y], argTypes := #[t, t] }, ty, pos, af, gd⟩).run P w = .ok (.value r) w' := by
   simp only [execOp, resolve, invoke, builtin, Sem.run_bind, Sem.run_pure, Result.andThen_ok, List.map_toArray, List.map_cons, List.map_nil, hx, hy, hrun]
  unfold doE; rw [hrun2]; exact hk
 have same : Stp i g w g w := ⟨rfl, rfl, rfl, Ch.refl _ _, fun _ _ _ => rfl, fun _ _ _ => rfl, fun _ _ _ => rfl⟩
 rcases hos with ⟨rfl, rfl⟩ | ⟨b, c, cs, rfl, hc, ho, hm, hh, hcs, hf⟩
 ·refine fin (.int .i64 (min ys.length 0 : Nat)) w ?_ (h g w same (.inl ⟨rfl, by simp [cpy]⟩))
  have hf0 : (Builtin.firstCells ti.size (min ys.length 0) (.slice a ys.length c')).run P w = .ok #[] w := by
   rw [Nat.min_zero]
   cases a with
   | none => simp [Builtin.firstCells]
   | some a => exact run_firstCells_some (P := P) w ti.size 0 a ys.length c' [] (by simp) (fun j v hj => by cases hj)
  simp [Builtin.copy_, run_underlying ht, sizeOf, typeInfo, hi, Builtin.lenOf, goInt] at hf0 ⊢
  simp [hf0]
 ·obtain ⟨news, hq, hnews⟩ : ∃ news, Tn g.m w (ys.take (min ys.length xs.length)) news ∧ (Builtin.firstCells ti.size (min ys.length xs.length) (.slice a ys.length c')).run P w = .ok news.toArray w := by
   rcases Nat.eq_zero_or_pos ys.length with hy0 | hy0
   ·refine ⟨[], by rw [List.eq_nil_of_length_eq_zero hy0]; rfl, ?_⟩
    rw [hy0, Nat.zero_min]
    cases a with
    | none => simp [Builtin.firstCells]
    | some a => exact run_firstCells_some (P := P) w ti.size 0 a 0 c' [] (by simp) (fun j v hj => by cases hj)
   ·obtain ⟨b2, off2, rfl, _, _, hrow2⟩ := hrow hy0
    obtain ⟨cells, hfl, hcell⟩ := hrow2.flat
    have hfl' := hfl.take (min ys.length xs.length)
    refine ⟨_, hfl', run_firstCells_some (P := P) w ti.size _ ⟨b2, off2, none⟩ ys.length c' _ (by rw [hfl'.len, List.length_take, hsz, Nat.min_eq_left (Nat.min_le_left _ _)]) fun j v hj => ?_⟩
    rw [List.getElem?_take] at hj
    split at hj
    ·rw [Wb]; exact hcell j v hj
    ·cases hj
  have hql : (ys.take (min ys.length xs.length)).length = min ys.length xs.length := by rw [List.length_take]; omega
  have hnl := hq.len
  obtain ⟨fr, hh', hok⟩ := hh
  have hfit : 0 + news.length ≤ cs.size := by
   have : (min ys.length xs.length) * GoT.k α ≤ xs.length * GoT.k α := Nat.mul_le_mul_right _ (by omega)
   rw [hnl, hql]; omega
  have hrun := C4 (P := P) (ty := ty) (t2 := t) (dl := xs.length) (dc := c) ht hi (sl := ys.length) (sv := .slice a ys.length c') rfl hnews hh' hok hfit hq.one
  have hom := Lb (l := 0) hc ho hm ⟨fr, hh', hok⟩ hcs hf hq (by rw [hql]; omega)
  rw [Nat.zero_mul, hql] at hom
  exact fin _ _ hrun (h _ _ hom.1 hom.2)
theorem P8 {α : Type} [GoT α] {i : Nat} {t et : TypeId} {z : Value} {bytes : Nat} {xs p q : List α} {u : Value} {l h l2 h2 : Int} (ht : P.underlying t = some (.slice et)) (hinfo : (P.info? et).map (fun i => (i.zero, i.size, i.bytes)) = some (some z, GoT.k α, bytes))
  (hx : ev e x = Kf u l.toNat h.toNat (GoT.k α)) (hos : OM i g w et xs u) (hy : ev e y = Kf u l2.toNat h2.toNat (GoT.k α)) (hp : cut xs l h = some p) (hq : cut xs l2 h2 = some q)
  (hk : ∀ g' w', Stp i g w g' w' → OM i g' w' et (cpy xs l p q) u → K (.int .i64 (min q.length p.length : Nat)) w') : Doe P (.call { callee := .builtin .copy, args := #[x, y], argTypes := #[t, t] }) e w K := fun d ty pos af gd => by
 obtain ⟨ti, hi, hz, hsz, hby⟩ := info_parts hinfo
 unfold cut at hp hq
 split at hp
 case isFalse => cases hp
 rename_i hb1
 split at hq
 case isFalse => cases hq
 rename_i hb2
 injection hp with hp
 injection hq with hq
 obtain ⟨hl0, hlh, hhn⟩ := hb1
 obtain ⟨hl20, hl2h, hh2n⟩ := hb2
 obtain ⟨ln, rfl⟩ := Int.eq_ofNat_of_zero_le hl0
 obtain ⟨hn, rfl⟩ := Int.eq_ofNat_of_zero_le (Int.le_trans hl0 hlh)
 obtain ⟨l2n, rfl⟩ := Int.eq_ofNat_of_zero_le hl20
 obtain ⟨h2n, rfl⟩ := Int.eq_ofNat_of_zero_le (Int.le_trans hl20 hl2h)
 simp only [Int.toNat_natCast] at hp hq hx hy hk
 have hln : ln ≤ hn := by omega
 have hnx : hn ≤ xs.length := by omega
 have hl2n : l2n ≤ h2n := by omega
 have hh2x : h2n ≤ xs.length := by omega
 have hpl : p.length = hn - ln := by rw [← hp, List.length_drop, List.length_take]; omega
 have hql : q.length = h2n - l2n := by rw [← hq, List.length_drop, List.length_take]; omega
 have fin : ∀ (r : Value) (w' : World), (Builtin.copy_ #[t, t] ty #[Kf u ln hn (GoT.k α), Kf u l2n h2n (GoT.k α)]).run P w = .ok r w' → K r w' → doE P ⟨d, .call { callee := .builtin .copy, args := #[x, y], argTypes := #[t, t] }, ty, pos, af, gd⟩ e w K := fun r w' hrun hk => by
  have hrun2 : (execOp (ev e) ⟨d, .call { callee := .builtin .copy, args := #[x, y], argTypes := #[t, t] }, ty, pos, af, gd⟩).run P w = .ok (.value r) w' := by
   simp only [execOp, resolve, invoke, builtin, Sem.run_bind, Sem.run_pure, Result.andThen_ok, List.map_toArray, List.map_cons, List.map_nil, hx, hy, hrun]
  unfold doE; rw [hrun2]; exact hk
 have same : Stp i g w g w := ⟨rfl, rfl, rfl, Ch.refl _ _, fun _ _ _ => rfl, fun _ _ _ => rfl, fun _ _ _ => rfl⟩
 -- nothing is copied
 have zero : min q.length p.length = 0 → ∀ (a : Option Addr) (dc : Nat) (a2 : Option Addr) (c2 : Nat), Kf u ln hn (GoT.k α) = .slice a p.length dc → Kf u l2n h2n (GoT.k α) = .slice a2 q.length c2 → (∀ b, a = some b → (storeCells b []).run P w = .ok () w) → OM i g w et xs u → doE P ⟨d, .call { callee := .builtin .copy, args := #[x, y], argTypes := #[t, t] }, ty, pos, af, gd⟩ e w K := fun h0 a dc a2 c2 e1 e2 hst hom => by
  refine fin (.int .i64 (min q.length p.length : Nat)) w ?_ (hk g w same (by
   have : cpy xs (ln : Int) p q = xs := by simp [cpy, h0]
   rw [this]; exact hom))
  rw [e1, e2]
  have hf0 : (Builtin.firstCells ti.size 0 (.slice a2 q.length c2)).run P w = .ok #[] w := by
   cases a2 with
   | none => simp [Builtin.firstCells]
   | some a => exact run_firstCells_some (P := P) w ti.size 0 a q.length c2 [] (by simp) (fun j v hj => by cases hj)
  have hmin : Nat.min q.length p.length = 0 := h0
  cases a with
  | none => simp [Builtin.copy_, run_underlying ht, sizeOf, typeInfo, hi, Builtin.lenOf, hmin, goInt, hf0]
  | some b => simp [Builtin.copy_, run_underlying ht, sizeOf, typeInfo, hi, Builtin.lenOf, hmin, goInt, hf0, hst b rfl]
 have st0 : ∀ b : Addr, (storeCells b []).run P w = .ok () w := fun b => rfl
 rcases Nat.eq_zero_or_pos (min q.length p.length) with h0 | h0
 ·rcases hos with ⟨rfl, rfl⟩ | ⟨b, c, cs, rfl, hc, ho, hm, hh, hcs, hf⟩
  ·exact zero h0 _ _ _ _ (by rw [hpl]; rfl) (by rw [hql]; rfl) (fun b _ => st0 b) (.inl ⟨rfl, rfl⟩)
  ·exact zero h0 _ _ _ _ (by rw [hpl]; rfl) (by rw [hql]; rfl) (fun b _ => st0 b) (.inr ⟨b, c, cs, rfl, hc, ho, hm, hh, hcs, hf⟩)
 ·rcases hos with ⟨rfl, rfl⟩ | ⟨b, c, cs, rfl, hc, ho, hm, hh, hcs, hf⟩
  ·simp at hnx; omega
  obtain ⟨fr, hh', hok⟩ := hh
  have hcutx : Kf (.slice (some ⟨b, 0, none⟩) xs.length c) ln hn (GoT.k α) = .slice (some ⟨b, ln * GoT.k α, none⟩) p.length (c - ln) := by
   simp only [Kf, hpl]; rw [if_neg (by omega)]; simp [Wb]
  have hcuty : Kf (.slice (some ⟨b, 0, none⟩) xs.length c) l2n h2n (GoT.k α) = .slice (some ⟨b, l2n * GoT.k α, none⟩) q.length (c - l2n) := by
   simp only [Kf, hql]; rw [if_neg (by omega)]; simp [Wb]
  have hfq : Tn g.m w q (((cs.toList.take (xs.length * GoT.k α)).take (h2n * GoT.k α)).drop (l2n * GoT.k α)) := by rw [← hq]; exact (hf.take h2n).drop l2n
  rw [List.take_take, Nat.min_eq_left (Nat.mul_le_mul_right _ hh2x)] at hfq
  generalize hcells : (cs.toList.take (h2n * GoT.k α)).drop (l2n * GoT.k α) = cells at hfq
  have hcell : ∀ j v, cells[j]? = some v → w.cell? ⟨b, l2n * GoT.k α + j, none⟩ = some v := fun j v hj => by
   rw [← hcells, List.getElem?_drop, List.getElem?_take] at hj
   split at hj
   ·simp only [World.cell?, hh']; simpa using hj
   ·cases hj
  have hfl' := hfq.take (min q.length p.length)
  have htk : (q.take (min q.length p.length)).length = min q.length p.length := by rw [List.length_take]; omega
  have hfc : (Builtin.firstCells ti.size (min q.length p.length) (.slice (some ⟨b, l2n * GoT.k α, none⟩) q.length (c - l2n))).run P w = .ok (cells.take (min q.length p.length * GoT.k α)).toArray w :=
   run_firstCells_some (P := P) w ti.size _ ⟨b, l2n * GoT.k α, none⟩ q.length (c - l2n) _ (by rw [hfl'.len, htk, hsz]) fun j v hj => by
    rw [List.getElem?_take] at hj
    split at hj
    ·rw [Wb]; exact hcell j v hj
    ·cases hj
  have hnl := hfl'.len
  rw [htk] at hnl
  have hfit : ln * GoT.k α + (cells.take (min q.length p.length * GoT.k α)).length ≤ cs.size := by
   have : (ln + min q.length p.length) * GoT.k α ≤ xs.length * GoT.k α := Nat.mul_le_mul_right _ (by omega)
   rw [Nat.add_mul] at this
   rw [hnl]; omega
  have hrun := C4 (P := P) (ty := ty) (t2 := t) (dl := p.length) (dc := c - ln) (o := ln * GoT.k α) ht hi (sl := q.length) (sv := .slice (some ⟨b, l2n * GoT.k α, none⟩) q.length (c - l2n)) rfl hfc hh' hok hfit hfl'.one
  have hom := Lb (l := ln) hc ho hm ⟨fr, hh', hok⟩ hcs hf hfl' (by rw [htk]; omega)
  rw [htk] at hom
  refine fin _ _ (by rw [hcutx, hcuty]; exact hrun) (hk _ _ hom.1 ?_)
  have : cpy xs (ln : Int) p q = xs.take ln ++ (q.take (min q.length p.length) ++ xs.drop (ln + min q.length p.length)) := by simp [cpy]
  rw [this]; exact hom.2
end

/-! ### Handing out -/
/-! ### Unsigned numbers -/
def N9 (op : BinOp) (m n : Int) : Option Bool := match op with
 | .eql => some (m == n)
 | .neq => some (m != n)
 | .lss => some (decide (m < n))
 | .leq => some (decide (m ≤ n))
 | .gtr => some (decide (m > n))
 | .geq => some (decide (m ≥ n))
 | _ => none
section
variable {P : Program} {e : Env} {w : World} {K : Value → World → Prop} {x y : Operand}
theorem Cc {op : BinOp} {t t2 : TypeId} {m n : Int} {v : Bool} (hx : ev e x = .int .u64 m) (hy : ev e y = .int .u64 n) (h : N9 op m n = some v) : Pur P (.binOp op t x y t2) e (.bool v) := fun _ _ _ _ _ _ => by
 cases op <;> simp only [N9, Option.some.injEq] at h <;> first
  | (cases h; done)
  | (subst h; simp [execOp, hx, hy, eqGuard, binOp, Op.intCmp])
end
/-! ### Unsigned numbers of 64 bits as data -/
structure U64 where
 n : Int
 deriving DecidableEq, Inhabited
def G9 (op : BinOp) (x y : Int) : Int :=
 let a := BitVec.ofInt 64 x
 let b := BitVec.ofInt 64 y
 T2 (match op with | .and => (a &&& b).toNat | .or => (a ||| b).toNat | .xor => (a ^^^ b).toNat | _ => (a &&& ~~~b).toNat : Nat)
def Co (x y : Int) : Option Int := if y < 0 then none else some (T2 (x * 2 ^ (min y.toNat 64)))
section
variable {P : Program} {e : Env} {x y : Operand}
theorem Kj {op : BinOp} {t t2 : TypeId} {m n : Int} (h : op = .and ∨ op = .or ∨ op = .xor ∨ op = .andNot) (hx : ev e x = .int .u64 m) (hy : ev e y = .int .u64 n) : Pur P (.binOp op t x y t2) e (.int .u64 (G9 op m n)) :=
 H6 hx hy (fun w => Wc w) fun w => by
  rcases h with rfl | rfl | rfl | rfl <;> (simp only [binOp, ne_eq, not_true_eq_false, if_false, Op.intBits]; rfl)
theorem Xd {t t2 : TypeId} {m n v : Int} {k : IntKind} (hx : ev e x = .int .u64 m) (hy : ev e y = .int k n) (hv : Co m n = some v) : Pur P (.binOp .shl t x y t2) e (.int .u64 v) :=
 H6 hx hy (fun w => Wc w) fun w => by
  unfold Co at hv
  split at hv
  ·cases hv
  ·rename_i hn; injection hv with hv; subst hv
   simp only [binOp, Op.shift, if_neg hn, T2]; rfl
theorem Ra {t t2 : TypeId} {m n : Int} (hx : ev e x = .int .u64 m) (hy : ev e y = .int .u64 n) : Pur P (.binOp .add t x y t2) e (.int .u64 (T2 (m + n))) :=
 H6 hx hy (fun w => Wc w) fun w => by simp [binOp, Op.intArith, T2]
theorem P_usub {t t2 : TypeId} {m n : Int} (hx : ev e x = .int .u64 m) (hy : ev e y = .int .u64 n) : Pur P (.binOp .sub t x y t2) e (.int .u64 (T2 (m - n))) :=
 H6 hx hy (fun w => Wc w) fun w => by simp [binOp, Op.intArith, T2]
theorem D3 {t t2 : TypeId} {m n : Int} (hx : ev e x = .int .u64 m) (hy : ev e y = .int .u64 n) : Pur P (.binOp .mul t x y t2) e (.int .u64 (T2 (m * n))) :=
 H6 hx hy (fun w => Wc w) fun w => by simp [binOp, Op.intArith, T2]
end
/-! ### Slices that stay written and appended to, through calls -/
/-! ### Texts as keys of maps -/
/-! ### Appends to an own slice of what is shared -/
/-! ### Numbers of 32 bits -/
end Go.Proofs.YtmebkoemfjlbcaaGreatDoor
