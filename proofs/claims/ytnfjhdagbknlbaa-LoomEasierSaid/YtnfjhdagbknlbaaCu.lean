/- A part cut out of an own slice, in place; a slice that an own variable shares. No program is named here. -/
import Derived.Test.YtnfjhdagbknlbaaCe
namespace Go.Proofs.Ytnfjhdagbknlbaa
open Go.RowKit
section
variable {α : Type} [GoT α] {m : Nat → Nat} {w : World}
theorem FlatR.take : ∀ {xs : List α} {cs : List Value} (n : Nat), FlatR m w xs cs → FlatR m w (xs.take n) (cs.take (n * GoT.k α))
 | [], _, n, h => by rw [show _ = [] from h]; simp; exact rfl
 | _ :: _, _, 0, _ => by simp; exact rfl
 | _ :: _, _, n + 1, ⟨c1, c2, he, h1, h2⟩ => by
  subst he
  have hl := GoT.len h1
  have e1 : (n + 1) * GoT.k α = c1.length + n * GoT.k α := by rw [Nat.add_mul, hl]; omega
  rw [List.take_succ_cons, e1, List.take_append, List.take_of_length_le (Nat.le_add_right _ _), Nat.add_sub_cancel_left]
  exact ⟨_, _, rfl, h1, h2.take n⟩
theorem FlatR.drop : ∀ {xs : List α} {cs : List Value} (n : Nat), FlatR m w xs cs → FlatR m w (xs.drop n) (cs.drop (n * GoT.k α))
 | [], _, n, h => by rw [show _ = [] from h]; simp; exact rfl
 | _ :: _, _, 0, h => by simpa using h
 | _ :: _, _, n + 1, ⟨c1, c2, he, h1, h2⟩ => by
  subst he
  have hl := GoT.len h1
  have e1 : (n + 1) * GoT.k α = c1.length + n * GoT.k α := by rw [Nat.add_mul, hl]; omega
  rw [List.drop_succ_cons, e1, List.drop_append, List.drop_of_length_le (Nat.le_add_right _ _), List.nil_append, Nat.add_sub_cancel_left]
  exact h2.drop n
end
section
variable {P : Program} {e : Env} {w : World} {g : Gh} {K : Value → World → Prop} {x y z : Operand}
theorem OM.hdr {α : Type} [GoT α] {i : Nat} {t : TypeId} {xs : List α} {v : Value} (h : OM i g w t xs v) : ∃ a c, v = .slice a xs.length c ∧ xs.length ≤ c := by
 rcases h with ⟨rfl, rfl⟩ | ⟨b, c, cs, rfl, hc, _⟩
 ·exact ⟨none, 0, rfl, Nat.le_refl _⟩
 ·exact ⟨_, c, rfl, hc⟩
theorem P_cutM {α : Type} [GoT α] {t et : TypeId} {v : Value} {xs r : List α} {lo hi : Option Operand} {l h : Int} (ht : P.underlying t = some (.slice et)) (hs : ∀ w, (sizeOf et).run P w = .ok (GoT.k α) w)
  (hx : ev e x = v) (hv : ∃ a c, v = .slice a xs.length c ∧ xs.length ≤ c) (hlo : match lo with | some o => ev e o = .int .i64 l | none => l = 0) (hhi : match hi with | some o => ev e o = .int .i64 h | none => h = xs.length) (hc : cut xs l h = some r) :
  Pur P (.slice t x lo hi none) e (cutV v l.toNat h.toNat (GoT.k α)) := fun _ _ _ _ _ _ => by
 obtain ⟨a, c, rfl, hxc⟩ := hv
 unfold cut at hc
 split at hc
 case isFalse => cases hc
 rename_i hb
 obtain ⟨h0, hlh, hhl⟩ := hb
 obtain ⟨ln, rfl⟩ := Int.eq_ofNat_of_zero_le h0
 obtain ⟨hn, rfl⟩ := Int.eq_ofNat_of_zero_le (Int.le_trans h0 hlh)
 have hlh' : ln ≤ hn := by omega
 have hhl' : hn ≤ xs.length := by omega
 have hb3 : hn ≤ c := by omega
 simp only [Int.toNat_natCast]
 cases lo with
 | none =>
  simp only at hlo
  have : ln = 0 := by omega
  subst this
  cases hi with
  | none =>
   simp only at hhi
   have : hn = xs.length := by omega
   subst this
   simp [execOp, hx, Instr.sliceAt, Instr.slice, run_underlying ht, Instr.sliceBounds, hs, cutV]
  | some oh =>
   simp only at hhi
   simp [execOp, hx, hhi, Instr.sliceAt, Instr.slice, run_underlying ht, Instr.sliceBounds, Instr.sliceBound, asIntOf, hs, hb3, cutV]
 | some ol =>
  simp only at hlo
  cases hi with
  | none =>
   simp only at hhi
   have : hn = xs.length := by omega
   subst this
   simp [execOp, hx, hlo, Instr.sliceAt, Instr.slice, run_underlying ht, Instr.sliceBounds, Instr.sliceBound, asIntOf, hs, hlh', cutV]
  | some oh =>
   simp only at hhi
   simp [execOp, hx, hlo, hhi, Instr.sliceAt, Instr.slice, run_underlying ht, Instr.sliceBounds, Instr.sliceBound, asIntOf, hs, hb3, hlh', cutV]
def cutFit {α : Type} (xs p q : List α) : Option (List α) := bif Nat.ble (p.length + q.length) xs.length then some (p ++ q) else none
theorem cutFit_some {α : Type} {xs p q r : List α} (h : cutFit xs p q = some r) : Nat.ble (p.length + q.length) xs.length = true ∧ r = p ++ q := by
 unfold cutFit at h
 cases hb : Nat.ble (p.length + q.length) xs.length with
 | true => rw [hb] at h; exact ⟨rfl, (Option.some.inj h).symm⟩
 | false => rw [hb] at h; cases h
theorem D_cutOut {α : Type} [GoT α] {i : Nat} {t et : TypeId} {z : Value} {bytes : Nat} {xs p q r : List α} {u : Value} {k l h : Int}
  (ht : P.underlying t = some (.slice et)) (hinfo : (P.info? et).map (fun i => (i.zero, i.size, i.bytes)) = some (some z, GoT.k α, bytes))
  (hx : ev e x = cutV u 0 k.toNat (GoT.k α)) (hos : OM i g w et xs u) (hy : ev e y = cutV u l.toNat h.toNat (GoT.k α)) (hp : cut xs 0 k = some p) (hq : cut xs l h = some q) (hr : cutFit xs p q = some r)
  (hk : ∀ g' w' v', Stp i g w g' w' → OM i g' w' et r v' → K v' w') : Doe P (.call { callee := .builtin .append, args := #[x, y], argTypes := #[t, t] }) e w K := fun d ty pos af gd => by
 obtain ⟨ti, hi, hz, hsz, hby⟩ := info_parts hinfo
 obtain ⟨hfit, rfl⟩ := cutFit_some hr
 have hfit := Nat.le_of_ble_eq_true hfit
 unfold cut at hp hq
 split at hp
 case isFalse => cases hp
 rename_i hb1
 split at hq
 case isFalse => cases hq
 rename_i hb2
 injection hp with hp
 injection hq with hq
 obtain ⟨_, hk0, hkn⟩ := hb1
 obtain ⟨hl0, hlh, hhn⟩ := hb2
 obtain ⟨kn, rfl⟩ := Int.eq_ofNat_of_zero_le hk0
 obtain ⟨ln, rfl⟩ := Int.eq_ofNat_of_zero_le hl0
 obtain ⟨hn, rfl⟩ := Int.eq_ofNat_of_zero_le (Int.le_trans hl0 hlh)
 simp only [Int.toNat_natCast, Int.toNat_zero, List.drop_zero] at hp hq hx hy
 have hln : ln ≤ hn := by omega
 have hhx : hn ≤ xs.length := by omega
 have hkx : kn ≤ xs.length := by omega
 have hpl : p.length = kn := by rw [← hp, List.length_take]; omega
 have hql : q.length = hn - ln := by rw [← hq, List.length_drop, List.length_take]; omega
 have fin : ∀ (v' : Value) (w' : World), (Builtin.append_ #[t, t] ty #[cutV u 0 kn (GoT.k α), cutV u ln hn (GoT.k α)]).run P w = .ok v' w' → Stp i g w g w' → OM i g w' et (p ++ q) v' → doE P ⟨d, .call { callee := .builtin .append, args := #[x, y], argTypes := #[t, t] }, ty, pos, af, gd⟩ e w K := fun v' w' hrun h1 h2 => by
  have hrun2 : (execOp (ev e) ⟨d, .call { callee := .builtin .append, args := #[x, y], argTypes := #[t, t] }, ty, pos, af, gd⟩).run P w = .ok (.value v') w' := by
   simp only [execOp, resolve, invoke, builtin, Sem.run_bind, Sem.run_pure, Result.andThen_ok, List.map_toArray, List.map_cons, List.map_nil, hx, hy, hrun]
  unfold doE; rw [hrun2]; exact hk _ _ _ h1 h2
 have same : Stp i g w g w := ⟨rfl, rfl, rfl, Ch.refl _ _, fun _ _ _ => rfl, fun _ _ _ => rfl, fun _ _ _ => rfl⟩
 rcases hos with ⟨rfl, rfl⟩ | ⟨b, c, cs, rfl, hc, ho, hm, ⟨fr, hh, hok⟩, hcs, hf⟩
 ·have e1 : hn = 0 := by simpa using hhx
  have e2 : kn = 0 := by simpa using hkx
  subst e1; subst e2
  have e3 : ln = 0 := by omega
  subst e3
  refine fin (.slice none 0 0) w ?_ same (.inl ⟨rfl, by rw [← hp, ← hq]; rfl⟩)
  exact run_append_zero t ty et ti ht hi none 0 0 (Nat.le_refl _) none 0
 ·have hcutx : cutV (.slice (some ⟨b, 0, none⟩) xs.length c) 0 kn (GoT.k α) = .slice (some ⟨b, 0, none⟩) kn c := by
   simp only [cutV, Nat.sub_zero]
   split
   ·rfl
   ·simp [addr_add]
  have hcsl : cs.toList.length = cs.size := Array.length_toList
  rcases Nat.eq_or_lt_of_le hln with heq | hlt
  ·subst heq
   have hq0 : q = [] := List.eq_nil_of_length_eq_zero (by omega)
   subst hq0
   refine fin (.slice (some ⟨b, 0, none⟩) kn c) w ?_ same (.inr ⟨b, c, cs, by rw [List.append_nil, hpl], by rw [List.append_nil, hpl]; omega, ho, hm, ⟨fr, hh, hok⟩, ?_, ?_⟩)
   ·rw [hcutx]
    have : cutV (.slice (some ⟨b, 0, none⟩) xs.length c) ln ln (GoT.k α) = .slice (if c = ln then some ⟨b, 0, none⟩ else (some (⟨b, 0, none⟩ : Addr)).map (·.add (ln * GoT.k α))) 0 (c - ln) := by simp only [cutV, Nat.sub_self]
    rw [this]
    exact run_append_zero t ty et ti ht hi _ kn c (by omega) _ _
   ·rw [List.append_nil, hpl]; exact Nat.le_trans (Nat.mul_le_mul_right _ hkx) hcs
   ·rw [List.append_nil, hpl]
    have := hf.take kn
    rw [List.take_take, Nat.min_eq_left (Nat.mul_le_mul_right _ hkx), hp] at this
    exact this
  ·have hcl : c ≠ ln := by omega
   have hcuty : cutV (.slice (some ⟨b, 0, none⟩) xs.length c) ln hn (GoT.k α) = .slice (some ⟨b, ln * GoT.k α, none⟩) (hn - ln) (c - ln) := by
    simp only [cutV]; rw [if_neg hcl]; simp [addr_add]
   have hfq : FlatR g.m w q (((cs.toList.take (xs.length * GoT.k α)).take (hn * GoT.k α)).drop (ln * GoT.k α)) := by rw [← hq]; exact (hf.take hn).drop ln
   rw [List.take_take, Nat.min_eq_left (Nat.mul_le_mul_right _ hhx)] at hfq
   have hnl := hfq.len
   generalize hnews : (cs.toList.take (hn * GoT.k α)).drop (ln * GoT.k α) = news at hfq hnl
   have hcell : ∀ j v, news[j]? = some v → w.cell? ((⟨b, ln * GoT.k α, none⟩ : Addr).add j) = some v := fun j v hj => by
    rw [← hnews, List.getElem?_drop, List.getElem?_take] at hj
    split at hj
    ·rw [addr_add]; simp only [World.cell?, hh]; simpa using hj
    ·cases hj
   have hfc := run_firstCells_some (P := P) w ti.size (hn - ln) ⟨b, ln * GoT.k α, none⟩ (hn - ln) (c - ln) news (by rw [hsz, hnl, hql]) hcell
   have hk1 : kn * GoT.k α + news.length ≤ xs.length * GoT.k α := by
    rw [hnl, hql, ← Nat.add_mul]; exact Nat.mul_le_mul_right _ (by omega)
   have hst := run_storeCells_atG (P := P) b (kn * GoT.k α) et fr news 0 cs w hh hok (by omega) hfq.one
   simp only [Nat.add_zero] at hst
   have hrun : (Builtin.append_ #[t, t] ty #[.slice (some ⟨b, 0, none⟩) kn c, .slice (some ⟨b, ln * GoT.k α, none⟩) (hn - ln) (c - ln)]).run P w = .ok (.slice (some ⟨b, 0, none⟩) (kn + (hn - ln)) c) (w.setRow b (cs.toList.take (kn * GoT.k α) ++ news ++ cs.toList.drop (kn * GoT.k α + news.length)).toArray) := by
    simp only [hsz] at hfc
    simp [Builtin.append_, run_underlying ht, sizeOf, typeInfo, hi, Builtin.lenOf, show kn + (hn - ln) ≤ c by omega, hsz, hfc, Addr.add_lit, hst]
   have hstp := stp_rowG (i := i) (g := g) (w := w) (b := b) (cs := (cs.toList.take (kn * GoT.k α) ++ news ++ cs.toList.drop (kn * GoT.k α + news.length)).toArray) hh ho (fun j hj => by rw [hm] at hj; omega)
   have hpql : (p ++ q).length = kn + (hn - ln) := by rw [List.length_append, hpl, hql]
   have htl : (cs.toList.take (kn * GoT.k α)).length = kn * GoT.k α := by
    rw [List.length_take, hcsl, Nat.min_eq_left]
    exact Nat.le_trans (Nat.mul_le_mul_right _ hkx) hcs
   have hsize : (cs.toList.take (kn * GoT.k α) ++ news ++ cs.toList.drop (kn * GoT.k α + news.length)).toArray.size = cs.size := by
    simp only [List.size_toArray, List.length_append, htl, List.length_drop, hcsl]; omega
   refine fin _ _ (by rw [hcutx, hcuty]; exact hrun) hstp (.inr ⟨b, c, _, by rw [hpql], by rw [hpql]; omega, ho, hm, ⟨fr, setRow_heap w b cs _ et fr hh, by rw [hsize]; exact hok⟩, ?_, ?_⟩)
   ·rw [hsize, hpql]; exact Nat.le_trans (Nat.mul_le_mul_right _ (by omega)) hcs
   ·have hpf : FlatR g.m w p (cs.toList.take (kn * GoT.k α)) := by
     have := hf.take kn
     rw [List.take_take, Nat.min_eq_left (Nat.mul_le_mul_right _ hkx), hp] at this
     exact this
    have := (hpf.append hfq).ch hstp.ch
    rw [hpql, Nat.add_mul]
    have e1 : (cs.toList.take (kn * GoT.k α) ++ news ++ cs.toList.drop (kn * GoT.k α + news.length)).take (kn * GoT.k α + (hn - ln) * GoT.k α) = cs.toList.take (kn * GoT.k α) ++ news := by
     rw [List.take_append_of_le_length (by rw [List.length_append, htl, hnl, hql]; omega), List.take_of_length_le (by rw [List.length_append, htl, hnl, hql]; omega)]
    show FlatR g.m _ _ (List.take _ _)
    rw [e1]; exact this
theorem D_loadSh {α γ : Type} [GoT α] [GoT γ] {A : Ow α} {E : Ow γ} {i b b1 off : Nat} {t t2 : TypeId} {a : α} {s : A.S} {et : TypeId} {st : List γ → α} {put : (Ow.list et E).S → A.S} {ys : List γ} (c : Cxt A b (Ow.list et E) st b1 off put) (hx : st ys = a) (hs : put (.sh : Sl E.S) = s)
  (ha : ∀ w, (isAgg t).run P w = .ok false w) (hsz : ∀ w, (sizeOf t).run P w = .ok 1 w) (hp : ev e x = .pointer (some ⟨b1, off, none⟩)) (h : OV A i g w t2 a b s) (k : ∀ v, RV g.m w ys v → K v w) : Doe P (.load t x) e w K := fun d ty pos af gd => by
 subst hx; subst hs
 obtain ⟨carr, et', cs, h1, h2, h3⟩ := (c.rd h.loc).cellsAt
 have h2 : GoT.rep g.m w ys cs := h2
 have hrun : (execOp (ev e) ⟨d, .load t x, ty, pos, af, gd⟩).run P w = .ok (.value (toV (GoT.agg (List γ)) cs)) w := by
  simp [execOp, hp, Instr.loadAt, Instr.sureAddr, Result.andThen, loadVar_run ha hsz h2 h3]
 unfold doE; rw [hrun]; exact k _ ⟨cs, h2, rfl⟩
end
end Go.Proofs.Ytnfjhdagbknlbaa
