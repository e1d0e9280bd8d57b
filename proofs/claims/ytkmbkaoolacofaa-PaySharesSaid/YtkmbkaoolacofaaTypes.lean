/- Appends to own slices in regions that draw their order. No program is named here. -/
import Derived.Test.YtkmbkaoolacofaaGrow
import Derived.Test.YtkmbkaoolacofaaProg
namespace Go.Proofs.Ytkmbkaoolacofaa
open Go.RowKit

theorem FlatR.pre {α : Type} [GoT α] {m : Nat → Nat} {w : World} : ∀ {xs ys : List α} {cs : List Value}, FlatR m w (xs ++ ys) cs → FlatR m w xs (cs.take (xs.length * GoT.k α))
 | [], _, _, _ => by simp [FlatR]
 | x :: xs, ys, _, ⟨c1, c2, rfl, h1, h2⟩ => by
  have hl := GoT.len h1
  refine ⟨c1, c2.take (xs.length * GoT.k α), ?_, h1, FlatR.pre h2⟩
  rw [List.length_cons, Nat.add_mul, Nat.one_mul, List.take_append, List.take_of_length_le (by omega), hl]
  congr 2; omega
def apRel {α : Type} [GoT α] (i : Nat) (et : TypeId) (xs r : List α) (u : Value) : StepRel := { rel := fun g w g' w' => Stp i g w g' w' ∧ (OA i g w et xs u → OA i g' w' et xs u) ∧ ∀ v, OA i g w et r v → OA i g' w' et r v }
section
variable {α : Type} [GoT α] {i : Nat} {et : TypeId} {xs r : List α} {u : Value} {g g' : Gh} {w w' : World}
theorem ap_ext (h : Ext g w g' w') : (apRel i et xs r u).rel g w g' w' := ⟨h.stp, fun k => k.ext h, fun _ k => k.ext h⟩
theorem up_ap {v : Value} : Up (apRel i et xs r u) (fun g w => OA i g w et r v) := fun _ _ _ _ hx h => hx.2.2 v h
theorem upA_rv {β : Type} [GoT β] {x : β} {v : Value} : Up (apRel i et xs r u) (fun g w => RV g.m w x v) := fun _ _ _ _ hx h => h.stp hx.1
theorem upA_os {β : Type} [GoT β] {j : Nat} {t : TypeId} {x : List β} {v : Value} (hj : Nat.beq j i = false := by rfl) : Up (apRel i et xs r u) (fun g w => OS j g w t x v) := fun _ _ _ _ hx h => h.stp hx.1 hj
theorem upA_eq (p : Prop) : Up (apRel i et xs r u) (fun _ _ => p) := fun _ _ _ _ _ h => h
variable {P : Program} {N : Nat}
theorem E_drawA {n : Nat} {ro : Option Nat} {Q' : Post} {id : Nat} {ops : List Oper} {e : Env} {ds : List Deferred} (h0 : OA i g w et xs u) (words : List (Nat × (Value → Fact))) (ix : List Nat) (hix : ix = List.range n) (hm : P.follows .mixedOrders = true) (hok : lexOk N ops.toArray n = true)
  (hΦ : UpL (apRel i et xs r u) words)
  (h : Lex (apRel i et xs r u) P ops.toArray (fun g' w' => Stp i g w g' w' ∧ OA i g' w' et xs u) (constW words) (fun e' _ w' => EL P N ro ops.toArray (ops.drop n) Q' e' ds w') ix (fun _ _ _ => True) e) : E P N ro (.region id ops.toArray true) Q' e ds w :=
 E_drawR (SR := apRel i et xs r u) _ (constW words) hm hok (fun _ _ _ _ hx h => ⟨h.1.trans hx.1, hx.2.1 h.2⟩) ⟨(ext_drew g w).stp, h0.ext (ext_drew g w)⟩ (upC hΦ) wokC (hix ▸ h)
theorem D_appendR {e : Env} {x y : Operand} (hpl : Plain α) {t : TypeId} {z : Value} {bytes : Nat} {ys : List α} {v : Value}
  (ht : P.underlying t = some (.slice et)) (hinfo : (P.info? et).map (fun i => (i.zero, i.size, i.bytes)) = some (some z, GoT.k α, bytes)) (hzs : z.cells.size = GoT.k α)
  (hx : ev e x = u) (hos : OA i g w et xs u) (hy : ev e y = v) (hv : RV g.m w ys v) (hr : apnd bytes xs ys = some r) :
  Doe P (.call { callee := .builtin .append, args := #[x, y], argTypes := #[t, t] }) e w fun v' w' => ∃ g', (apRel i et xs r u).rel g w g' w' ∧ OA i g' w' et r v' := fun d ty pos af gd => by
 obtain ⟨ti, hi, hz, hsz, hby⟩ := info_parts hinfo
 subst hby
 have hxr : r = xs ++ ys := by unfold apnd at hr; split at hr <;> simp at hr; exact hr.symm
 have key : ∃ B : Nat → Bool, (∀ x, x < w.heap.size → B x = true → g.o x = i ∧ g.m x = 0) ∧ OS 1 { m := fun x => if B x then xs.length * GoT.k α else g.m x, o := fun x => if B x then 1 else 0 } w et xs u ∧ RV (fun x => if B x then xs.length * GoT.k α else g.m x) w xs u := by
  rcases hos with ⟨rfl, rfl⟩ | ⟨b, c, cs, rfl, ho, hm, hh, hc, hcm, hcs, hf⟩
  ·exact ⟨fun _ => false, fun _ _ h => by simp at h, OS.nil, RV_nil⟩
  ·refine ⟨fun x => x == b, fun x _ h => by simp at h; subst h; exact ⟨ho, hm⟩, .inr ⟨b, c, cs, rfl, by simp, by show (if (b == b) = true then _ else _) = _; simp, hh, hc, hcm, hcs⟩, RV_list_mk rfl hc fun _ => ⟨b, 0, rfl, lt_of_heap hh, ?_, ?_⟩⟩
   ·show 0 + _ ≤ (if (b == b) = true then _ else _); simp
   ·refine (hf.plain hpl).row fun j v hj => ?_
    rw [List.getElem?_take] at hj
    split at hj
    ·rw [Nat.zero_add]; simp only [World.cell?, hh]; simpa using hj
    ·cases hj
 obtain ⟨B, hB, hos1, hu1⟩ := key
 have hch1 : Ch g.m w (fun x => if B x then xs.length * GoT.k α else g.m x) w := ⟨Nat.le_refl _, fun x hx => by
  by_cases hBx : B x = true
  ·rw [(hB x hx hBx).2]; exact Nat.zero_le _
  ·simp [hBx], fun _ _ _ _ => rfl⟩
 obtain ⟨g', w', v', hrun, h1, h2, h3, _, h5⟩ := append_run (P := P) (i := 1) t ty et ti z ht hi hz hsz hzs hos1 hu1 (hv.ch hch1) hr
 have hrun2 : (execOp (ev e) ⟨d, .call { callee := .builtin .append, args := #[x, y], argTypes := #[t, t] }, ty, pos, af, gd⟩).run P w = .ok (.value v') w' := by
  simp only [execOp, resolve, invoke, builtin, Sem.run_bind, Sem.run_pure, Result.andThen_ok, List.map_toArray, List.map_cons, List.map_nil, hx, hy, hrun]
 unfold doE; rw [hrun2]
 -- the block of what is handed back
 obtain ⟨b', hb'o, hb'⟩ : ∃ b', (v' = .slice none 0 0 ∧ r = [] ∧ w.heap.size ≤ b' ∧ w'.heap.size ≤ b' ∨ ∃ c cs, v' = .slice (some ⟨b', 0, none⟩) r.length c ∧ g'.o b' = 1 ∧ w'.heap[b']? = some (.cells cs et (0, 0)) ∧ r.length ≤ c ∧ c ≤ maxLen ∧ cs.size = c * GoT.k α) ∧ True := by
  rcases h2 with ⟨h2, h2'⟩ | ⟨b', c', cs', h2, ho', hm', hh', hc', hcm', hcs'⟩
  ·exact ⟨w.heap.size + w'.heap.size, .inl ⟨h2, h2', by omega, by omega⟩, trivial⟩
  ·exact ⟨b', .inr ⟨c', cs', h2, ho', hh', hc', hcm', hcs'⟩, trivial⟩
 clear hb'
 obtain ⟨gn, hgn⟩ : ∃ gn : Gh, gn = { m := fun x => if x = b' ∨ B x = true then 0 else g'.m x, o := fun x => if x = b' then i else if x < w.heap.size then g.o x else 0 } := ⟨_, rfl⟩
 have hst : Stp i g w gn w' := by
  rw [hgn]
  rcases hb'o with ⟨_, _, hb1, _⟩ | ⟨c, cs, _, ho, _⟩
  ·have hst := append_back (i := i) (n := xs.length * GoT.k α) (b' := b') (g' := { m := g'.m, o := fun x => if x = b' then 1 else g'.o x }) hB ⟨h1.os, h1.tape, h1.output, h1.ch, h1.block, h1.m, fun x hx hn => by
    have := h1.o x hx hn
    simp only [show x ≠ b' by omega, if_false]
    exact this⟩ (by simp)
   exact hst
  ·exact append_back hB h1 ho
 have hgo : ∀ b, b < w.heap.size → g.o b = i → gn.o b = i := fun b hb ho => by
  rw [hgn]; show (if b = b' then i else if b < w.heap.size then g.o b else 0) = i
  split
  ·rfl
  ·first | exact ho | (rw [if_pos hb]; exact ho)
 have hgm : ∀ b, b < w.heap.size → g.m b = 0 → gn.m b = 0 := fun b hb hm0 => by
  rw [hgn]; show (if b = b' ∨ B b = true then 0 else g'.m b) = 0
  split
  ·rfl
  ·rename_i hne
   have hBb : ¬ B b = true := fun h => hne (.inr h)
   have := h1.m b hb (by simp [hBb])
   rw [this]; simpa [hBb] using hm0
 -- what is handed back
 have hnew : OA i gn w' et r v' := by
  rcases hb'o with ⟨rfl, rfl, _⟩ | ⟨c, cs, rfl, ho, hh, hc, hcm, hcs⟩
  ·exact .nil
  ·exact .inr ⟨b', c, cs, rfl, by rw [hgn]; simp, by rw [hgn]; simp, hh, hc, hcm, hcs, (flat_of_rv h3 hh).plain hpl⟩
 refine ⟨gn, ⟨hst, fun hold => ?_, fun v2 hv2 => ?_⟩, hnew⟩
 ·rcases hold with h | ⟨b, c, cs, hu, ho, hm, hh, hc, hcm, hcs, hf⟩
  ·exact .inl h
  have hb := lt_of_heap hh
  rcases h5 b hb with ⟨c2, hu2, hv2⟩ | hsame
  ·rcases hnew with ⟨hn, _⟩ | ⟨b3, c3, cs3, hn, ho3, hm3, hh3, hc3, hcm3, hcs3, hf3⟩
   ·rw [hn] at hv2; injection hv2 with h; cases h
   ·rw [hu] at hu2
    injection hu2 with _ _ hcc
    rw [hn] at hv2
    injection hv2 with h1 _ h3'
    injection h1 with h1
    injection h1 with h1
    subst h1; subst h3'; subst hcc
    refine .inr ⟨b3, c, cs3, hu, ho3, hm3, hh3, hc, hcm, hcs3, ?_⟩
    rw [hxr] at hf3
    have := hf3.pre
    rw [List.take_take, Nat.min_eq_left (Nat.mul_le_mul_right _ (by simp))] at this
    exact this
  ·exact .inr ⟨b, c, cs, hu, hgo b hb ho, hgm b hb hm, hsame.trans hh, hc, hcm, hcs, hf.ch hst.ch⟩
 ·rcases hv2 with h | ⟨b, c, cs, hu, ho, hm, hh, hc, hcm, hcs, hf⟩
  ·exact .inl h
  have hb := lt_of_heap hh
  rcases h5 b hb with ⟨c2, hu2, hv2⟩ | hsame
  ·rcases hnew with ⟨hn, _⟩ | ⟨b3, c3, cs3, hn, ho3, hm3, hh3, hc3, hcm3, hcs3, hf3⟩
   ·rw [hn] at hv2; injection hv2 with h; cases h
   ·rw [hn] at hv2
    injection hv2 with h1 _ h3'
    injection h1 with h1
    injection h1 with h1
    subst h1; subst h3'
    have hcs2 : cs3.size = c * GoT.k α := by
     rcases hos with ⟨hun, _⟩ | ⟨b4, c4, cs4, hu4, _, _, hh4, _, _, hcs4, _⟩
     ·rw [hun] at hu2; injection hu2 with h; cases h
     ·rw [hu4] at hu2
      injection hu2 with h1 _ h3'
      injection h1 with h1
      injection h1 with h1
      subst h1; subst h3'
      rw [hh] at hh4
      injection hh4 with hh4
      injection hh4 with hh4
      rw [hcs3, ← hcs4, ← hh4, hcs]
    exact .inr ⟨b3, c, cs3, hu, ho3, hm3, hh3, hc, hcm, hcs2, hf3⟩
  ·exact .inr ⟨b, c, cs, hu, hgo b hb ho, hgm b hb hm, hsame.trans hh, hc, hcm, hcs, hf.ch hst.ch⟩
end
end Go.Proofs.Ytkmbkaoolacofaa
/- The types of this seat, as data: structures, how they lie in memory, their parts. Printed by gtypes.py. -/
namespace Go.Proofs.Ytkmbkaoolacofaa
open Go.RowKit
theorem SubS.of {α β γ : Type} [GoT β] [GoT γ] {to : α → β} {off : Nat} {f : α → γ} {st : α → γ → α} {f' : β → γ} {s' : β → γ → β} (h : SubS off f' s') (h1 : ∀ x, f' (to x) = f x) (h2 : ∀ x y, to (st x y) = s' (to x) y) : @SubS α γ (GoT.struct α to) _ off f st := by
 refine ⟨⟨h.1.1, fun m w x cs hr => ?_⟩, fun m w x y cs cy hr hy => ?_⟩
 ·rw [← h1]; exact h.1.2 m w (to x) cs hr
 ·show GoT.rep m w (to (st x y)) _; rw [h2]; exact h.2 m w (to x) y cs cy hr hy
structure PayRate where
 From : Int
 Rate : Int
 deriving DecidableEq, Inhabited
instance : GoT PayRate := GoT.struct PayRate (β := Int × Int) (fun x => (x.From, x.Rate))
structure PayList where
 Rates : List PayRate
 Extras : List Int
 Fine : Int
 Cap : Int
 deriving DecidableEq, Inhabited
instance : GoT PayList := GoT.struct PayList (β := (List PayRate) × (List Int) × Int × Int) (fun x => (x.Rates, x.Extras, x.Fine, x.Cap))
structure PayPiece where
 Weaver : Int
 Dense : Int
 Picks : Int
 Extras : List Int
 Faults : Int
 deriving DecidableEq, Inhabited
instance : GoT PayPiece := GoT.struct PayPiece (β := Int × Int × Int × (List Int) × Int) (fun x => (x.Weaver, x.Dense, x.Picks, x.Extras, x.Faults))
structure Span where
 Low : Int
 High : Int
 deriving DecidableEq, Inhabited
instance : GoT Span := GoT.struct Span (β := Int × Int) (fun x => (x.Low, x.High))
structure PayTable where
 Rows : List (List Int)
 Across : List Int
 Down : List Int
 Total : Int
 deriving DecidableEq, Inhabited
instance : GoT PayTable := GoT.struct PayTable (β := (List (List Int)) × (List Int) × (List Int) × Int) (fun x => (x.Rows, x.Across, x.Down, x.Total))
structure PayEntry where
 Kind : Int
 Row : Int
 Column : Int
 Number : Int
 deriving DecidableEq, Inhabited
instance : GoT PayEntry := GoT.struct PayEntry (β := Int × Int × Int × Int) (fun x => (x.Kind, x.Row, x.Column, x.Number))
structure PayPayList where
 PayList : PayList
 deriving DecidableEq, Inhabited
instance : GoT PayPayList := GoT.struct PayPayList (β := PayList) (fun x => x.PayList)
structure PaySheet where
 PayTable : PayTable
 deriving DecidableEq, Inhabited
instance : GoT PaySheet := GoT.struct PaySheet (β := PayTable) (fun x => x.PayTable)
structure PayPlace where
 row : Int
 column : Int
 deriving DecidableEq, Inhabited
instance : GoT PayPlace := GoT.struct PayPlace (β := Int × Int) (fun x => (x.row, x.column))
structure PayFilling where
 sheet : PaySheet
 places : List PayPlace
 amounts : List Int
 deriving DecidableEq, Inhabited
instance : GoT PayFilling := GoT.struct PayFilling (β := PaySheet × (List PayPlace) × (List Int)) (fun x => (x.sheet, x.places, x.amounts))
structure PayEnd where
 at_ : Int
 isDown : Bool
 deriving DecidableEq, Inhabited
instance : GoT PayEnd := GoT.struct PayEnd (β := Int × Bool) (fun x => (x.at_, x.isDown))
structure PayStep where
 blot : Int
 less : Bool
 deriving DecidableEq, Inhabited
instance : GoT PayStep := GoT.struct PayStep (β := Int × Bool) (fun x => (x.blot, x.less))
end Go.Proofs.Ytkmbkaoolacofaa
