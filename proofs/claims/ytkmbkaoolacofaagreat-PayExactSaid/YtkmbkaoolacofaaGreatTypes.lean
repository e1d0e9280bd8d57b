/- Variables that a draw makes and stores to, several of them. No program is named here. -/
import Derived.Test.YtkmbkaoolacofaaGreatCt
import Derived.Test.YtkmbkaoolacofaaGreatProg
namespace Go.Proofs.YtkmbkaoolacofaaGreat
open Go.RowKit
structure Vd where
 tag : Nat
 A0 : Value → Fact
 A1 : Value → Fact
 e0 : ∀ {v g w g' w'}, Ext g w g' w' → A0 v g w → A0 v g' w'
 e1 : ∀ {v g w g' w'}, Ext g w g' w' → A1 v g w → A1 v g' w'
 s0 : ∀ {v k g w g' w'}, tag ≠ k → Stp k g w g' w' → A0 v g w → A0 v g' w'
 s1 : ∀ {v k g w g' w'}, tag ≠ k → Stp k g w g' w' → A1 v g w → A1 v g' w'
def Vd.keep (d : Vd) (g : Gh) (w : World) (g' : Gh) (w' : World) : Prop := ∀ v, (d.A1 v g w → d.A1 v g' w') ∧ (d.A0 v g w ∨ d.A1 v g w → d.A0 v g' w' ∨ d.A1 v g' w')
section
variable {n0 : Nat} {vs : List Vd} {g g' : Gh} {w w' : World}
variable {β : Type} [GoT β]
variable {P : Program} {N : Nat} {e : Env}
end
section
variable {α : Type} [GoT α] {i : Nat} {g g1 : Gh} {w w' : World} {t : TypeId} {xs : List α} {v : Value}
end
end Go.Proofs.YtkmbkaoolacofaaGreat
/- The builtin copy into a slice that the function owns; a variable that holds an own slice that is appended to; full products of unsigned numbers. No program is named here. -/
namespace Go.Proofs.YtkmbkaoolacofaaGreat
open Go.RowKit

/-! ### A variable that holds an own slice that begins its block -/
def BXA {α : Type} [GoT α] (i j : Nat) (g : Gh) (w : World) (et bt : TypeId) (xs : List α) (p : Value) : Prop := ∃ q : Fv, OB i g w bt q p ∧ OA j g w et xs q.v
def BXF {α : Type} [GoT α] (i j : Nat) (g : Gh) (w : World) (et bt : TypeId) (q : Fv) (u : Value) (xs : List α) (p : Value) : Prop := OB i g w bt q p ∧ OM j g w et xs u
def BXAF {α : Type} [GoT α] (i j : Nat) (g : Gh) (w : World) (et bt : TypeId) (q : Fv) (u : Value) (xs : List α) (p : Value) : Prop := OB i g w bt q p ∧ OA j g w et xs u
section
variable {α : Type} [GoT α] {i j k : Nat} {g g' : Gh} {w w' : World} {et bt : TypeId} {xs : List α} {p : Value} {q : Fv} {u : Value}
theorem BXA.ext (h : BXA i j g w et bt xs p) (hx : Ext g w g' w') : BXA i j g' w' et bt xs p := let ⟨q, h1, h2⟩ := h; ⟨q, h1.ext hx, h2.ext hx⟩
theorem BXA.stp (h : BXA i j g w et bt xs p) (hx : Stp k g w g' w') (h1 : Nat.beq i k = false) (h2 : Nat.beq j k = false := by rfl) : BXA i j g' w' et bt xs p := let ⟨q, k1, k2⟩ := h; ⟨q, k1.stp hx h1, k2.stp hx h2⟩
theorem BXF.ext (h : BXF i j g w et bt q u xs p) (hx : Ext g w g' w') : BXF i j g' w' et bt q u xs p := ⟨h.1.ext hx, h.2.ext hx⟩
theorem BXF.stp (h : BXF i j g w et bt q u xs p) (hx : Stp k g w g' w') (h1 : Nat.beq i k = false) (h2 : Nat.beq j k = false := by rfl) : BXF i j g' w' et bt q u xs p := ⟨h.1.stp hx h1, h.2.stp hx h2⟩
theorem BXAF.ext (h : BXAF i j g w et bt q u xs p) (hx : Ext g w g' w') : BXAF i j g' w' et bt q u xs p := ⟨h.1.ext hx, h.2.ext hx⟩
theorem BXAF.stp (h : BXAF i j g w et bt q u xs p) (hx : Stp k g w g' w') (h1 : Nat.beq i k = false) (h2 : Nat.beq j k = false := by rfl) : BXAF i j g' w' et bt q u xs p := ⟨h.1.stp hx h1, h.2.stp hx h2⟩
end

/-! ### copy -/
section
variable {P : Program} {e : Env} {w : World} {g : Gh} {K : Value → World → Prop} {x y : Operand}
theorem run_copy {t t2 et ty : TypeId} {ti : TypeInfo} {b o dl dc sl : Nat} {sv : Value} {news : List Value} {cs : Array Value} {fr : Nat × Nat} (ht : P.underlying t = some (.slice et)) (hi : P.info? et = some ti)
  (hsl : (Builtin.lenOf sv).run P w = .ok sl w) (hnews : (Builtin.firstCells ti.size (min sl dl) sv).run P w = .ok news.toArray w)
  (hh : w.heap[b]? = some (.cells cs et fr)) (hok : okF cs.size fr) (hfit : o + news.length ≤ cs.size) (hone : ∀ v ∈ news, v.oneCell' = true) :
  (Builtin.copy_ #[t, t2] ty #[.slice (some ⟨b, o, none⟩) dl dc, sv]).run P w = .ok (.int .i64 (min sl dl : Nat)) (w.setRow b (cs.toList.take o ++ news ++ cs.toList.drop (o + news.length)).toArray) := by
 have hst := run_storeCells_atG (P := P) b o et fr news 0 cs w hh hok (by omega) hone
 simp only [Nat.add_zero] at hst
 have hmin : Nat.min sl dl = min sl dl := rfl
 simp [Builtin.copy_, run_underlying ht, sizeOf, typeInfo, hi, hsl, hmin, hnews, hst, goInt]
end

/-! ### Handing out -/
/-! ### Unsigned numbers -/
section
variable {P : Program} {e : Env} {w : World} {K : Value → World → Prop} {x y : Operand}
end
/-! ### Unsigned numbers of 64 bits as data -/
structure U64 where
 n : Int
 deriving DecidableEq, Inhabited
instance {k : Nat} : OfNat U64 k := ⟨⟨k⟩⟩
instance : GoT U64 where
 k := 1
 agg := false
 rep _ _ x cs := cs = [.int .u64 x.n]
 len h := by subst h; rfl
 one h := by subst h; simp [Value.oneCell']
 mono _ h := h
 k1 _ := rfl
section
variable {P : Program} {e : Env} {x y : Operand}
end
/-! ### Slices that stay written and appended to, through calls -/
section
variable {α : Type} [GoT α] {i j : Nat} {g0 g : Gh} {w0 w : World} {t : TypeId} {xs xs0 : List α} {v : Value}
theorem OA.enter (h : OA i g w t xs v) : OA 1 { m := g.m, o := fun b => if g.o b = i then 1 else 0 } w t xs v := by
 rcases h with h | ⟨b, c, cs, hp, ho, hm, hh, h1, h2, h3, hf⟩
 ·exact .inl h
 ·exact .inr ⟨b, c, cs, hp, by simp [ho], hm, hh, h1, h2, h3, hf⟩
end

/-! ### Texts as keys of maps -/
/-! ### Appends to an own slice of what is shared -/
section
variable {γ : Type} [GoT γ] {P : Program} {w : World} {g : Gh} {e : Env} {K : Value → World → Prop} {x y : Operand} {i j : Nat} {et : TypeId}
theorem OA.toAt {ys : List γ} {v : Value} (h : OA j g w et ys v) (hy0 : 0 < ys.length) : ∃ b c, OW (Ow.list et (Ow.sh γ)) j g w ys (.at b c (List.replicate ys.length ())) v ∧ (Ow.list et (Ow.sh γ)).ok (.at b c (List.replicate ys.length ())) := by
 rcases h with ⟨_, rfl⟩ | ⟨b, c, cs, rfl, ho, hm, hh, h1, h2, h3, hf⟩
 ·exact absurd hy0 (by simp)
 ·have hbl : (Ow.list et (Ow.sh γ)).bl (.at b c (List.replicate ys.length ())) = [b] := congrArg (List.cons b) (sh_flat (α := γ) _)
  refine ⟨b, c, ⟨_, rfl, ⟨rfl, h1, h2, cs, hh, h3, flat_rows hf⟩, by rw [hbl]; simp, fun x hx => ?_⟩, fun _ _ => trivial⟩
  rw [hbl, List.mem_singleton] at hx
  rw [hx]; exact ⟨ho, hm⟩
theorem D_appendAs {t : TypeId} {z u v : Value} {bytes : Nat} {xs ys r : List γ} (ht : P.underlying t = some (.slice et)) (hinfo : (P.info? et).map (fun i => (i.zero, i.size, i.bytes)) = some (some z, GoT.k γ, bytes)) (hzs : z.cells.size = GoT.k γ)
  (hx : ev e x = u) (hu : OA i g w et xs u) (hy : ev e y = v) (hv : OA j g w et ys v) (hy0 : 0 < ys.length) (hij : Nat.beq i j = false) (hr : apnd bytes xs ys = some r)
  (h : ∀ g1 g' w' v', Stp j g w g1 w → Stp i g1 w g' w' → OA i g' w' et r v' → K v' w') : Doe P (.call { callee := .builtin .append, args := #[x, y], argTypes := #[t, t] }) e w K := by
 obtain ⟨s, hu, ho⟩ := hu.toW
 obtain ⟨b, c, hv, ho'⟩ := hv.toAt hy0
 exact D_appendW ht hinfo hzs hx hu ho hy hv ho' hy0 hij hr fun g1 g' w' v' s2 k1 k2 k3 k4 => h g1 g' w' v' k1 k2 (k3.toA k4)
end
/-! ### Numbers of 32 bits -/
section
variable {P : Program} {e : Env} {x y : Operand}
def u32shr (c : UInt32) (n : Int) : Option UInt32 := if n < 0 then none else some (UInt32.ofNat (c.toNat / 2 ^ (min n.toNat 32)))
theorem P_shr32 {t t2 : TypeId} {c v : UInt32} {n : Int} {k : IntKind} (hx : ev e x = .int .u32 c.toNat) (hy : ev e y = .int k n) (hv : u32shr c n = some v) : Pur P (.binOp .shr t x y t2) e (.int .u32 v.toNat) :=
 P_bin hx hy (fun w => eqGuard_int w) fun w => by
  unfold u32shr at hv
  split at hv
  ·cases hv
  ·rename_i hn
   injection hv with hv; subst hv
   have h1 : c.toNat / 2 ^ (min n.toNat 32) < 4294967296 := Nat.lt_of_le_of_lt (Nat.div_le_self _ _) c.toNat_lt
   have h2 : ((c.toNat : Int)).fdiv (2 ^ (min n.toNat 32)) = ((c.toNat / 2 ^ (min n.toNat 32) : Nat) : Int) := by
    rw [Int.fdiv_eq_ediv_of_nonneg _ (Int.pow_nonneg (by decide))]
    simp
   have h3 : (UInt32.ofNat (c.toNat / 2 ^ (min n.toNat 32))).toNat = c.toNat / 2 ^ (min n.toNat 32) := by
    rw [UInt32.toNat_ofNat']; exact Nat.mod_eq_of_lt h1
   rw [h3, ← h2]
   simp only [binOp, Op.shift, if_neg hn]; rfl
def u32rem (a b : UInt32) : Option UInt32 := if b = 0 then none else some (a % b)
theorem P_rem32 {t t2 : TypeId} {a b c : UInt32} (hx : ev e x = .int .u32 a.toNat) (hy : ev e y = .int .u32 b.toNat) (hv : u32rem a b = some c) : Pur P (.binOp .rem t x y t2) e (.int .u32 c.toNat) :=
 P_bin hx hy (fun w => eqGuard_int w) fun w => by
  unfold u32rem at hv
  split at hv
  ·cases hv
  ·rename_i h0
   injection hv with hv; subst hv
   have hb0 : b.toNat ≠ 0 := fun h => h0 (UInt32.toNat_inj.1 (by simpa using h))
   have hne : ¬ ((b.toNat : Int) = 0) := by omega
   have hd : (a.toNat : Int).tmod (b.toNat : Int) = ((a.toNat % b.toNat : Nat) : Int) := by rw [Int.tmod_eq_emod_of_nonneg (by omega)]; simp
   simp only [binOp, Op.intDiv, ne_eq, not_true_eq_false, if_false, if_neg hne, Sem.run_pure, UInt32.toNat_mod, hd]
theorem P_u32u8 {s t : TypeId} {c : UInt32} (hs : P.underlying s = some (.int .u32)) (ht : P.underlying t = some (.int .u8)) (hx : ev e x = .int .u32 c.toNat) : Pur P (.convert s t x) e (.int .u8 c.toUInt8.toNat) := fun _ _ _ _ _ _ => by
 have hwr : IntKind.u8.wrap (c.toNat : Int) = (c.toUInt8.toNat : Int) := by
  unfold IntKind.wrap; simp [IntKind.bits, IntKind.signed, UInt32.toNat_toUInt8]
 simp [execOp, hx, convert, run_underlying hs, run_underlying ht, Conv.intToInt, hwr]
theorem P_u32u16 {s t : TypeId} {c : UInt32} (hs : P.underlying s = some (.int .u32)) (ht : P.underlying t = some (.int .u16)) (hx : ev e x = .int .u32 c.toNat) : Pur P (.convert s t x) e (.int .u16 c.toUInt16.toNat) := fun _ _ _ _ _ _ => by
 have hwr : IntKind.u16.wrap (c.toNat : Int) = (c.toUInt16.toNat : Int) := by
  unfold IntKind.wrap; simp [IntKind.bits, IntKind.signed, UInt32.toNat_toUInt16]
 simp [execOp, hx, convert, run_underlying hs, run_underlying ht, Conv.intToInt, hwr]
end
end Go.Proofs.YtkmbkaoolacofaaGreat
/- Functions with several outcomes (a range over a map fills what lives on): the plain function lists them all. No program is named here. -/
namespace Go.Proofs.YtkmbkaoolacofaaGreat
open Go.RowKit

section
variable {P : Program} {N : Nat} {ro : Option Nat} {Q : Post} {e : Env} {ds : List Deferred} {w : World} {x y c : Code}
end
end Go.Proofs.YtkmbkaoolacofaaGreat
/- The types of this seat, as data: structures, how they lie in memory, their parts. Printed by gtypes.py. -/
namespace Go.Proofs.YtkmbkaoolacofaaGreat
open Go.RowKit
theorem SubS.of {α β γ : Type} [GoT β] [GoT γ] {to : α → β} {off : Nat} {f : α → γ} {st : α → γ → α} {f' : β → γ} {s' : β → γ → β} (h : SubS off f' s') (h1 : ∀ x, f' (to x) = f x) (h2 : ∀ x y, to (st x y) = s' (to x) y) : @SubS α γ (GoT.struct α to) _ off f st := by
 refine ⟨⟨h.1.1, fun m w x cs hr => ?_⟩, fun m w x y cs cy hr hy => ?_⟩
 ·rw [← h1]; exact h.1.2 m w (to x) cs hr
 ·show GoT.rep m w (to (st x y)) _; rw [h2]; exact h.2 m w (to x) y cs cy hr hy
structure PayRate where
 From : Int
 Rate : Int
 deriving DecidableEq, Inhabited
instance : GoT PayRate := GoT.struct PayRate (β := Int × Int) (fun x => (x.From, x.Rate))
theorem part_PayRate_0 : SubS (α := PayRate) 0 PayRate.From (fun x y => { x with From := y }) := SubS.of SubS.fst (fun _ => rfl) (fun _ _ => rfl)
theorem at_87_0 (a : Addr) (w : World) : (Instr.fieldAt 87 (.pointer (some a)) 0).run Tryz.prog w = .ok (.pointer (some (a.add 0))) w := by simp [Instr.fieldAt, run_underlying Tryz.underlying87, Instr.sureAddr, fieldPlace, Result.andThen]
theorem part_PayRate_1 : SubS (α := PayRate) 1 PayRate.Rate (fun x y => { x with Rate := y }) := SubS.of (SubS.comp SubS.snd SubS.id_ rfl) (fun _ => rfl) (fun _ _ => rfl)
theorem at_87_1 (a : Addr) (w : World) : (Instr.fieldAt 87 (.pointer (some a)) 1).run Tryz.prog w = .ok (.pointer (some (a.add 1))) w := by simp [Instr.fieldAt, run_underlying Tryz.underlying87, Instr.sureAddr, fieldPlace, Result.andThen]
structure PayList where
 Rates : List PayRate
 Extras : List Int
 Fine : Int
 Cap : Int
 deriving DecidableEq, Inhabited
instance : GoT PayList := GoT.struct PayList (β := (List PayRate) × (List Int) × Int × Int) (fun x => (x.Rates, x.Extras, x.Fine, x.Cap))
theorem part_PayList_0 : SubS (α := PayList) 0 PayList.Rates (fun x y => { x with Rates := y }) := SubS.of SubS.fst (fun _ => rfl) (fun _ _ => rfl)
theorem at_25_0 (a : Addr) (w : World) : (Instr.fieldAt 25 (.pointer (some a)) 0).run Tryz.prog w = .ok (.pointer (some (a.add 0))) w := by simp [Instr.fieldAt, run_underlying Tryz.underlying25, Instr.sureAddr, fieldPlace, Result.andThen]
theorem part_PayList_1 : SubS (α := PayList) 1 PayList.Extras (fun x y => { x with Extras := y }) := SubS.of (SubS.comp SubS.snd SubS.fst rfl) (fun _ => rfl) (fun _ _ => rfl)
theorem at_25_1 (a : Addr) (w : World) : (Instr.fieldAt 25 (.pointer (some a)) 1).run Tryz.prog w = .ok (.pointer (some (a.add 1))) w := by simp [Instr.fieldAt, run_underlying Tryz.underlying25, Instr.sureAddr, fieldPlace, Result.andThen]
theorem part_PayList_2 : SubS (α := PayList) 2 PayList.Fine (fun x y => { x with Fine := y }) := SubS.of (SubS.comp SubS.snd (SubS.comp SubS.snd SubS.fst rfl) rfl) (fun _ => rfl) (fun _ _ => rfl)
theorem at_25_2 (a : Addr) (w : World) : (Instr.fieldAt 25 (.pointer (some a)) 2).run Tryz.prog w = .ok (.pointer (some (a.add 2))) w := by simp [Instr.fieldAt, run_underlying Tryz.underlying25, Instr.sureAddr, fieldPlace, Result.andThen]
theorem part_PayList_3 : SubS (α := PayList) 3 PayList.Cap (fun x y => { x with Cap := y }) := SubS.of (SubS.comp SubS.snd (SubS.comp SubS.snd (SubS.comp SubS.snd SubS.id_ rfl) rfl) rfl) (fun _ => rfl) (fun _ _ => rfl)
theorem at_25_3 (a : Addr) (w : World) : (Instr.fieldAt 25 (.pointer (some a)) 3).run Tryz.prog w = .ok (.pointer (some (a.add 3))) w := by simp [Instr.fieldAt, run_underlying Tryz.underlying25, Instr.sureAddr, fieldPlace, Result.andThen]
structure PayPiece where
 Weaver : Int
 Dense : Int
 Picks : Int
 Extras : List Int
 Faults : Int
 deriving DecidableEq, Inhabited
instance : GoT PayPiece := GoT.struct PayPiece (β := Int × Int × Int × (List Int) × Int) (fun x => (x.Weaver, x.Dense, x.Picks, x.Extras, x.Faults))
theorem part_PayPiece_0 : SubS (α := PayPiece) 0 PayPiece.Weaver (fun x y => { x with Weaver := y }) := SubS.of SubS.fst (fun _ => rfl) (fun _ _ => rfl)
theorem at_27_0 (a : Addr) (w : World) : (Instr.fieldAt 27 (.pointer (some a)) 0).run Tryz.prog w = .ok (.pointer (some (a.add 0))) w := by simp [Instr.fieldAt, run_underlying Tryz.underlying27, Instr.sureAddr, fieldPlace, Result.andThen]
theorem part_PayPiece_1 : SubS (α := PayPiece) 1 PayPiece.Dense (fun x y => { x with Dense := y }) := SubS.of (SubS.comp SubS.snd SubS.fst rfl) (fun _ => rfl) (fun _ _ => rfl)
theorem at_27_1 (a : Addr) (w : World) : (Instr.fieldAt 27 (.pointer (some a)) 1).run Tryz.prog w = .ok (.pointer (some (a.add 1))) w := by simp [Instr.fieldAt, run_underlying Tryz.underlying27, Instr.sureAddr, fieldPlace, Result.andThen]
theorem part_PayPiece_2 : SubS (α := PayPiece) 2 PayPiece.Picks (fun x y => { x with Picks := y }) := SubS.of (SubS.comp SubS.snd (SubS.comp SubS.snd SubS.fst rfl) rfl) (fun _ => rfl) (fun _ _ => rfl)
theorem at_27_2 (a : Addr) (w : World) : (Instr.fieldAt 27 (.pointer (some a)) 2).run Tryz.prog w = .ok (.pointer (some (a.add 2))) w := by simp [Instr.fieldAt, run_underlying Tryz.underlying27, Instr.sureAddr, fieldPlace, Result.andThen]
theorem part_PayPiece_3 : SubS (α := PayPiece) 3 PayPiece.Extras (fun x y => { x with Extras := y }) := SubS.of (SubS.comp SubS.snd (SubS.comp SubS.snd (SubS.comp SubS.snd SubS.fst rfl) rfl) rfl) (fun _ => rfl) (fun _ _ => rfl)
theorem at_27_3 (a : Addr) (w : World) : (Instr.fieldAt 27 (.pointer (some a)) 3).run Tryz.prog w = .ok (.pointer (some (a.add 3))) w := by simp [Instr.fieldAt, run_underlying Tryz.underlying27, Instr.sureAddr, fieldPlace, Result.andThen]
theorem part_PayPiece_4 : SubS (α := PayPiece) 4 PayPiece.Faults (fun x y => { x with Faults := y }) := SubS.of (SubS.comp SubS.snd (SubS.comp SubS.snd (SubS.comp SubS.snd (SubS.comp SubS.snd SubS.id_ rfl) rfl) rfl) rfl) (fun _ => rfl) (fun _ _ => rfl)
theorem at_27_4 (a : Addr) (w : World) : (Instr.fieldAt 27 (.pointer (some a)) 4).run Tryz.prog w = .ok (.pointer (some (a.add 4))) w := by simp [Instr.fieldAt, run_underlying Tryz.underlying27, Instr.sureAddr, fieldPlace, Result.andThen]
structure Span where
 Low : Int
 High : Int
 deriving DecidableEq, Inhabited
instance : GoT Span := GoT.struct Span (β := Int × Int) (fun x => (x.Low, x.High))
structure PayTable where
 Rows : List (List Int)
 Across : List Int
 Down : List Int
 Total : Int
 deriving DecidableEq, Inhabited
instance : GoT PayTable := GoT.struct PayTable (β := (List (List Int)) × (List Int) × (List Int) × Int) (fun x => (x.Rows, x.Across, x.Down, x.Total))
structure Prices where
 Rates : List (Vector UInt16 2)
 Extras : List UInt8
 Fine : UInt8
 Cap : UInt8
 deriving DecidableEq, Inhabited
instance : GoT Prices := GoT.struct Prices (β := (List (Vector UInt16 2)) × (List UInt8) × UInt8 × UInt8) (fun x => (x.Rates, x.Extras, x.Fine, x.Cap))
theorem part_Prices_0 : SubS (α := Prices) 0 Prices.Rates (fun x y => { x with Rates := y }) := SubS.of SubS.fst (fun _ => rfl) (fun _ _ => rfl)
theorem at_75_0 (a : Addr) (w : World) : (Instr.fieldAt 75 (.pointer (some a)) 0).run Tryz.prog w = .ok (.pointer (some (a.add 0))) w := by simp [Instr.fieldAt, run_underlying Tryz.underlying75, Instr.sureAddr, fieldPlace, Result.andThen]
theorem part_Prices_1 : SubS (α := Prices) 1 Prices.Extras (fun x y => { x with Extras := y }) := SubS.of (SubS.comp SubS.snd SubS.fst rfl) (fun _ => rfl) (fun _ _ => rfl)
theorem at_75_1 (a : Addr) (w : World) : (Instr.fieldAt 75 (.pointer (some a)) 1).run Tryz.prog w = .ok (.pointer (some (a.add 1))) w := by simp [Instr.fieldAt, run_underlying Tryz.underlying75, Instr.sureAddr, fieldPlace, Result.andThen]
theorem part_Prices_2 : SubS (α := Prices) 2 Prices.Fine (fun x y => { x with Fine := y }) := SubS.of (SubS.comp SubS.snd (SubS.comp SubS.snd SubS.fst rfl) rfl) (fun _ => rfl) (fun _ _ => rfl)
theorem at_75_2 (a : Addr) (w : World) : (Instr.fieldAt 75 (.pointer (some a)) 2).run Tryz.prog w = .ok (.pointer (some (a.add 2))) w := by simp [Instr.fieldAt, run_underlying Tryz.underlying75, Instr.sureAddr, fieldPlace, Result.andThen]
theorem part_Prices_3 : SubS (α := Prices) 3 Prices.Cap (fun x y => { x with Cap := y }) := SubS.of (SubS.comp SubS.snd (SubS.comp SubS.snd (SubS.comp SubS.snd SubS.id_ rfl) rfl) rfl) (fun _ => rfl) (fun _ _ => rfl)
theorem at_75_3 (a : Addr) (w : World) : (Instr.fieldAt 75 (.pointer (some a)) 3).run Tryz.prog w = .ok (.pointer (some (a.add 3))) w := by simp [Instr.fieldAt, run_underlying Tryz.underlying75, Instr.sureAddr, fieldPlace, Result.andThen]
structure Cut where
 Weaver : UInt8
 Faults : UInt8
 Extras : UInt8
 Dense : UInt16
 Picks : UInt32
 deriving DecidableEq, Inhabited
instance : GoT Cut := GoT.struct Cut (β := UInt8 × UInt8 × UInt8 × UInt16 × UInt32) (fun x => (x.Weaver, x.Faults, x.Extras, x.Dense, x.Picks))
theorem part_Cut_0 : SubS (α := Cut) 0 Cut.Weaver (fun x y => { x with Weaver := y }) := SubS.of SubS.fst (fun _ => rfl) (fun _ _ => rfl)
theorem at_83_0 (a : Addr) (w : World) : (Instr.fieldAt 83 (.pointer (some a)) 0).run Tryz.prog w = .ok (.pointer (some (a.add 0))) w := by simp [Instr.fieldAt, run_underlying Tryz.underlying83, Instr.sureAddr, fieldPlace, Result.andThen]
theorem part_Cut_1 : SubS (α := Cut) 1 Cut.Faults (fun x y => { x with Faults := y }) := SubS.of (SubS.comp SubS.snd SubS.fst rfl) (fun _ => rfl) (fun _ _ => rfl)
theorem at_83_1 (a : Addr) (w : World) : (Instr.fieldAt 83 (.pointer (some a)) 1).run Tryz.prog w = .ok (.pointer (some (a.add 1))) w := by simp [Instr.fieldAt, run_underlying Tryz.underlying83, Instr.sureAddr, fieldPlace, Result.andThen]
theorem part_Cut_2 : SubS (α := Cut) 2 Cut.Extras (fun x y => { x with Extras := y }) := SubS.of (SubS.comp SubS.snd (SubS.comp SubS.snd SubS.fst rfl) rfl) (fun _ => rfl) (fun _ _ => rfl)
theorem at_83_2 (a : Addr) (w : World) : (Instr.fieldAt 83 (.pointer (some a)) 2).run Tryz.prog w = .ok (.pointer (some (a.add 2))) w := by simp [Instr.fieldAt, run_underlying Tryz.underlying83, Instr.sureAddr, fieldPlace, Result.andThen]
theorem part_Cut_3 : SubS (α := Cut) 3 Cut.Dense (fun x y => { x with Dense := y }) := SubS.of (SubS.comp SubS.snd (SubS.comp SubS.snd (SubS.comp SubS.snd SubS.fst rfl) rfl) rfl) (fun _ => rfl) (fun _ _ => rfl)
theorem at_83_3 (a : Addr) (w : World) : (Instr.fieldAt 83 (.pointer (some a)) 3).run Tryz.prog w = .ok (.pointer (some (a.add 3))) w := by simp [Instr.fieldAt, run_underlying Tryz.underlying83, Instr.sureAddr, fieldPlace, Result.andThen]
theorem part_Cut_4 : SubS (α := Cut) 4 Cut.Picks (fun x y => { x with Picks := y }) := SubS.of (SubS.comp SubS.snd (SubS.comp SubS.snd (SubS.comp SubS.snd (SubS.comp SubS.snd SubS.id_ rfl) rfl) rfl) rfl) (fun _ => rfl) (fun _ _ => rfl)
theorem at_83_4 (a : Addr) (w : World) : (Instr.fieldAt 83 (.pointer (some a)) 4).run Tryz.prog w = .ok (.pointer (some (a.add 4))) w := by simp [Instr.fieldAt, run_underlying Tryz.underlying83, Instr.sureAddr, fieldPlace, Result.andThen]
structure Sheet where
 Rows : UInt8
 Columns : UInt8
 Amounts : List UInt16
 Blots : Vector UInt8 6
 deriving DecidableEq
instance : GoT Sheet := GoT.struct Sheet (β := UInt8 × UInt8 × (List UInt16) × (Vector UInt8 6)) (fun x => (x.Rows, x.Columns, x.Amounts, x.Blots))
structure PayEntry where
 Kind : Int
 Row : Int
 Column : Int
 Number : Int
 deriving DecidableEq, Inhabited
instance : GoT PayEntry := GoT.struct PayEntry (β := Int × Int × Int × Int) (fun x => (x.Kind, x.Row, x.Column, x.Number))
structure PayPayList where
 PayList : PayList
 deriving DecidableEq, Inhabited
instance : GoT PayPayList := GoT.struct PayPayList (β := PayList) (fun x => x.PayList)
theorem part_PayPayList_0 : SubS (α := PayPayList) 0 PayPayList.PayList (fun x y => { x with PayList := y }) := SubS.of SubS.id_ (fun _ => rfl) (fun _ _ => rfl)
theorem at_117_0 (a : Addr) (w : World) : (Instr.fieldAt 117 (.pointer (some a)) 0).run Tryz.prog w = .ok (.pointer (some (a.add 0))) w := by simp [Instr.fieldAt, run_underlying Tryz.underlying117, Instr.sureAddr, fieldPlace, Result.andThen]
structure PaySheet where
 PayTable : PayTable
 deriving DecidableEq, Inhabited
instance : GoT PaySheet := GoT.struct PaySheet (β := PayTable) (fun x => x.PayTable)
structure PayPlace where
 row : Int
 column : Int
 deriving DecidableEq, Inhabited
instance : GoT PayPlace := GoT.struct PayPlace (β := Int × Int) (fun x => (x.row, x.column))
structure PayFilling where
 sheet : PaySheet
 places : List PayPlace
 amounts : List Int
 deriving DecidableEq, Inhabited
instance : GoT PayFilling := GoT.struct PayFilling (β := PaySheet × (List PayPlace) × (List Int)) (fun x => (x.sheet, x.places, x.amounts))
structure PayEnd where
 at_ : Int
 isDown : Bool
 deriving DecidableEq, Inhabited
instance : GoT PayEnd := GoT.struct PayEnd (β := Int × Bool) (fun x => (x.at_, x.isDown))
structure PayStep where
 blot : Int
 less : Bool
 deriving DecidableEq, Inhabited
instance : GoT PayStep := GoT.struct PayStep (β := Int × Bool) (fun x => (x.blot, x.less))
end Go.Proofs.YtkmbkaoolacofaaGreat
