/- Maps that lie in variables and behind pointers; pointers as data. No program is named here. -/
import Derived.Test.YtmpjooneiaiffaaAs
import Derived.Test.YtmpjooneiaiffaaProg
namespace Go.Proofs.Ytmpjooneiaiffaa
open Go.RowKit
/-! ### Pointers as data -/
structure Ptr (α : Type) where
 x : α
theorem PT.one {α : Type} [GoT α] {m : Nat → Nat} {w : World} {x : α} {v : Value} (h : PT m w x v) : v.oneCell' = true := by
 obtain ⟨b, o, cs, rfl, _⟩ := h; simp [Value.oneCell']
instance {α : Type} [GoT α] : GoT (Ptr α) where
 k := 1
 agg := false
 rep m w p cs := ∃ v, cs = [v] ∧ PT m w p.x v
 len h := by obtain ⟨v, rfl, _⟩ := h; rfl
 one h := by obtain ⟨v, rfl, h⟩ := h; simpa using h.one
 mono k h := by obtain ⟨v, rfl, h⟩ := h; exact ⟨v, rfl, h.ch k⟩
 k1 _ := rfl
structure MapRef where
 deriving DecidableEq, Inhabited
instance : GoT MapRef where
 k := 1
 agg := false
 rep _ _ _ cs := ∃ b, cs = [.map b]
 len h := by obtain ⟨b, rfl⟩ := h; rfl
 one h := by obtain ⟨b, rfl⟩ := h; simp [Value.oneCell']
 mono _ h := h
 k1 _ := rfl
/-! ### A cell that stays -/
def FC (m : Nat → Nat) (w : World) (off : Nat) (v p : Value) : Prop := ∃ b o, p = .pointer (some ⟨b, o, none⟩) ∧ b < w.heap.size ∧ o + off < m b ∧ w.cell? ⟨b, o + off, none⟩ = some v
section
variable {m m' : Nat → Nat} {w w' : World} {g g' : Gh} {off : Nat} {v p : Value}
theorem FC.ch (h : FC m w off v p) (k : Ch m w m' w') : FC m' w' off v p := by
 obtain ⟨b, o, rfl, hb, hm, hc⟩ := h
 exact ⟨b, o, rfl, Nat.lt_of_lt_of_le hb k.size, Nat.lt_of_lt_of_le hm (k.marks b hb), (k.cells b hb _ hm).trans hc⟩
theorem FC.stp {i : Nat} (h : FC g.m w off v p) (k : Stp i g w g' w') : FC g'.m w' off v p := h.ch k.ch
theorem PT.fc {q : Fv} (h : PT m w q p) : FC m w 0 q.v p := by
 obtain ⟨b, o, cs, rfl, hb, hm, hr, hc⟩ := h
 have hr' : cs = [q.v] := hr
 subst hr'
 exact ⟨b, o, rfl, hb, hm, hc 0 _ rfl⟩
end
section
variable {P : Program} {e : Env} {w : World} {g : Gh} {K : Value → World → Prop} {x y : Operand} {off : Nat} {u p : Value} {t : TypeId}
theorem fc_run (ha : ∀ w, (isAgg t).run P w = .ok false w) (hs : ∀ w, (sizeOf t).run P w = .ok 1 w) (hu : u.oneCell' = true) {m : Nat → Nat} (hf : FC m w off u p) : ∀ a, fPtr p off = .pointer (some a) → (loadVar t a).run P w = .ok u w := by
 obtain ⟨b, o, rfl, hb, hm, hc⟩ := hf
 intro a he
 have he' : a = ⟨b, o + off, none⟩ := by simpa [fPtr] using he.symm
 subst he'
 have := loadVar_run (P := P) (α := Fv) (t := t) (a := ⟨u, hu⟩) (b := b) (off := o + off) (cs := [u]) (w := w) ha hs (m := m) rfl (fun j c hj => by
  cases j with
  | zero => simp at hj; subst hj; exact hc
  | succ j => simp at hj)
 simpa [toV, show GoT.agg Fv = false from rfl] using this
theorem L_loadFC {g0 : Gh} {w0 : World} (ha : ∀ w, (isAgg t).run P w = .ok false w) (hs : ∀ w, (sizeOf t).run P w = .ok 1 w) (hu : u.oneCell' = true) (hf : FC g0.m w0 off u p) :
  ∀ (e : Env) (g : Gh) (w : World), Ch g0.m w0 g.m w → ev e x = fPtr p off → ∀ d ty pos af gd, (execOp (ev e) ⟨d, .load t x, ty, pos, af, gd⟩).run P w = .ok (.value u) w := fun e g w hx he d ty pos af gd => by
 obtain ⟨b, o, hp, _⟩ := id hf
 have h1 := fc_run (P := P) ha hs hu (hf.ch hx) ⟨b, o + off, none⟩ (by rw [hp]; rfl)
 have he2 : ev e x = .pointer (some ⟨b, o + off, none⟩) := by rw [he, hp]; rfl
 simp [execOp, he2, Instr.loadAt, Instr.sureAddr, h1]
theorem D_loadFC (ha : ∀ w, (isAgg t).run P w = .ok false w) (hs : ∀ w, (sizeOf t).run P w = .ok 1 w) (hu : u.oneCell' = true) (hx : ev e x = fPtr p off) (hf : FC g.m w off u p) (h : K u w) : Doe P (.load t x) e w K := fun d ty pos af gd => by
 have := L_loadFC (P := P) (x := x) ha hs hu hf e g w (Ch.refl _ _) hx d ty pos af gd
 unfold doE
 rw [this]; exact h
theorem D_loadFC0 (ha : ∀ w, (isAgg t).run P w = .ok false w) (hs : ∀ w, (sizeOf t).run P w = .ok 1 w) (hu : u.oneCell' = true) (hx : ev e x = p) (hf : FC g.m w 0 u p) (h : K u w) : Doe P (.load t x) e w K :=
 D_loadFC ha hs hu (hx.trans (fPtr0 (let ⟨b, o, hp, _⟩ := hf; ⟨b, o, hp⟩)).symm) hf h
theorem L_loadFC0 {g0 : Gh} {w0 : World} (ha : ∀ w, (isAgg t).run P w = .ok false w) (hs : ∀ w, (sizeOf t).run P w = .ok 1 w) (hu : u.oneCell' = true) (hf : FC g0.m w0 0 u p) :
  ∀ (e : Env) (g : Gh) (w : World), Ch g0.m w0 g.m w → ev e x = p → ∀ d ty pos af gd, (execOp (ev e) ⟨d, .load t x, ty, pos, af, gd⟩).run P w = .ok (.value u) w := fun e g w hx he =>
 L_loadFC ha hs hu hf e g w hx (he.trans (fPtr0 (let ⟨b, o, hp, _⟩ := hf; ⟨b, o, hp⟩)).symm)
end
/-! ### Maps in variables -/
section
variable {κ ν : Type} [GoT ν] {enc : κ → Value} {i j k : Nat} {g g' : Gh} {w w' : World} {bt : TypeId} {xs : List (κ × ν)} {p v : Value}
theorem mp_one (h : MP enc i g w xs v) : v.oneCell' = true := by obtain ⟨b, es, cl, rfl, _⟩ := h; simp [Value.oneCell']
theorem fvm_rep {m : Nat → Nat} {w : World} : RV m w (⟨.map none, rfl⟩ : Fv) (.map none) := RV_fv.2 rfl
end
end Go.Proofs.Ytmpjooneiaiffaa
/- A region that draws its order, whose operations that change something come in one order: walked in the order of its text. No program is named here. -/
namespace Go.Proofs.Ytmpjooneiaiffaa
open Go.RowKit
section
variable {P : Program} {ops : Array Oper}
variable {late : Nat → Bool} {L : World → Prop} {Q : Env → World → Prop}
structure ApartC (ops : Array Oper) (oi oj : Oper) : Prop where
 ci : clearOf ops oi oj.dst = true
 cj : clearOf ops oj oi.dst = true
 dd : ∀ d, oi.dst = some d → oj.dst ≠ some d
 si : isSel oi = false
 sj : isSel oj = false
def LTg (U : List Nat) (g0 : Gh) (w0 : World) (g : Gh) (w : World) : Prop := Ch g0.m w0 g.m w ∧ ∀ b, b < w0.heap.size → U.contains (g0.o b) = true → w.heap[b]? = w0.heap[b]? ∧ g.o b = g0.o b
section
variable {U : List Nat} {g0 g g' : Gh} {w0 w w' : World}
def LTw (U : List Nat) (g0 : Gh) (w0 : World) (w : World) : Prop := ∃ g, LTg U g0 w0 g w
theorem LTw.blk {w : World} {n : Nat} (h : LTw U g0 w0 w) (hn : U.contains n = true := by rfl) : ∃ g : Gh, Ch g0.m w0 g.m w ∧ ∀ b, b < w0.heap.size → g0.o b = n → w.heap[b]? = w0.heap[b]? := let ⟨g, h1, h2⟩ := h; ⟨g, h1, fun b hb ho => (h2 b hb (by rw [ho]; exact hn)).1⟩
end
end
section
variable {P : Program} {ops : Array Oper} {late : Nat → Bool} {U : List Nat} {g0 : Gh} {w0 : World} {Q : Env → World → Prop} {i : Nat} {l : List Nat} {e : Env} {w : World} {op : Op} {ty : TypeId} {pos : String} {af : Array Edge} {gd : Option (Nat × Bool)} {d : Option Tmp}
end
def idxS {σ : Type} (x0 : List Int) (φ : σ → Int → Option (Bool × σ)) (s0 : σ) : Option Int :=
  jn (σ := Unit) (fun _ => some (-1 : Int)) fun k18 =>
  lp (σ := σ × Int) (fun k19 s => bif decide (s.2 < (x0.length : Int)) then
    jn (σ := σ) (fun t => k19 (t, w64 (s.2 + (1 : Int)))) fun k28 =>
    (idx x0 s.2).bind fun y => (φ s.1 y).bind fun r => bif r.1 then some s.2 else k28 r.2
   else k18 ()) big (s0, 0)
theorem D_callvM {P : Program} {e : Env} {w : World} {g : Gh} {K : Value → World → Prop} {f : FuncId} {i : Nat} {c : Operand} {first caps : Array Value} {xs : List Operand} {vs : List Value} {ats : Array TypeId} {R : Gh → World → Value → Prop} (hc0 : ev e c = .func (.func f) first caps) (hent : Enters P f) (ha : Args e xs vs) (hc : FnM P f (first ++ vs.toArray ++ caps) i g w R)
  (h : ∀ g' w' v, Stp i g w g' w' → R g' w' v → K v w') : Doe P (.call { callee := .value c, args := xs.toArray, argTypes := ats }) e w K := fun d ty pos af gd => by
 have he := hent (first ++ vs.toArray ++ caps) w
 have hrun : (execOp (ev e) ⟨d, .call { callee := .value c, args := xs.toArray, argTypes := ats }, ty, pos, af, gd⟩).run P w = .ok (.enter f (first ++ vs.toArray ++ caps)) w := by
  simp only [execOp, resolve, hc0, Deferred.ofValue, Sem.run_bind, Sem.run_pure, Result.andThen_ok, invoke, List.map_toArray, ha.map, he]
 unfold doE; rw [hrun]
 refine Calls.mono hc ?_
 rintro r w' ⟨v, rfl, g', hs, hR⟩
 exact ⟨v, rfl, h g' w' v hs hR⟩
end Go.Proofs.Ytmpjooneiaiffaa
/- The types of this seat, as data: structures, how they lie in memory, their parts. Printed by gtypes.py. -/
namespace Go.Proofs.Ytmpjooneiaiffaa
open Go.RowKit
theorem SubS.of {α β γ : Type} [GoT β] [GoT γ] {to : α → β} {off : Nat} {f : α → γ} {st : α → γ → α} {f' : β → γ} {s' : β → γ → β} (h : SubS off f' s') (h1 : ∀ x, f' (to x) = f x) (h2 : ∀ x y, to (st x y) = s' (to x) y) : @SubS α γ (GoT.struct α to) _ off f st := by
 refine ⟨⟨h.1.1, fun m w x cs hr => ?_⟩, fun m w x y cs cy hr hy => ?_⟩
 ·rw [← h1]; exact h.1.2 m w (to x) cs hr
 ·show GoT.rep m w (to (st x y)) _; rw [h2]; exact h.2 m w (to x) y cs cy hr hy
structure Span where
 Low : Int
 High : Int
 deriving DecidableEq, Inhabited
instance : GoT Span := GoT.struct Span (β := Int × Int) (fun x => (x.Low, x.High))
theorem part_Span_0 : SubS (α := Span) 0 Span.Low (fun x y => { x with Low := y }) := SubS.of SubS.fst (fun _ => rfl) (fun _ _ => rfl)
theorem at_85_0 (a : Addr) (w : World) : (Instr.fieldAt 85 (.pointer (some a)) 0).run Try.prog w = .ok (.pointer (some (a.add 0))) w := by simp [Instr.fieldAt, run_underlying Try.underlying85, Instr.sureAddr, fieldPlace, Result.andThen]
theorem part_Span_1 : SubS (α := Span) 1 Span.High (fun x y => { x with High := y }) := SubS.of (SubS.comp SubS.snd SubS.id_ rfl) (fun _ => rfl) (fun _ _ => rfl)
theorem at_85_1 (a : Addr) (w : World) : (Instr.fieldAt 85 (.pointer (some a)) 1).run Try.prog w = .ok (.pointer (some (a.add 1))) w := by simp [Instr.fieldAt, run_underlying Try.underlying85, Instr.sureAddr, fieldPlace, Result.andThen]
structure BoxShuttle where
 Colour : Int
 Side : Int
 Box : Int
 Yarn : Span
 deriving DecidableEq, Inhabited
instance : GoT BoxShuttle := GoT.struct BoxShuttle (β := Int × Int × Int × Span) (fun x => (x.Colour, x.Side, x.Box, x.Yarn))
theorem part_BoxShuttle_0 : SubS (α := BoxShuttle) 0 BoxShuttle.Colour (fun x y => { x with Colour := y }) := SubS.of SubS.fst (fun _ => rfl) (fun _ _ => rfl)
theorem at_87_0 (a : Addr) (w : World) : (Instr.fieldAt 87 (.pointer (some a)) 0).run Try.prog w = .ok (.pointer (some (a.add 0))) w := by simp [Instr.fieldAt, run_underlying Try.underlying87, Instr.sureAddr, fieldPlace, Result.andThen]
theorem part_BoxShuttle_1 : SubS (α := BoxShuttle) 1 BoxShuttle.Side (fun x y => { x with Side := y }) := SubS.of (SubS.comp SubS.snd SubS.fst rfl) (fun _ => rfl) (fun _ _ => rfl)
theorem at_87_1 (a : Addr) (w : World) : (Instr.fieldAt 87 (.pointer (some a)) 1).run Try.prog w = .ok (.pointer (some (a.add 1))) w := by simp [Instr.fieldAt, run_underlying Try.underlying87, Instr.sureAddr, fieldPlace, Result.andThen]
theorem part_BoxShuttle_2 : SubS (α := BoxShuttle) 2 BoxShuttle.Box (fun x y => { x with Box := y }) := SubS.of (SubS.comp SubS.snd (SubS.comp SubS.snd SubS.fst rfl) rfl) (fun _ => rfl) (fun _ _ => rfl)
theorem at_87_2 (a : Addr) (w : World) : (Instr.fieldAt 87 (.pointer (some a)) 2).run Try.prog w = .ok (.pointer (some (a.add 2))) w := by simp [Instr.fieldAt, run_underlying Try.underlying87, Instr.sureAddr, fieldPlace, Result.andThen]
theorem part_BoxShuttle_3 : SubS (α := BoxShuttle) 3 BoxShuttle.Yarn (fun x y => { x with Yarn := y }) := SubS.of (SubS.comp SubS.snd (SubS.comp SubS.snd (SubS.comp SubS.snd SubS.id_ rfl) rfl) rfl) (fun _ => rfl) (fun _ _ => rfl)
theorem at_87_3 (a : Addr) (w : World) : (Instr.fieldAt 87 (.pointer (some a)) 3).run Try.prog w = .ok (.pointer (some (a.add 3))) w := by simp [Instr.fieldAt, run_underlying Try.underlying87, Instr.sureAddr, fieldPlace, Result.andThen]
structure BoxLoom where
 Boxes : List Int
 At : List Int
 Shuttles : List BoxShuttle
 deriving DecidableEq, Inhabited
instance : GoT BoxLoom := GoT.struct BoxLoom (β := (List Int) × (List Int) × (List BoxShuttle)) (fun x => (x.Boxes, x.At, x.Shuttles))
theorem part_BoxLoom_0 : SubS (α := BoxLoom) 0 BoxLoom.Boxes (fun x y => { x with Boxes := y }) := SubS.of SubS.fst (fun _ => rfl) (fun _ _ => rfl)
theorem at_25_0 (a : Addr) (w : World) : (Instr.fieldAt 25 (.pointer (some a)) 0).run Try.prog w = .ok (.pointer (some (a.add 0))) w := by simp [Instr.fieldAt, run_underlying Try.underlying25, Instr.sureAddr, fieldPlace, Result.andThen]
theorem part_BoxLoom_1 : SubS (α := BoxLoom) 1 BoxLoom.At (fun x y => { x with At := y }) := SubS.of (SubS.comp SubS.snd SubS.fst rfl) (fun _ => rfl) (fun _ _ => rfl)
theorem at_25_1 (a : Addr) (w : World) : (Instr.fieldAt 25 (.pointer (some a)) 1).run Try.prog w = .ok (.pointer (some (a.add 1))) w := by simp [Instr.fieldAt, run_underlying Try.underlying25, Instr.sureAddr, fieldPlace, Result.andThen]
theorem part_BoxLoom_2 : SubS (α := BoxLoom) 2 BoxLoom.Shuttles (fun x y => { x with Shuttles := y }) := SubS.of (SubS.comp SubS.snd (SubS.comp SubS.snd SubS.id_ rfl) rfl) (fun _ => rfl) (fun _ _ => rfl)
theorem at_25_2 (a : Addr) (w : World) : (Instr.fieldAt 25 (.pointer (some a)) 2).run Try.prog w = .ok (.pointer (some (a.add 2))) w := by simp [Instr.fieldAt, run_underlying Try.underlying25, Instr.sureAddr, fieldPlace, Result.andThen]
structure Grifferef04Run where
 Thrown : List Int
 After : BoxLoom
 Moves : Int
 deriving DecidableEq, Inhabited
instance : GoT Grifferef04Run := GoT.struct Grifferef04Run (β := (List Int) × BoxLoom × Int) (fun x => (x.Thrown, x.After, x.Moves))
theorem part_Grifferef04Run_0 : SubS (α := Grifferef04Run) 0 Grifferef04Run.Thrown (fun x y => { x with Thrown := y }) := SubS.of SubS.fst (fun _ => rfl) (fun _ _ => rfl)
theorem at_58_0 (a : Addr) (w : World) : (Instr.fieldAt 58 (.pointer (some a)) 0).run Try.prog w = .ok (.pointer (some (a.add 0))) w := by simp [Instr.fieldAt, run_underlying Try.underlying58, Instr.sureAddr, fieldPlace, Result.andThen]
theorem part_Grifferef04Run_1 : SubS (α := Grifferef04Run) 1 Grifferef04Run.After (fun x y => { x with After := y }) := SubS.of (SubS.comp SubS.snd SubS.fst rfl) (fun _ => rfl) (fun _ _ => rfl)
theorem at_58_1 (a : Addr) (w : World) : (Instr.fieldAt 58 (.pointer (some a)) 1).run Try.prog w = .ok (.pointer (some (a.add 1))) w := by simp [Instr.fieldAt, run_underlying Try.underlying58, Instr.sureAddr, fieldPlace, Result.andThen]
theorem part_Grifferef04Run_2 : SubS (α := Grifferef04Run) 4 Grifferef04Run.Moves (fun x y => { x with Moves := y }) := SubS.of (SubS.comp SubS.snd (SubS.comp SubS.snd SubS.id_ rfl) rfl) (fun _ => rfl) (fun _ _ => rfl)
theorem at_58_2 (a : Addr) (w : World) : (Instr.fieldAt 58 (.pointer (some a)) 2).run Try.prog w = .ok (.pointer (some (a.add 4))) w := by simp [Instr.fieldAt, run_underlying Try.underlying58, Instr.sureAddr, fieldPlace, Result.andThen]
structure Race where
 Boxes : Vector UInt8 4
 Shuttles : List (Vector UInt8 4)
 Picks : List UInt8
 deriving DecidableEq
instance : GoT Race := GoT.struct Race (β := (Vector UInt8 4) × (List (Vector UInt8 4)) × (List UInt8)) (fun x => (x.Boxes, x.Shuttles, x.Picks))
structure BoxPick where
 Left : Int
 Right : Int
 deriving DecidableEq, Inhabited
instance : GoT BoxPick := GoT.struct BoxPick (β := Int × Int) (fun x => (x.Left, x.Right))
theorem part_BoxPick_0 : SubS (α := BoxPick) 0 BoxPick.Left (fun x y => { x with Left := y }) := SubS.of SubS.fst (fun _ => rfl) (fun _ _ => rfl)
theorem at_83_0 (a : Addr) (w : World) : (Instr.fieldAt 83 (.pointer (some a)) 0).run Try.prog w = .ok (.pointer (some (a.add 0))) w := by simp [Instr.fieldAt, run_underlying Try.underlying83, Instr.sureAddr, fieldPlace, Result.andThen]
theorem part_BoxPick_1 : SubS (α := BoxPick) 1 BoxPick.Right (fun x y => { x with Right := y }) := SubS.of (SubS.comp SubS.snd SubS.id_ rfl) (fun _ => rfl) (fun _ _ => rfl)
theorem at_83_1 (a : Addr) (w : World) : (Instr.fieldAt 83 (.pointer (some a)) 1).run Try.prog w = .ok (.pointer (some (a.add 1))) w := by simp [Instr.fieldAt, run_underlying Try.underlying83, Instr.sureAddr, fieldPlace, Result.andThen]
structure BoxBoxLoom where
 BoxLoom : BoxLoom
 deriving DecidableEq, Inhabited
instance : GoT BoxBoxLoom := GoT.struct BoxBoxLoom (β := BoxLoom) (fun x => x.BoxLoom)
theorem part_BoxBoxLoom_0 : SubS (α := BoxBoxLoom) 0 BoxBoxLoom.BoxLoom (fun x y => { x with BoxLoom := y }) := SubS.of SubS.id_ (fun _ => rfl) (fun _ _ => rfl)
theorem at_102_0 (a : Addr) (w : World) : (Instr.fieldAt 102 (.pointer (some a)) 0).run Try.prog w = .ok (.pointer (some (a.add 0))) w := by simp [Instr.fieldAt, run_underlying Try.underlying102, Instr.sureAddr, fieldPlace, Result.andThen]
structure BoxRace where
 boxes : Vector (Vector Int 4) 2
 at_ : BoxPick
 deriving DecidableEq
instance : GoT BoxRace := GoT.struct BoxRace (β := (Vector (Vector Int 4) 2) × BoxPick) (fun x => (x.boxes, x.at_))
theorem part_BoxRace_0 : SubS (α := BoxRace) 0 BoxRace.boxes (fun x y => { x with boxes := y }) := SubS.of SubS.fst (fun _ => rfl) (fun _ _ => rfl)
theorem at_108_0 (a : Addr) (w : World) : (Instr.fieldAt 108 (.pointer (some a)) 0).run Try.prog w = .ok (.pointer (some (a.add 0))) w := by simp [Instr.fieldAt, run_underlying Try.underlying108, Instr.sureAddr, fieldPlace, Result.andThen]
theorem part_BoxRace_1 : SubS (α := BoxRace) 8 BoxRace.at_ (fun x y => { x with at_ := y }) := SubS.of (SubS.comp SubS.snd SubS.id_ rfl) (fun _ => rfl) (fun _ _ => rfl)
theorem at_108_1 (a : Addr) (w : World) : (Instr.fieldAt 108 (.pointer (some a)) 1).run Try.prog w = .ok (.pointer (some (a.add 8))) w := by simp [Instr.fieldAt, run_underlying Try.underlying108, Instr.sureAddr, fieldPlace, Result.andThen]
structure BoxPoint where
 group : Int
 done : Int
 race : BoxRace
 deriving DecidableEq
instance : GoT BoxPoint := GoT.struct BoxPoint (β := Int × Int × BoxRace) (fun x => (x.group, x.done, x.race))
structure BoxRun where
 thrown : List Int
 last : BoxRace
 moves : Int
 deriving DecidableEq
instance : GoT BoxRun := GoT.struct BoxRun (β := (List Int) × BoxRace × Int) (fun x => (x.thrown, x.last, x.moves))
theorem part_BoxRun_0 : SubS (α := BoxRun) 0 BoxRun.thrown (fun x y => { x with thrown := y }) := SubS.of SubS.fst (fun _ => rfl) (fun _ _ => rfl)
theorem at_129_0 (a : Addr) (w : World) : (Instr.fieldAt 129 (.pointer (some a)) 0).run Try.prog w = .ok (.pointer (some (a.add 0))) w := by simp [Instr.fieldAt, run_underlying Try.underlying129, Instr.sureAddr, fieldPlace, Result.andThen]
theorem part_BoxRun_1 : SubS (α := BoxRun) 1 BoxRun.last (fun x y => { x with last := y }) := SubS.of (SubS.comp SubS.snd SubS.fst rfl) (fun _ => rfl) (fun _ _ => rfl)
theorem at_129_1 (a : Addr) (w : World) : (Instr.fieldAt 129 (.pointer (some a)) 1).run Try.prog w = .ok (.pointer (some (a.add 1))) w := by simp [Instr.fieldAt, run_underlying Try.underlying129, Instr.sureAddr, fieldPlace, Result.andThen]
theorem part_BoxRun_2 : SubS (α := BoxRun) 11 BoxRun.moves (fun x y => { x with moves := y }) := SubS.of (SubS.comp SubS.snd (SubS.comp SubS.snd SubS.id_ rfl) rfl) (fun _ => rfl) (fun _ _ => rfl)
theorem at_129_2 (a : Addr) (w : World) : (Instr.fieldAt 129 (.pointer (some a)) 2).run Try.prog w = .ok (.pointer (some (a.add 11))) w := by simp [Instr.fieldAt, run_underlying Try.underlying129, Instr.sureAddr, fieldPlace, Result.andThen]
structure BoxStep where
 next : BoxRace
 colour : Int
 moves : Int
 deriving DecidableEq
instance : GoT BoxStep := GoT.struct BoxStep (β := BoxRace × Int × Int) (fun x => (x.next, x.colour, x.moves))
structure BoxMill where
 left : Int
 right : Int
 known : MapRef
 deriving DecidableEq, Inhabited
instance : GoT BoxMill := GoT.struct BoxMill (β := Int × Int × MapRef) (fun x => (x.left, x.right, x.known))
end Go.Proofs.Ytmpjooneiaiffaa
