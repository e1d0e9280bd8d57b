/- The types of this seat, as data: structures, how they lie in memory, their parts. Printed by gtypes.py. -/
import Derived.Test.YtmebkoemfjlbcaaGreatDoorIc
import Derived.Test.YtmebkoemfjlbcaaGreatDoorProg
namespace Go.Proofs.YtmebkoemfjlbcaaGreatDoor
open Go.RowKit
theorem Gr.of {α β γ : Type} [GoT β] [GoT γ] {to : α → β} {off : Nat} {f : α → γ} {st : α → γ → α} {f' : β → γ} {s' : β → γ → β} (h : Gr off f' s') (h1 : ∀ x, f' (to x) = f x) (h2 : ∀ x y, to (st x y) = s' (to x) y) : @Gr α γ (GoT.struct α to) _ off f st := by
 refine ⟨⟨h.1.1, fun m w x cs hr => ?_⟩, fun m w x y cs cy hr hy => ?_⟩
 ·rw [← h1]; exact h.1.2 m w (to x) cs hr
 ·show GoT.rep m w (to (st x y)) _; rw [h2]; exact h.2 m w (to x) y cs cy hr hy
structure Tb where
 Hooks : Int
 Rows : List Int
 deriving DecidableEq, Inhabited
instance : GoT Tb := GoT.struct Tb (β := Int × (List Int)) (fun x => (x.Hooks, x.Rows))
theorem Wm : Gr (α := Tb) 0 Tb.Hooks (fun x y => { x with Hooks := y }) := Gr.of Gr.fst (fun _ => rfl) (fun _ _ => rfl)
theorem H1 (a : Addr) (w : World) : (Instr.fieldAt 24 (.pointer (some a)) 0).run Tryz.prog w = .ok (.pointer (some (a.add 0))) w := by simp [Instr.fieldAt, run_underlying Tryz.underlying24, Instr.sureAddr, fieldPlace, Result.andThen]
theorem Qt : Gr (α := Tb) 1 Tb.Rows (fun x y => { x with Rows := y }) := Gr.of (Gr.comp Gr.snd Gr.id_ rfl) (fun _ => rfl) (fun _ _ => rfl)
theorem Hf (a : Addr) (w : World) : (Instr.fieldAt 24 (.pointer (some a)) 1).run Tryz.prog w = .ok (.pointer (some (a.add 1))) w := by simp [Instr.fieldAt, run_underlying Tryz.underlying24, Instr.sureAddr, fieldPlace, Result.andThen]
structure TieHarness where
 Hooks : Int
 Warps : List Int
 deriving DecidableEq, Inhabited
instance : GoT TieHarness := GoT.struct TieHarness (β := Int × (List Int)) (fun x => (x.Hooks, x.Warps))
theorem Qx : Gr (α := TieHarness) 0 TieHarness.Hooks (fun x y => { x with Hooks := y }) := Gr.of Gr.fst (fun _ => rfl) (fun _ _ => rfl)
theorem Hq (a : Addr) (w : World) : (Instr.fieldAt 106 (.pointer (some a)) 0).run Tryz.prog w = .ok (.pointer (some (a.add 0))) w := by simp [Instr.fieldAt, run_underlying Tryz.underlying106, Instr.sureAddr, fieldPlace, Result.andThen]
theorem Ql : Gr (α := TieHarness) 1 TieHarness.Warps (fun x y => { x with Warps := y }) := Gr.of (Gr.comp Gr.snd Gr.id_ rfl) (fun _ => rfl) (fun _ _ => rfl)
theorem Hb (a : Addr) (w : World) : (Instr.fieldAt 106 (.pointer (some a)) 1).run Tryz.prog w = .ok (.pointer (some (a.add 1))) w := by simp [Instr.fieldAt, run_underlying Tryz.underlying106, Instr.sureAddr, fieldPlace, Result.andThen]
structure Gs where
 Name : Str
 Harness : TieHarness
 deriving DecidableEq, Inhabited
instance : GoT Gs := GoT.struct Gs (β := Str × TieHarness) (fun x => (x.Name, x.Harness))
theorem K0 : Gr (α := Gs) 0 Gs.Name (fun x y => { x with Name := y }) := Gr.of Gr.fst (fun _ => rfl) (fun _ _ => rfl)
theorem Hu (a : Addr) (w : World) : (Instr.fieldAt 108 (.pointer (some a)) 0).run Tryz.prog w = .ok (.pointer (some (a.add 0))) w := by simp [Instr.fieldAt, run_underlying Tryz.underlying108, Instr.sureAddr, fieldPlace, Result.andThen]
theorem Ws : Gr (α := Gs) 1 Gs.Harness (fun x y => { x with Harness := y }) := Gr.of (Gr.comp Gr.snd Gr.id_ rfl) (fun _ => rfl) (fun _ _ => rfl)
theorem K9 (a : Addr) (w : World) : (Instr.fieldAt 108 (.pointer (some a)) 1).run Tryz.prog w = .ok (.pointer (some (a.add 1))) w := by simp [Instr.fieldAt, run_underlying Tryz.underlying108, Instr.sureAddr, fieldPlace, Result.andThen]
structure Gb where
 Number : Int
 Row : Int
 Turned : Bool
 deriving DecidableEq, Inhabited
instance : GoT Gb := GoT.struct Gb (β := Int × Int × Bool) (fun x => (x.Number, x.Row, x.Turned))
theorem K4 : Gr (α := Gb) 0 Gb.Number (fun x y => { x with Number := y }) := Gr.of Gr.fst (fun _ => rfl) (fun _ _ => rfl)
theorem Dd (a : Addr) (w : World) : (Instr.fieldAt 96 (.pointer (some a)) 0).run Tryz.prog w = .ok (.pointer (some (a.add 0))) w := by simp [Instr.fieldAt, run_underlying Tryz.underlying96, Instr.sureAddr, fieldPlace, Result.andThen]
theorem W4 : Gr (α := Gb) 1 Gb.Row (fun x y => { x with Row := y }) := Gr.of (Gr.comp Gr.snd Gr.fst rfl) (fun _ => rfl) (fun _ _ => rfl)
theorem Vs (a : Addr) (w : World) : (Instr.fieldAt 96 (.pointer (some a)) 1).run Tryz.prog w = .ok (.pointer (some (a.add 1))) w := by simp [Instr.fieldAt, run_underlying Tryz.underlying96, Instr.sureAddr, fieldPlace, Result.andThen]
theorem Yi : Gr (α := Gb) 2 Gb.Turned (fun x y => { x with Turned := y }) := Gr.of (Gr.comp Gr.snd (Gr.comp Gr.snd Gr.id_ rfl) rfl) (fun _ => rfl) (fun _ _ => rfl)
theorem Lv (a : Addr) (w : World) : (Instr.fieldAt 96 (.pointer (some a)) 2).run Tryz.prog w = .ok (.pointer (some (a.add 2))) w := by simp [Instr.fieldAt, run_underlying Tryz.underlying96, Instr.sureAddr, fieldPlace, Result.andThen]
structure ChainBelt where
 Hooks : Int
 Cards : List Gb
 deriving DecidableEq, Inhabited
instance : GoT ChainBelt := GoT.struct ChainBelt (β := Int × (List Gb)) (fun x => (x.Hooks, x.Cards))
theorem Q5 : Gr (α := ChainBelt) 0 ChainBelt.Hooks (fun x y => { x with Hooks := y }) := Gr.of Gr.fst (fun _ => rfl) (fun _ _ => rfl)
theorem Jv (a : Addr) (w : World) : (Instr.fieldAt 92 (.pointer (some a)) 0).run Tryz.prog w = .ok (.pointer (some (a.add 0))) w := by simp [Instr.fieldAt, run_underlying Tryz.underlying92, Instr.sureAddr, fieldPlace, Result.andThen]
theorem Qi : Gr (α := ChainBelt) 1 ChainBelt.Cards (fun x y => { x with Cards := y }) := Gr.of (Gr.comp Gr.snd Gr.id_ rfl) (fun _ => rfl) (fun _ _ => rfl)
theorem Hg (a : Addr) (w : World) : (Instr.fieldAt 92 (.pointer (some a)) 1).run Tryz.prog w = .ok (.pointer (some (a.add 1))) w := by simp [Instr.fieldAt, run_underlying Tryz.underlying92, Instr.sureAddr, fieldPlace, Result.andThen]
structure Gi where
 Name : Str
 Chain : ChainBelt
 deriving DecidableEq, Inhabited
instance : GoT Gi := GoT.struct Gi (β := Str × ChainBelt) (fun x => (x.Name, x.Chain))
theorem K5 : Gr (α := Gi) 0 Gi.Name (fun x y => { x with Name := y }) := Gr.of Gr.fst (fun _ => rfl) (fun _ _ => rfl)
theorem Yl (a : Addr) (w : World) : (Instr.fieldAt 94 (.pointer (some a)) 0).run Tryz.prog w = .ok (.pointer (some (a.add 0))) w := by simp [Instr.fieldAt, run_underlying Tryz.underlying94, Instr.sureAddr, fieldPlace, Result.andThen]
theorem Ka : Gr (α := Gi) 1 Gi.Chain (fun x y => { x with Chain := y }) := Gr.of (Gr.comp Gr.snd Gr.id_ rfl) (fun _ => rfl) (fun _ _ => rfl)
theorem He (a : Addr) (w : World) : (Instr.fieldAt 94 (.pointer (some a)) 1).run Tryz.prog w = .ok (.pointer (some (a.add 1))) w := by simp [Instr.fieldAt, run_underlying Tryz.underlying94, Instr.sureAddr, fieldPlace, Result.andThen]
structure Gg where
 Ties : List Gs
 Chains : List Gi
 deriving DecidableEq, Inhabited
instance : GoT Gg := GoT.struct Gg (β := (List Gs) × (List Gi)) (fun x => (x.Ties, x.Chains))
theorem Tl : Gr (α := Gg) 0 Gg.Ties (fun x y => { x with Ties := y }) := Gr.of Gr.fst (fun _ => rfl) (fun _ _ => rfl)
theorem Qm (a : Addr) (w : World) : (Instr.fieldAt 39 (.pointer (some a)) 0).run Tryz.prog w = .ok (.pointer (some (a.add 0))) w := by simp [Instr.fieldAt, run_underlying Tryz.underlying39, Instr.sureAddr, fieldPlace, Result.andThen]
theorem Tt : Gr (α := Gg) 1 Gg.Chains (fun x y => { x with Chains := y }) := Gr.of (Gr.comp Gr.snd Gr.id_ rfl) (fun _ => rfl) (fun _ _ => rfl)
theorem Q9 (a : Addr) (w : World) : (Instr.fieldAt 39 (.pointer (some a)) 1).run Tryz.prog w = .ok (.pointer (some (a.add 1))) w := by simp [Instr.fieldAt, run_underlying Tryz.underlying39, Instr.sureAddr, fieldPlace, Result.andThen]
structure Z2 where
 Day : Int
 Loom : Int
 Chain : Int
 Tie : Int
 Picks : Int
 deriving DecidableEq, Inhabited
instance : GoT Z2 := GoT.struct Z2 (β := Int × Int × Int × Int × Int) (fun x => (x.Day, x.Loom, x.Chain, x.Tie, x.Picks))
theorem G8 : Gr (α := Z2) 0 Z2.Day (fun x y => { x with Day := y }) := Gr.of Gr.fst (fun _ => rfl) (fun _ _ => rfl)
theorem W1 (a : Addr) (w : World) : (Instr.fieldAt 63 (.pointer (some a)) 0).run Tryz.prog w = .ok (.pointer (some (a.add 0))) w := by simp [Instr.fieldAt, run_underlying Tryz.underlying63, Instr.sureAddr, fieldPlace, Result.andThen]
theorem Tg : Gr (α := Z2) 1 Z2.Loom (fun x y => { x with Loom := y }) := Gr.of (Gr.comp Gr.snd Gr.fst rfl) (fun _ => rfl) (fun _ _ => rfl)
theorem Kh (a : Addr) (w : World) : (Instr.fieldAt 63 (.pointer (some a)) 1).run Tryz.prog w = .ok (.pointer (some (a.add 1))) w := by simp [Instr.fieldAt, run_underlying Tryz.underlying63, Instr.sureAddr, fieldPlace, Result.andThen]
theorem Qs : Gr (α := Z2) 2 Z2.Chain (fun x y => { x with Chain := y }) := Gr.of (Gr.comp Gr.snd (Gr.comp Gr.snd Gr.fst rfl) rfl) (fun _ => rfl) (fun _ _ => rfl)
theorem Jx (a : Addr) (w : World) : (Instr.fieldAt 63 (.pointer (some a)) 2).run Tryz.prog w = .ok (.pointer (some (a.add 2))) w := by simp [Instr.fieldAt, run_underlying Tryz.underlying63, Instr.sureAddr, fieldPlace, Result.andThen]
theorem Wq : Gr (α := Z2) 3 Z2.Tie (fun x y => { x with Tie := y }) := Gr.of (Gr.comp Gr.snd (Gr.comp Gr.snd (Gr.comp Gr.snd Gr.fst rfl) rfl) rfl) (fun _ => rfl) (fun _ _ => rfl)
theorem Ur (a : Addr) (w : World) : (Instr.fieldAt 63 (.pointer (some a)) 3).run Tryz.prog w = .ok (.pointer (some (a.add 3))) w := by simp [Instr.fieldAt, run_underlying Tryz.underlying63, Instr.sureAddr, fieldPlace, Result.andThen]
theorem Wn : Gr (α := Z2) 4 Z2.Picks (fun x y => { x with Picks := y }) := Gr.of (Gr.comp Gr.snd (Gr.comp Gr.snd (Gr.comp Gr.snd (Gr.comp Gr.snd Gr.id_ rfl) rfl) rfl) rfl) (fun _ => rfl) (fun _ _ => rfl)
theorem Uq (a : Addr) (w : World) : (Instr.fieldAt 63 (.pointer (some a)) 4).run Tryz.prog w = .ok (.pointer (some (a.add 4))) w := by simp [Instr.fieldAt, run_underlying Tryz.underlying63, Instr.sureAddr, fieldPlace, Result.andThen]
structure Tm where
 text : Str
 rest : Str
 line : Int
 deriving DecidableEq, Inhabited
instance : GoT Tm := GoT.struct Tm (β := Str × Str × Int) (fun x => (x.text, x.rest, x.line))
theorem Rw (a : Addr) (w : World) : (Instr.fieldAt 119 (.pointer (some a)) 0).run Tryz.prog w = .ok (.pointer (some (a.add 0))) w := by simp [Instr.fieldAt, run_underlying Tryz.underlying119, Instr.sureAddr, fieldPlace, Result.andThen]
theorem Ua (a : Addr) (w : World) : (Instr.fieldAt 119 (.pointer (some a)) 1).run Tryz.prog w = .ok (.pointer (some (a.add 1))) w := by simp [Instr.fieldAt, run_underlying Tryz.underlying119, Instr.sureAddr, fieldPlace, Result.andThen]
theorem Ky (a : Addr) (w : World) : (Instr.fieldAt 119 (.pointer (some a)) 2).run Tryz.prog w = .ok (.pointer (some (a.add 2))) w := by simp [Instr.fieldAt, run_underlying Tryz.underlying119, Instr.sureAddr, fieldPlace, Result.andThen]
structure G4 where
 reader : Tm
 mill : Gg
 deriving DecidableEq, Inhabited
instance : GoT G4 := GoT.struct G4 (β := Tm × Gg) (fun x => (x.reader, x.mill))
theorem Tr (a : Addr) (w : World) : (Instr.fieldAt 144 (.pointer (some a)) 0).run Tryz.prog w = .ok (.pointer (some (a.add 0))) w := by simp [Instr.fieldAt, run_underlying Tryz.underlying144, Instr.sureAddr, fieldPlace, Result.andThen]
theorem Ko (a : Addr) (w : World) : (Instr.fieldAt 144 (.pointer (some a)) 1).run Tryz.prog w = .ok (.pointer (some (a.add 3))) w := by simp [Instr.fieldAt, run_underlying Tryz.underlying144, Instr.sureAddr, fieldPlace, Result.andThen]
structure T0 where
 chain : Int
 card : Int
 deriving DecidableEq, Inhabited
instance : GoT T0 := GoT.struct T0 (β := Int × Int) (fun x => (x.chain, x.card))
theorem Uv : Gr (α := T0) 0 T0.chain (fun x y => { x with chain := y }) := Gr.of Gr.fst (fun _ => rfl) (fun _ _ => rfl)
theorem Mi (a : Addr) (w : World) : (Instr.fieldAt 167 (.pointer (some a)) 0).run Tryz.prog w = .ok (.pointer (some (a.add 0))) w := by simp [Instr.fieldAt, run_underlying Tryz.underlying167, Instr.sureAddr, fieldPlace, Result.andThen]
theorem Jf : Gr (α := T0) 1 T0.card (fun x y => { x with card := y }) := Gr.of (Gr.comp Gr.snd Gr.id_ rfl) (fun _ => rfl) (fun _ _ => rfl)
theorem Cy (a : Addr) (w : World) : (Instr.fieldAt 167 (.pointer (some a)) 1).run Tryz.prog w = .ok (.pointer (some (a.add 1))) w := by simp [Instr.fieldAt, run_underlying Tryz.underlying167, Instr.sureAddr, fieldPlace, Result.andThen]
structure W6 where
 line : Int
 e : Int
 deriving DecidableEq, Inhabited
instance : GoT W6 := GoT.struct W6 (β := Int × Int) (fun x => (x.line, x.e))
theorem Yh : Gr (α := W6) 0 W6.line (fun x y => { x with line := y }) := Gr.of Gr.fst (fun _ => rfl) (fun _ _ => rfl)
theorem Cj (a : Addr) (w : World) : (Instr.fieldAt 177 (.pointer (some a)) 0).run Tryz.prog w = .ok (.pointer (some (a.add 0))) w := by simp [Instr.fieldAt, run_underlying Tryz.underlying177, Instr.sureAddr, fieldPlace, Result.andThen]
theorem Yb : Gr (α := W6) 1 W6.e (fun x y => { x with e := y }) := Gr.of (Gr.comp Gr.snd Gr.id_ rfl) (fun _ => rfl) (fun _ _ => rfl)
theorem R5 (a : Addr) (w : World) : (Instr.fieldAt 177 (.pointer (some a)) 1).run Tryz.prog w = .ok (.pointer (some (a.add 1))) w := by simp [Instr.fieldAt, run_underlying Tryz.underlying177, Instr.sureAddr, fieldPlace, Result.andThen]
structure Gu where
 day : Int
 loom : Int
 deriving DecidableEq, Inhabited
instance : GoT Gu := GoT.struct Gu (β := Int × Int) (fun x => (x.day, x.loom))
theorem Yy : Gr (α := Gu) 0 Gu.day (fun x y => { x with day := y }) := Gr.of Gr.fst (fun _ => rfl) (fun _ _ => rfl)
theorem Y0 : Gr (α := Gu) 1 Gu.loom (fun x y => { x with loom := y }) := Gr.of (Gr.comp Gr.snd Gr.id_ rfl) (fun _ => rfl) (fun _ _ => rfl)
structure Gj where
 ChainBelt : ChainBelt
 frame : Int
 deriving DecidableEq, Inhabited
instance : GoT Gj := GoT.struct Gj (β := ChainBelt × Int) (fun x => (x.ChainBelt, x.frame))
theorem Kr : Gr (α := Gj) 0 Gj.ChainBelt (fun x y => { x with ChainBelt := y }) := Gr.of Gr.fst (fun _ => rfl) (fun _ _ => rfl)
theorem D4 (a : Addr) (w : World) : (Instr.fieldAt 220 (.pointer (some a)) 0).run Tryz.prog w = .ok (.pointer (some (a.add 0))) w := by simp [Instr.fieldAt, run_underlying Tryz.underlying220, Instr.sureAddr, fieldPlace, Result.andThen]
theorem Ks : Gr (α := Gj) 2 Gj.frame (fun x y => { x with frame := y }) := Gr.of (Gr.comp Gr.snd Gr.id_ rfl) (fun _ => rfl) (fun _ _ => rfl)
theorem Dv (a : Addr) (w : World) : (Instr.fieldAt 220 (.pointer (some a)) 1).run Tryz.prog w = .ok (.pointer (some (a.add 2))) w := by simp [Instr.fieldAt, run_underlying Tryz.underlying220, Instr.sureAddr, fieldPlace, Result.andThen]
structure Qe where
 TieHarness : TieHarness
 deriving DecidableEq, Inhabited
instance : GoT Qe := GoT.struct Qe (β := TieHarness) (fun x => x.TieHarness)
theorem H7 : Gr (α := Qe) 0 Qe.TieHarness (fun x y => { x with TieHarness := y }) := Gr.of Gr.id_ (fun _ => rfl) (fun _ _ => rfl)
theorem Cb (a : Addr) (w : World) : (Instr.fieldAt 237 (.pointer (some a)) 0).run Tryz.prog w = .ok (.pointer (some (a.add 0))) w := by simp [Instr.fieldAt, run_underlying Tryz.underlying237, Instr.sureAddr, fieldPlace, Result.andThen]
end Go.Proofs.YtmebkoemfjlbcaaGreatDoor
