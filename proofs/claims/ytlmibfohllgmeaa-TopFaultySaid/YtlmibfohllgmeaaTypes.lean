/- The types of this seat, as data: structures, how they lie in memory, their parts. Printed by gtypes.py. -/
import Derived.Test.YtlmibfohllgmeaaMe
import Derived.Test.YtlmibfohllgmeaaProg
namespace Go.Proofs.Ytlmibfohllgmeaa
open Go.RowKit
theorem Gy.of {α β γ : Type} [GoT β] [GoT γ] {to : α → β} {off : Nat} {f : α → γ} {st : α → γ → α} {f' : β → γ} {s' : β → γ → β} (h : Gy off f' s') (h1 : ∀ x, f' (to x) = f x) (h2 : ∀ x y, to (st x y) = s' (to x) y) : @Gy α γ (GoT.struct α to) _ off f st := by
 refine ⟨⟨h.1.1, fun m w x cs hr => ?_⟩, fun m w x y cs cy hr hy => ?_⟩
 ·rw [← h1]; exact h.1.2 m w (to x) cs hr
 ·show GoT.rep m w (to (st x y)) _; rw [h2]; exact h.2 m w (to x) y cs cy hr hy
structure Gc where
 Number : Int
 Row : Int
 Turned : Bool
 deriving DecidableEq, Inhabited
instance : GoT Gc := GoT.struct Gc (β := Int × Int × Bool) (fun x => (x.Number, x.Row, x.Turned))
theorem Jc : Gy (α := Gc) 0 Gc.Number (fun x y => { x with Number := y }) := Gy.of Gy.fst (fun _ => rfl) (fun _ _ => rfl)
theorem Sx (a : Addr) (w : World) : (Instr.fieldAt 60 (.pointer (some a)) 0).run Try.prog w = .ok (.pointer (some (a.add 0))) w := by simp [Instr.fieldAt, run_underlying Try.underlying60, Instr.sureAddr, fieldPlace, Result.andThen]
theorem Jw : Gy (α := Gc) 1 Gc.Row (fun x y => { x with Row := y }) := Gy.of (Gy.comp Gy.snd Gy.fst rfl) (fun _ => rfl) (fun _ _ => rfl)
theorem Ll (a : Addr) (w : World) : (Instr.fieldAt 60 (.pointer (some a)) 1).run Try.prog w = .ok (.pointer (some (a.add 1))) w := by simp [Instr.fieldAt, run_underlying Try.underlying60, Instr.sureAddr, fieldPlace, Result.andThen]
theorem Bm : Gy (α := Gc) 2 Gc.Turned (fun x y => { x with Turned := y }) := Gy.of (Gy.comp Gy.snd (Gy.comp Gy.snd Gy.id_ rfl) rfl) (fun _ => rfl) (fun _ _ => rfl)
theorem at_60_2 (a : Addr) (w : World) : (Instr.fieldAt 60 (.pointer (some a)) 2).run Try.prog w = .ok (.pointer (some (a.add 2))) w := by simp [Instr.fieldAt, run_underlying Try.underlying60, Instr.sureAddr, fieldPlace, Result.andThen]
structure ChainBelt where
 Hooks : Int
 Cards : List Gc
 deriving DecidableEq, Inhabited
instance : GoT ChainBelt := GoT.struct ChainBelt (β := Int × (List Gc)) (fun x => (x.Hooks, x.Cards))
theorem Uu : Gy (α := ChainBelt) 0 ChainBelt.Hooks (fun x y => { x with Hooks := y }) := Gy.of Gy.fst (fun _ => rfl) (fun _ _ => rfl)
theorem Mu (a : Addr) (w : World) : (Instr.fieldAt 27 (.pointer (some a)) 0).run Try.prog w = .ok (.pointer (some (a.add 0))) w := by simp [Instr.fieldAt, run_underlying Try.underlying27, Instr.sureAddr, fieldPlace, Result.andThen]
theorem Tc : Gy (α := ChainBelt) 1 ChainBelt.Cards (fun x y => { x with Cards := y }) := Gy.of (Gy.comp Gy.snd Gy.id_ rfl) (fun _ => rfl) (fun _ _ => rfl)
theorem Wm (a : Addr) (w : World) : (Instr.fieldAt 27 (.pointer (some a)) 1).run Try.prog w = .ok (.pointer (some (a.add 1))) w := by simp [Instr.fieldAt, run_underlying Try.underlying27, Instr.sureAddr, fieldPlace, Result.andThen]
structure Qp where
 Hooks : Int
 Rows : List Int
 deriving DecidableEq, Inhabited
instance : GoT Qp := GoT.struct Qp (β := Int × (List Int)) (fun x => (x.Hooks, x.Rows))
theorem Uh : Gy (α := Qp) 0 Qp.Hooks (fun x y => { x with Hooks := y }) := Gy.of Gy.fst (fun _ => rfl) (fun _ _ => rfl)
theorem Li (a : Addr) (w : World) : (Instr.fieldAt 33 (.pointer (some a)) 0).run Try.prog w = .ok (.pointer (some (a.add 0))) w := by simp [Instr.fieldAt, run_underlying Try.underlying33, Instr.sureAddr, fieldPlace, Result.andThen]
theorem Hs : Gy (α := Qp) 1 Qp.Rows (fun x y => { x with Rows := y }) := Gy.of (Gy.comp Gy.snd Gy.id_ rfl) (fun _ => rfl) (fun _ _ => rfl)
theorem Xs (a : Addr) (w : World) : (Instr.fieldAt 33 (.pointer (some a)) 1).run Try.prog w = .ok (.pointer (some (a.add 1))) w := by simp [Instr.fieldAt, run_underlying Try.underlying33, Instr.sureAddr, fieldPlace, Result.andThen]
structure Gr where
 From : Int
 Rate : Int
 deriving DecidableEq, Inhabited
instance : GoT Gr := GoT.struct Gr (β := Int × Int) (fun x => (x.From, x.Rate))
theorem Yy : Gy (α := Gr) 0 Gr.From (fun x y => { x with From := y }) := Gy.of Gy.fst (fun _ => rfl) (fun _ _ => rfl)
theorem Lc (a : Addr) (w : World) : (Instr.fieldAt 64 (.pointer (some a)) 0).run Try.prog w = .ok (.pointer (some (a.add 0))) w := by simp [Instr.fieldAt, run_underlying Try.underlying64, Instr.sureAddr, fieldPlace, Result.andThen]
theorem Vo : Gy (α := Gr) 1 Gr.Rate (fun x y => { x with Rate := y }) := Gy.of (Gy.comp Gy.snd Gy.id_ rfl) (fun _ => rfl) (fun _ _ => rfl)
theorem My (a : Addr) (w : World) : (Instr.fieldAt 64 (.pointer (some a)) 1).run Try.prog w = .ok (.pointer (some (a.add 1))) w := by simp [Instr.fieldAt, run_underlying Try.underlying64, Instr.sureAddr, fieldPlace, Result.andThen]
structure PayList where
 Rates : List Gr
 Extras : List Int
 Fine : Int
 Cap : Int
 deriving DecidableEq, Inhabited
instance : GoT PayList := GoT.struct PayList (β := (List Gr) × (List Int) × Int × Int) (fun x => (x.Rates, x.Extras, x.Fine, x.Cap))
theorem Kf : Gy (α := PayList) 0 PayList.Rates (fun x y => { x with Rates := y }) := Gy.of Gy.fst (fun _ => rfl) (fun _ _ => rfl)
theorem Vg (a : Addr) (w : World) : (Instr.fieldAt 37 (.pointer (some a)) 0).run Try.prog w = .ok (.pointer (some (a.add 0))) w := by simp [Instr.fieldAt, run_underlying Try.underlying37, Instr.sureAddr, fieldPlace, Result.andThen]
theorem Hg : Gy (α := PayList) 1 PayList.Extras (fun x y => { x with Extras := y }) := Gy.of (Gy.comp Gy.snd Gy.fst rfl) (fun _ => rfl) (fun _ _ => rfl)
theorem Xq (a : Addr) (w : World) : (Instr.fieldAt 37 (.pointer (some a)) 1).run Try.prog w = .ok (.pointer (some (a.add 1))) w := by simp [Instr.fieldAt, run_underlying Try.underlying37, Instr.sureAddr, fieldPlace, Result.andThen]
theorem Xj : Gy (α := PayList) 2 PayList.Fine (fun x y => { x with Fine := y }) := Gy.of (Gy.comp Gy.snd (Gy.comp Gy.snd Gy.fst rfl) rfl) (fun _ => rfl) (fun _ _ => rfl)
theorem Mq (a : Addr) (w : World) : (Instr.fieldAt 37 (.pointer (some a)) 2).run Try.prog w = .ok (.pointer (some (a.add 2))) w := by simp [Instr.fieldAt, run_underlying Try.underlying37, Instr.sureAddr, fieldPlace, Result.andThen]
theorem Xn : Gy (α := PayList) 3 PayList.Cap (fun x y => { x with Cap := y }) := Gy.of (Gy.comp Gy.snd (Gy.comp Gy.snd (Gy.comp Gy.snd Gy.id_ rfl) rfl) rfl) (fun _ => rfl) (fun _ _ => rfl)
theorem Ni (a : Addr) (w : World) : (Instr.fieldAt 37 (.pointer (some a)) 3).run Try.prog w = .ok (.pointer (some (a.add 3))) w := by simp [Instr.fieldAt, run_underlying Try.underlying37, Instr.sureAddr, fieldPlace, Result.andThen]
structure Th where
 Weaver : Int
 Dense : Int
 Picks : Int
 Extras : List Int
 Faults : Int
 deriving DecidableEq, Inhabited
instance : GoT Th := GoT.struct Th (β := Int × Int × Int × (List Int) × Int) (fun x => (x.Weaver, x.Dense, x.Picks, x.Extras, x.Faults))
theorem Sp : Gy (α := Th) 0 Th.Weaver (fun x y => { x with Weaver := y }) := Gy.of Gy.fst (fun _ => rfl) (fun _ _ => rfl)
theorem at_46_0 (a : Addr) (w : World) : (Instr.fieldAt 46 (.pointer (some a)) 0).run Try.prog w = .ok (.pointer (some (a.add 0))) w := by simp [Instr.fieldAt, run_underlying Try.underlying46, Instr.sureAddr, fieldPlace, Result.andThen]
theorem Vj : Gy (α := Th) 1 Th.Dense (fun x y => { x with Dense := y }) := Gy.of (Gy.comp Gy.snd Gy.fst rfl) (fun _ => rfl) (fun _ _ => rfl)
theorem Ng (a : Addr) (w : World) : (Instr.fieldAt 46 (.pointer (some a)) 1).run Try.prog w = .ok (.pointer (some (a.add 1))) w := by simp [Instr.fieldAt, run_underlying Try.underlying46, Instr.sureAddr, fieldPlace, Result.andThen]
theorem Vi : Gy (α := Th) 2 Th.Picks (fun x y => { x with Picks := y }) := Gy.of (Gy.comp Gy.snd (Gy.comp Gy.snd Gy.fst rfl) rfl) (fun _ => rfl) (fun _ _ => rfl)
theorem Mt (a : Addr) (w : World) : (Instr.fieldAt 46 (.pointer (some a)) 2).run Try.prog w = .ok (.pointer (some (a.add 2))) w := by simp [Instr.fieldAt, run_underlying Try.underlying46, Instr.sureAddr, fieldPlace, Result.andThen]
theorem Yk : Gy (α := Th) 3 Th.Extras (fun x y => { x with Extras := y }) := Gy.of (Gy.comp Gy.snd (Gy.comp Gy.snd (Gy.comp Gy.snd Gy.fst rfl) rfl) rfl) (fun _ => rfl) (fun _ _ => rfl)
theorem Fz (a : Addr) (w : World) : (Instr.fieldAt 46 (.pointer (some a)) 3).run Try.prog w = .ok (.pointer (some (a.add 3))) w := by simp [Instr.fieldAt, run_underlying Try.underlying46, Instr.sureAddr, fieldPlace, Result.andThen]
theorem Ji : Gy (α := Th) 4 Th.Faults (fun x y => { x with Faults := y }) := Gy.of (Gy.comp Gy.snd (Gy.comp Gy.snd (Gy.comp Gy.snd (Gy.comp Gy.snd Gy.id_ rfl) rfl) rfl) rfl) (fun _ => rfl) (fun _ _ => rfl)
theorem Rh (a : Addr) (w : World) : (Instr.fieldAt 46 (.pointer (some a)) 4).run Try.prog w = .ok (.pointer (some (a.add 4))) w := by simp [Instr.fieldAt, run_underlying Try.underlying46, Instr.sureAddr, fieldPlace, Result.andThen]
structure Kb where
 Low : Int
 High : Int
 deriving DecidableEq, Inhabited
instance : GoT Kb := GoT.struct Kb (β := Int × Int) (fun x => (x.Low, x.High))
theorem Xa : Gy (α := Kb) 0 Kb.Low (fun x y => { x with Low := y }) := Gy.of Gy.fst (fun _ => rfl) (fun _ _ => rfl)
theorem Lp (a : Addr) (w : World) : (Instr.fieldAt 51 (.pointer (some a)) 0).run Try.prog w = .ok (.pointer (some (a.add 0))) w := by simp [Instr.fieldAt, run_underlying Try.underlying51, Instr.sureAddr, fieldPlace, Result.andThen]
theorem Xc : Gy (α := Kb) 1 Kb.High (fun x y => { x with High := y }) := Gy.of (Gy.comp Gy.snd Gy.id_ rfl) (fun _ => rfl) (fun _ _ => rfl)
theorem Lr (a : Addr) (w : World) : (Instr.fieldAt 51 (.pointer (some a)) 1).run Try.prog w = .ok (.pointer (some (a.add 1))) w := by simp [Instr.fieldAt, run_underlying Try.underlying51, Instr.sureAddr, fieldPlace, Result.andThen]
structure Gb where
 ChainBelt : ChainBelt
 frame : Int
 deriving DecidableEq, Inhabited
instance : GoT Gb := GoT.struct Gb (β := ChainBelt × Int) (fun x => (x.ChainBelt, x.frame))
theorem Qe : Gy (α := Gb) 0 Gb.ChainBelt (fun x y => { x with ChainBelt := y }) := Gy.of Gy.fst (fun _ => rfl) (fun _ _ => rfl)
theorem Jr (a : Addr) (w : World) : (Instr.fieldAt 66 (.pointer (some a)) 0).run Try.prog w = .ok (.pointer (some (a.add 0))) w := by simp [Instr.fieldAt, run_underlying Try.underlying66, Instr.sureAddr, fieldPlace, Result.andThen]
theorem Kn : Gy (α := Gb) 2 Gb.frame (fun x y => { x with frame := y }) := Gy.of (Gy.comp Gy.snd Gy.id_ rfl) (fun _ => rfl) (fun _ _ => rfl)
theorem Rg (a : Addr) (w : World) : (Instr.fieldAt 66 (.pointer (some a)) 1).run Try.prog w = .ok (.pointer (some (a.add 2))) w := by simp [Instr.fieldAt, run_underlying Try.underlying66, Instr.sureAddr, fieldPlace, Result.andThen]
structure Gd where
 belt : Gb
 cloth : List Int
 deriving DecidableEq, Inhabited
instance : GoT Gd := GoT.struct Gd (β := Gb × (List Int)) (fun x => (x.belt, x.cloth))
theorem Wa : Gy (α := Gd) 0 Gd.belt (fun x y => { x with belt := y }) := Gy.of Gy.fst (fun _ => rfl) (fun _ _ => rfl)
theorem Ug (a : Addr) (w : World) : (Instr.fieldAt 73 (.pointer (some a)) 0).run Try.prog w = .ok (.pointer (some (a.add 0))) w := by simp [Instr.fieldAt, run_underlying Try.underlying73, Instr.sureAddr, fieldPlace, Result.andThen]
theorem Kt : Gy (α := Gd) 3 Gd.cloth (fun x y => { x with cloth := y }) := Gy.of (Gy.comp Gy.snd Gy.id_ rfl) (fun _ => rfl) (fun _ _ => rfl)
theorem Be (a : Addr) (w : World) : (Instr.fieldAt 73 (.pointer (some a)) 1).run Try.prog w = .ok (.pointer (some (a.add 3))) w := by simp [Instr.fieldAt, run_underlying Try.underlying73, Instr.sureAddr, fieldPlace, Result.andThen]
structure Gz where
 PayList : PayList
 deriving DecidableEq, Inhabited
instance : GoT Gz := GoT.struct Gz (β := PayList) (fun x => x.PayList)
theorem Wg : Gy (α := Gz) 0 Gz.PayList (fun x y => { x with PayList := y }) := Gy.of Gy.id_ (fun _ => rfl) (fun _ _ => rfl)
theorem Ub (a : Addr) (w : World) : (Instr.fieldAt 81 (.pointer (some a)) 0).run Try.prog w = .ok (.pointer (some (a.add 0))) w := by simp [Instr.fieldAt, run_underlying Try.underlying81, Instr.sureAddr, fieldPlace, Result.andThen]
structure Qb where
 Kind : Int
 Row : Int
 Column : Int
 Number : Int
 deriving DecidableEq, Inhabited
instance : GoT Qb := GoT.struct Qb (β := Int × Int × Int × Int) (fun x => (x.Kind, x.Row, x.Column, x.Number))
theorem Yi : Gy (α := Qb) 3 Qb.Number (fun x y => { x with Number := y }) := Gy.of (Gy.comp Gy.snd (Gy.comp Gy.snd (Gy.comp Gy.snd Gy.id_ rfl) rfl) rfl) (fun _ => rfl) (fun _ _ => rfl)
theorem Lb (a : Addr) (w : World) : (Instr.fieldAt 94 (.pointer (some a)) 3).run Try.prog w = .ok (.pointer (some (a.add 3))) w := by simp [Instr.fieldAt, run_underlying Try.underlying94, Instr.sureAddr, fieldPlace, Result.andThen]
structure PayTable where
 Rows : List (List Int)
 Across : List Int
 Down : List Int
 Total : Int
 deriving DecidableEq, Inhabited
instance : GoT PayTable := GoT.struct PayTable (β := (List (List Int)) × (List Int) × (List Int) × Int) (fun x => (x.Rows, x.Across, x.Down, x.Total))
theorem Qv : Gy (α := PayTable) 0 PayTable.Rows (fun x y => { x with Rows := y }) := Gy.of Gy.fst (fun _ => rfl) (fun _ _ => rfl)
theorem Kk (a : Addr) (w : World) : (Instr.fieldAt 98 (.pointer (some a)) 0).run Try.prog w = .ok (.pointer (some (a.add 0))) w := by simp [Instr.fieldAt, run_underlying Try.underlying98, Instr.sureAddr, fieldPlace, Result.andThen]
theorem Hr : Gy (α := PayTable) 1 PayTable.Across (fun x y => { x with Across := y }) := Gy.of (Gy.comp Gy.snd Gy.fst rfl) (fun _ => rfl) (fun _ _ => rfl)
theorem Xp (a : Addr) (w : World) : (Instr.fieldAt 98 (.pointer (some a)) 1).run Try.prog w = .ok (.pointer (some (a.add 1))) w := by simp [Instr.fieldAt, run_underlying Try.underlying98, Instr.sureAddr, fieldPlace, Result.andThen]
theorem Ks : Gy (α := PayTable) 2 PayTable.Down (fun x y => { x with Down := y }) := Gy.of (Gy.comp Gy.snd (Gy.comp Gy.snd Gy.fst rfl) rfl) (fun _ => rfl) (fun _ _ => rfl)
theorem Xt (a : Addr) (w : World) : (Instr.fieldAt 98 (.pointer (some a)) 2).run Try.prog w = .ok (.pointer (some (a.add 2))) w := by simp [Instr.fieldAt, run_underlying Try.underlying98, Instr.sureAddr, fieldPlace, Result.andThen]
theorem Jj : Gy (α := PayTable) 3 PayTable.Total (fun x y => { x with Total := y }) := Gy.of (Gy.comp Gy.snd (Gy.comp Gy.snd (Gy.comp Gy.snd Gy.id_ rfl) rfl) rfl) (fun _ => rfl) (fun _ _ => rfl)
theorem Rf (a : Addr) (w : World) : (Instr.fieldAt 98 (.pointer (some a)) 3).run Try.prog w = .ok (.pointer (some (a.add 3))) w := by simp [Instr.fieldAt, run_underlying Try.underlying98, Instr.sureAddr, fieldPlace, Result.andThen]
structure Gi where
 at_ : Int
 faults : Int
 deriving DecidableEq, Inhabited
instance : GoT Gi := GoT.struct Gi (β := Int × Int) (fun x => (x.at_, x.faults))
theorem Ht : Gy (α := Gi) 0 Gi.at_ (fun x y => { x with at_ := y }) := Gy.of Gy.fst (fun _ => rfl) (fun _ _ => rfl)
theorem Ad (a : Addr) (w : World) : (Instr.fieldAt 116 (.pointer (some a)) 0).run Try.prog w = .ok (.pointer (some (a.add 0))) w := by simp [Instr.fieldAt, run_underlying Try.underlying116, Instr.sureAddr, fieldPlace, Result.andThen]
theorem Hv : Gy (α := Gi) 1 Gi.faults (fun x y => { x with faults := y }) := Gy.of (Gy.comp Gy.snd Gy.id_ rfl) (fun _ => rfl) (fun _ _ => rfl)
theorem Pc (a : Addr) (w : World) : (Instr.fieldAt 116 (.pointer (some a)) 1).run Try.prog w = .ok (.pointer (some (a.add 1))) w := by simp [Instr.fieldAt, run_underlying Try.underlying116, Instr.sureAddr, fieldPlace, Result.andThen]
structure Gu where
 PayTable : PayTable
 deriving DecidableEq, Inhabited
instance : GoT Gu := GoT.struct Gu (β := PayTable) (fun x => x.PayTable)
theorem Ta : Gy (α := Gu) 0 Gu.PayTable (fun x y => { x with PayTable := y }) := Gy.of Gy.id_ (fun _ => rfl) (fun _ _ => rfl)
theorem Qi (a : Addr) (w : World) : (Instr.fieldAt 119 (.pointer (some a)) 0).run Try.prog w = .ok (.pointer (some (a.add 0))) w := by simp [Instr.fieldAt, run_underlying Try.underlying119, Instr.sureAddr, fieldPlace, Result.andThen]
structure Qz where
 row : Int
 column : Int
 deriving DecidableEq, Inhabited
instance : GoT Qz := GoT.struct Qz (β := Int × Int) (fun x => (x.row, x.column))
end Go.Proofs.Ytlmibfohllgmeaa
