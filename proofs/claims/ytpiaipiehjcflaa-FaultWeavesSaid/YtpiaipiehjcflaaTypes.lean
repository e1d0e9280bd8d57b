/- The types of this seat, as data: structures, how they lie in memory, their parts. Printed by gtypes.py. -/
import Derived.Test.YtpiaipiehjcflaaShort
import Derived.Test.YtpiaipiehjcflaaProg
namespace Go.Proofs.Ytpiaipiehjcflaa
open Go.RowKit
theorem SubS.of {α β γ : Type} [GoT β] [GoT γ] {to : α → β} {off : Nat} {f : α → γ} {st : α → γ → α} {f' : β → γ} {s' : β → γ → β} (h : SubS off f' s') (h1 : ∀ x, f' (to x) = f x) (h2 : ∀ x y, to (st x y) = s' (to x) y) : @SubS α γ (GoT.struct α to) _ off f st := by
  refine ⟨⟨h.1.1, fun m w x cs hr => ?_⟩, fun m w x y cs cy hr hy => ?_⟩
  · rw [← h1]; exact h.1.2 m w (to x) cs hr
  · show GoT.rep m w (to (st x y)) _; rw [h2]; exact h.2 m w (to x) y cs cy hr hy
structure TieHarness where
  Hooks : Int
  Warps : List Int
  deriving DecidableEq, Inhabited
instance : GoT TieHarness := GoT.struct TieHarness (β := Int × (List Int)) (fun x => (x.Hooks, x.Warps))
theorem part_TieHarness_0 : SubS (α := TieHarness) 0 TieHarness.Hooks (fun x y => { x with Hooks := y }) := SubS.of SubS.fst (fun _ => rfl) (fun _ _ => rfl)
theorem at_24_0 (a : Addr) (w : World) : (Instr.fieldAt 24 (.pointer (some a)) 0).run Try.prog w = .ok (.pointer (some (a.add 0))) w := by simp [Instr.fieldAt, run_underlying Try.underlying24, Instr.sureAddr, fieldPlace, Result.andThen]
theorem part_TieHarness_1 : SubS (α := TieHarness) 1 TieHarness.Warps (fun x y => { x with Warps := y }) := SubS.of (SubS.comp SubS.snd SubS.id_ rfl) (fun _ => rfl) (fun _ _ => rfl)
theorem at_24_1 (a : Addr) (w : World) : (Instr.fieldAt 24 (.pointer (some a)) 1).run Try.prog w = .ok (.pointer (some (a.add 1))) w := by simp [Instr.fieldAt, run_underlying Try.underlying24, Instr.sureAddr, fieldPlace, Result.andThen]
structure Design where
  Hooks : Int
  Rows : List Int
  deriving DecidableEq, Inhabited
instance : GoT Design := GoT.struct Design (β := Int × (List Int)) (fun x => (x.Hooks, x.Rows))
theorem part_Design_0 : SubS (α := Design) 0 Design.Hooks (fun x y => { x with Hooks := y }) := SubS.of SubS.fst (fun _ => rfl) (fun _ _ => rfl)
theorem at_26_0 (a : Addr) (w : World) : (Instr.fieldAt 26 (.pointer (some a)) 0).run Try.prog w = .ok (.pointer (some (a.add 0))) w := by simp [Instr.fieldAt, run_underlying Try.underlying26, Instr.sureAddr, fieldPlace, Result.andThen]
theorem part_Design_1 : SubS (α := Design) 1 Design.Rows (fun x y => { x with Rows := y }) := SubS.of (SubS.comp SubS.snd SubS.id_ rfl) (fun _ => rfl) (fun _ _ => rfl)
theorem at_26_1 (a : Addr) (w : World) : (Instr.fieldAt 26 (.pointer (some a)) 1).run Try.prog w = .ok (.pointer (some (a.add 1))) w := by simp [Instr.fieldAt, run_underlying Try.underlying26, Instr.sureAddr, fieldPlace, Result.andThen]
structure FaultLoom where
  Harness : TieHarness
  Design : Design
  deriving DecidableEq, Inhabited
instance : GoT FaultLoom := GoT.struct FaultLoom (β := TieHarness × Design) (fun x => (x.Harness, x.Design))
theorem part_FaultLoom_0 : SubS (α := FaultLoom) 0 FaultLoom.Harness (fun x y => { x with Harness := y }) := SubS.of SubS.fst (fun _ => rfl) (fun _ _ => rfl)
theorem at_28_0 (a : Addr) (w : World) : (Instr.fieldAt 28 (.pointer (some a)) 0).run Try.prog w = .ok (.pointer (some (a.add 0))) w := by simp [Instr.fieldAt, run_underlying Try.underlying28, Instr.sureAddr, fieldPlace, Result.andThen]
theorem part_FaultLoom_1 : SubS (α := FaultLoom) 2 FaultLoom.Design (fun x y => { x with Design := y }) := SubS.of (SubS.comp SubS.snd SubS.id_ rfl) (fun _ => rfl) (fun _ _ => rfl)
theorem at_28_1 (a : Addr) (w : World) : (Instr.fieldAt 28 (.pointer (some a)) 1).run Try.prog w = .ok (.pointer (some (a.add 2))) w := by simp [Instr.fieldAt, run_underlying Try.underlying28, Instr.sureAddr, fieldPlace, Result.andThen]
structure FaultSight where
  Pick : Int
  Warp : Int
  Lifted : Bool
  deriving DecidableEq, Inhabited
instance : GoT FaultSight := GoT.struct FaultSight (β := Int × Int × Bool) (fun x => (x.Pick, x.Warp, x.Lifted))
theorem part_FaultSight_0 : SubS (α := FaultSight) 0 FaultSight.Pick (fun x y => { x with Pick := y }) := SubS.of SubS.fst (fun _ => rfl) (fun _ _ => rfl)
theorem at_56_0 (a : Addr) (w : World) : (Instr.fieldAt 56 (.pointer (some a)) 0).run Try.prog w = .ok (.pointer (some (a.add 0))) w := by simp [Instr.fieldAt, run_underlying Try.underlying56, Instr.sureAddr, fieldPlace, Result.andThen]
theorem part_FaultSight_1 : SubS (α := FaultSight) 1 FaultSight.Warp (fun x y => { x with Warp := y }) := SubS.of (SubS.comp SubS.snd SubS.fst rfl) (fun _ => rfl) (fun _ _ => rfl)
theorem at_56_1 (a : Addr) (w : World) : (Instr.fieldAt 56 (.pointer (some a)) 1).run Try.prog w = .ok (.pointer (some (a.add 1))) w := by simp [Instr.fieldAt, run_underlying Try.underlying56, Instr.sureAddr, fieldPlace, Result.andThen]
theorem part_FaultSight_2 : SubS (α := FaultSight) 2 FaultSight.Lifted (fun x y => { x with Lifted := y }) := SubS.of (SubS.comp SubS.snd (SubS.comp SubS.snd SubS.id_ rfl) rfl) (fun _ => rfl) (fun _ _ => rfl)
theorem at_56_2 (a : Addr) (w : World) : (Instr.fieldAt 56 (.pointer (some a)) 2).run Try.prog w = .ok (.pointer (some (a.add 2))) w := by simp [Instr.fieldAt, run_underlying Try.underlying56, Instr.sureAddr, fieldPlace, Result.andThen]
structure FaultDamage where
  Kind : Int
  Pick : Int
  Hook : Int
  Warp : Int
  Up : Bool
  deriving DecidableEq, Inhabited
instance : GoT FaultDamage := GoT.struct FaultDamage (β := Int × Int × Int × Int × Bool) (fun x => (x.Kind, x.Pick, x.Hook, x.Warp, x.Up))
theorem part_FaultDamage_0 : SubS (α := FaultDamage) 0 FaultDamage.Kind (fun x y => { x with Kind := y }) := SubS.of SubS.fst (fun _ => rfl) (fun _ _ => rfl)
theorem at_62_0 (a : Addr) (w : World) : (Instr.fieldAt 62 (.pointer (some a)) 0).run Try.prog w = .ok (.pointer (some (a.add 0))) w := by simp [Instr.fieldAt, run_underlying Try.underlying62, Instr.sureAddr, fieldPlace, Result.andThen]
theorem part_FaultDamage_1 : SubS (α := FaultDamage) 1 FaultDamage.Pick (fun x y => { x with Pick := y }) := SubS.of (SubS.comp SubS.snd SubS.fst rfl) (fun _ => rfl) (fun _ _ => rfl)
theorem at_62_1 (a : Addr) (w : World) : (Instr.fieldAt 62 (.pointer (some a)) 1).run Try.prog w = .ok (.pointer (some (a.add 1))) w := by simp [Instr.fieldAt, run_underlying Try.underlying62, Instr.sureAddr, fieldPlace, Result.andThen]
theorem part_FaultDamage_2 : SubS (α := FaultDamage) 2 FaultDamage.Hook (fun x y => { x with Hook := y }) := SubS.of (SubS.comp SubS.snd (SubS.comp SubS.snd SubS.fst rfl) rfl) (fun _ => rfl) (fun _ _ => rfl)
theorem at_62_2 (a : Addr) (w : World) : (Instr.fieldAt 62 (.pointer (some a)) 2).run Try.prog w = .ok (.pointer (some (a.add 2))) w := by simp [Instr.fieldAt, run_underlying Try.underlying62, Instr.sureAddr, fieldPlace, Result.andThen]
theorem part_FaultDamage_3 : SubS (α := FaultDamage) 3 FaultDamage.Warp (fun x y => { x with Warp := y }) := SubS.of (SubS.comp SubS.snd (SubS.comp SubS.snd (SubS.comp SubS.snd SubS.fst rfl) rfl) rfl) (fun _ => rfl) (fun _ _ => rfl)
theorem at_62_3 (a : Addr) (w : World) : (Instr.fieldAt 62 (.pointer (some a)) 3).run Try.prog w = .ok (.pointer (some (a.add 3))) w := by simp [Instr.fieldAt, run_underlying Try.underlying62, Instr.sureAddr, fieldPlace, Result.andThen]
theorem part_FaultDamage_4 : SubS (α := FaultDamage) 4 FaultDamage.Up (fun x y => { x with Up := y }) := SubS.of (SubS.comp SubS.snd (SubS.comp SubS.snd (SubS.comp SubS.snd (SubS.comp SubS.snd SubS.id_ rfl) rfl) rfl) rfl) (fun _ => rfl) (fun _ _ => rfl)
theorem at_62_4 (a : Addr) (w : World) : (Instr.fieldAt 62 (.pointer (some a)) 4).run Try.prog w = .ok (.pointer (some (a.add 4))) w := by simp [Instr.fieldAt, run_underlying Try.underlying62, Instr.sureAddr, fieldPlace, Result.andThen]
structure Pair where
  A : FaultDamage
  B : FaultDamage
  deriving DecidableEq, Inhabited
instance : GoT Pair := GoT.struct Pair (β := FaultDamage × FaultDamage) (fun x => (x.A, x.B))
structure Mill where
  Hooks : UInt8
  Warps : List UInt8
  Rows : List UInt16
  Damages : List (Vector UInt8 4)
  deriving DecidableEq
instance : GoT Mill := GoT.struct Mill (β := UInt8 × (List UInt8) × (List UInt16) × (List (Vector UInt8 4))) (fun x => (x.Hooks, x.Warps, x.Rows, x.Damages))
structure FaultFaultLoom where
  FaultLoom : FaultLoom
  deriving DecidableEq, Inhabited
instance : GoT FaultFaultLoom := GoT.struct FaultFaultLoom (β := FaultLoom) (fun x => x.FaultLoom)
theorem part_FaultFaultLoom_0 : SubS (α := FaultFaultLoom) 0 FaultFaultLoom.FaultLoom (fun x y => { x with FaultLoom := y }) := SubS.of SubS.id_ (fun _ => rfl) (fun _ _ => rfl)
theorem at_98_0 (a : Addr) (w : World) : (Instr.fieldAt 98 (.pointer (some a)) 0).run Try.prog w = .ok (.pointer (some (a.add 0))) w := by simp [Instr.fieldAt, run_underlying Try.underlying98, Instr.sureAddr, fieldPlace, Result.andThen]
structure TieTieHarness where
  TieHarness : TieHarness
  deriving DecidableEq, Inhabited
instance : GoT TieTieHarness := GoT.struct TieTieHarness (β := TieHarness) (fun x => x.TieHarness)
theorem part_TieTieHarness_0 : SubS (α := TieTieHarness) 0 TieTieHarness.TieHarness (fun x y => { x with TieHarness := y }) := SubS.of SubS.id_ (fun _ => rfl) (fun _ _ => rfl)
theorem at_145_0 (a : Addr) (w : World) : (Instr.fieldAt 145 (.pointer (some a)) 0).run Try.prog w = .ok (.pointer (some (a.add 0))) w := by simp [Instr.fieldAt, run_underlying Try.underlying145, Instr.sureAddr, fieldPlace, Result.andThen]
end Go.Proofs.Ytpiaipiehjcflaa
