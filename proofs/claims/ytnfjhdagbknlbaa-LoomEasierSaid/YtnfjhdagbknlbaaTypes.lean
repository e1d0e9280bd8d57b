/- The types of this seat, as data: structures, how they lie in memory, their parts. Printed by gtypes.py. -/
import Derived.Test.YtnfjhdagbknlbaaCu
import Derived.Test.YtnfjhdagbknlbaaProg
namespace Go.Proofs.Ytnfjhdagbknlbaa
open Go.RowKit
theorem SubS.of {α β γ : Type} [GoT β] [GoT γ] {to : α → β} {off : Nat} {f : α → γ} {st : α → γ → α} {f' : β → γ} {s' : β → γ → β} (h : SubS off f' s') (h1 : ∀ x, f' (to x) = f x) (h2 : ∀ x y, to (st x y) = s' (to x) y) : @SubS α γ (GoT.struct α to) _ off f st := by
 refine ⟨⟨h.1.1, fun m w x cs hr => ?_⟩, fun m w x y cs cy hr hy => ?_⟩
 ·rw [← h1]; exact h.1.2 m w (to x) cs hr
 ·show GoT.rep m w (to (st x y)) _; rw [h2]; exact h.2 m w (to x) y cs cy hr hy
structure LoomMill where
 Widths : List Int
 Change : Int
 deriving DecidableEq, Inhabited
instance : GoT LoomMill := GoT.struct LoomMill (β := (List Int) × Int) (fun x => (x.Widths, x.Change))
theorem part_LoomMill_0 : SubS (α := LoomMill) 0 LoomMill.Widths (fun x y => { x with Widths := y }) := SubS.of SubS.fst (fun _ => rfl) (fun _ _ => rfl)
theorem at_24_0 (a : Addr) (w : World) : (Instr.fieldAt 24 (.pointer (some a)) 0).run Try.prog w = .ok (.pointer (some (a.add 0))) w := by simp [Instr.fieldAt, run_underlying Try.underlying24, Instr.sureAddr, fieldPlace, Result.andThen]
theorem part_LoomMill_1 : SubS (α := LoomMill) 1 LoomMill.Change (fun x y => { x with Change := y }) := SubS.of (SubS.comp SubS.snd SubS.id_ rfl) (fun _ => rfl) (fun _ _ => rfl)
theorem at_24_1 (a : Addr) (w : World) : (Instr.fieldAt 24 (.pointer (some a)) 1).run Try.prog w = .ok (.pointer (some (a.add 1))) w := by simp [Instr.fieldAt, run_underlying Try.underlying24, Instr.sureAddr, fieldPlace, Result.andThen]
structure Span where
 Low : Int
 High : Int
 deriving DecidableEq, Inhabited
instance : GoT Span := GoT.struct Span (β := Int × Int) (fun x => (x.Low, x.High))
theorem part_Span_0 : SubS (α := Span) 0 Span.Low (fun x y => { x with Low := y }) := SubS.of SubS.fst (fun _ => rfl) (fun _ _ => rfl)
theorem at_48_0 (a : Addr) (w : World) : (Instr.fieldAt 48 (.pointer (some a)) 0).run Try.prog w = .ok (.pointer (some (a.add 0))) w := by simp [Instr.fieldAt, run_underlying Try.underlying48, Instr.sureAddr, fieldPlace, Result.andThen]
theorem part_Span_1 : SubS (α := Span) 1 Span.High (fun x y => { x with High := y }) := SubS.of (SubS.comp SubS.snd SubS.id_ rfl) (fun _ => rfl) (fun _ _ => rfl)
theorem at_48_1 (a : Addr) (w : World) : (Instr.fieldAt 48 (.pointer (some a)) 1).run Try.prog w = .ok (.pointer (some (a.add 1))) w := by simp [Instr.fieldAt, run_underlying Try.underlying48, Instr.sureAddr, fieldPlace, Result.andThen]
structure LoomStop where
 Loom : Int
 Days : Span
 deriving DecidableEq, Inhabited
instance : GoT LoomStop := GoT.struct LoomStop (β := Int × Span) (fun x => (x.Loom, x.Days))
theorem part_LoomStop_0 : SubS (α := LoomStop) 0 LoomStop.Loom (fun x y => { x with Loom := y }) := SubS.of SubS.fst (fun _ => rfl) (fun _ _ => rfl)
theorem at_54_0 (a : Addr) (w : World) : (Instr.fieldAt 54 (.pointer (some a)) 0).run Try.prog w = .ok (.pointer (some (a.add 0))) w := by simp [Instr.fieldAt, run_underlying Try.underlying54, Instr.sureAddr, fieldPlace, Result.andThen]
theorem part_LoomStop_1 : SubS (α := LoomStop) 1 LoomStop.Days (fun x y => { x with Days := y }) := SubS.of (SubS.comp SubS.snd SubS.id_ rfl) (fun _ => rfl) (fun _ _ => rfl)
theorem at_54_1 (a : Addr) (w : World) : (Instr.fieldAt 54 (.pointer (some a)) 1).run Try.prog w = .ok (.pointer (some (a.add 1))) w := by simp [Instr.fieldAt, run_underlying Try.underlying54, Instr.sureAddr, fieldPlace, Result.andThen]
structure LoomRun where
 Order : Int
 Loom : Int
 From : Int
 deriving DecidableEq, Inhabited
instance : GoT LoomRun := GoT.struct LoomRun (β := Int × Int × Int) (fun x => (x.Order, x.Loom, x.From))
theorem part_LoomRun_0 : SubS (α := LoomRun) 0 LoomRun.Order (fun x y => { x with Order := y }) := SubS.of SubS.fst (fun _ => rfl) (fun _ _ => rfl)
theorem at_76_0 (a : Addr) (w : World) : (Instr.fieldAt 76 (.pointer (some a)) 0).run Try.prog w = .ok (.pointer (some (a.add 0))) w := by simp [Instr.fieldAt, run_underlying Try.underlying76, Instr.sureAddr, fieldPlace, Result.andThen]
theorem part_LoomRun_1 : SubS (α := LoomRun) 1 LoomRun.Loom (fun x y => { x with Loom := y }) := SubS.of (SubS.comp SubS.snd SubS.fst rfl) (fun _ => rfl) (fun _ _ => rfl)
theorem at_76_1 (a : Addr) (w : World) : (Instr.fieldAt 76 (.pointer (some a)) 1).run Try.prog w = .ok (.pointer (some (a.add 1))) w := by simp [Instr.fieldAt, run_underlying Try.underlying76, Instr.sureAddr, fieldPlace, Result.andThen]
theorem part_LoomRun_2 : SubS (α := LoomRun) 2 LoomRun.From (fun x y => { x with From := y }) := SubS.of (SubS.comp SubS.snd (SubS.comp SubS.snd SubS.id_ rfl) rfl) (fun _ => rfl) (fun _ _ => rfl)
theorem at_76_2 (a : Addr) (w : World) : (Instr.fieldAt 76 (.pointer (some a)) 2).run Try.prog w = .ok (.pointer (some (a.add 2))) w := by simp [Instr.fieldAt, run_underlying Try.underlying76, Instr.sureAddr, fieldPlace, Result.andThen]
structure Standing where
 Plan : List LoomRun
 Stop : LoomStop
 deriving DecidableEq, Inhabited
instance : GoT Standing := GoT.struct Standing (β := (List LoomRun) × LoomStop) (fun x => (x.Plan, x.Stop))
structure Hall where
 Widths : Vector UInt8 3
 Looms : UInt8
 Change : UInt8
 Orders : List (Vector UInt8 6)
 deriving DecidableEq
instance : GoT Hall := GoT.struct Hall (β := (Vector UInt8 3) × UInt8 × UInt8 × (List (Vector UInt8 6))) (fun x => (x.Widths, x.Looms, x.Change, x.Orders))
theorem part_Hall_0 : SubS (α := Hall) 0 Hall.Widths (fun x y => { x with Widths := y }) := SubS.of SubS.fst (fun _ => rfl) (fun _ _ => rfl)
theorem at_71_0 (a : Addr) (w : World) : (Instr.fieldAt 71 (.pointer (some a)) 0).run Try.prog w = .ok (.pointer (some (a.add 0))) w := by simp [Instr.fieldAt, run_underlying Try.underlying71, Instr.sureAddr, fieldPlace, Result.andThen]
theorem part_Hall_1 : SubS (α := Hall) 3 Hall.Looms (fun x y => { x with Looms := y }) := SubS.of (SubS.comp SubS.snd SubS.fst rfl) (fun _ => rfl) (fun _ _ => rfl)
theorem at_71_1 (a : Addr) (w : World) : (Instr.fieldAt 71 (.pointer (some a)) 1).run Try.prog w = .ok (.pointer (some (a.add 3))) w := by simp [Instr.fieldAt, run_underlying Try.underlying71, Instr.sureAddr, fieldPlace, Result.andThen]
theorem part_Hall_2 : SubS (α := Hall) 4 Hall.Change (fun x y => { x with Change := y }) := SubS.of (SubS.comp SubS.snd (SubS.comp SubS.snd SubS.fst rfl) rfl) (fun _ => rfl) (fun _ _ => rfl)
theorem at_71_2 (a : Addr) (w : World) : (Instr.fieldAt 71 (.pointer (some a)) 2).run Try.prog w = .ok (.pointer (some (a.add 4))) w := by simp [Instr.fieldAt, run_underlying Try.underlying71, Instr.sureAddr, fieldPlace, Result.andThen]
theorem part_Hall_3 : SubS (α := Hall) 5 Hall.Orders (fun x y => { x with Orders := y }) := SubS.of (SubS.comp SubS.snd (SubS.comp SubS.snd (SubS.comp SubS.snd SubS.id_ rfl) rfl) rfl) (fun _ => rfl) (fun _ _ => rfl)
theorem at_71_3 (a : Addr) (w : World) : (Instr.fieldAt 71 (.pointer (some a)) 3).run Try.prog w = .ok (.pointer (some (a.add 5))) w := by simp [Instr.fieldAt, run_underlying Try.underlying71, Instr.sureAddr, fieldPlace, Result.andThen]
structure LoomOrder where
 Width : Int
 Chain : Int
 Woven : Int
 Early : Int
 Late : Int
 deriving DecidableEq, Inhabited
instance : GoT LoomOrder := GoT.struct LoomOrder (β := Int × Int × Int × Int × Int) (fun x => (x.Width, x.Chain, x.Woven, x.Early, x.Late))
theorem part_LoomOrder_0 : SubS (α := LoomOrder) 0 LoomOrder.Width (fun x y => { x with Width := y }) := SubS.of SubS.fst (fun _ => rfl) (fun _ _ => rfl)
theorem at_82_0 (a : Addr) (w : World) : (Instr.fieldAt 82 (.pointer (some a)) 0).run Try.prog w = .ok (.pointer (some (a.add 0))) w := by simp [Instr.fieldAt, run_underlying Try.underlying82, Instr.sureAddr, fieldPlace, Result.andThen]
theorem part_LoomOrder_1 : SubS (α := LoomOrder) 1 LoomOrder.Chain (fun x y => { x with Chain := y }) := SubS.of (SubS.comp SubS.snd SubS.fst rfl) (fun _ => rfl) (fun _ _ => rfl)
theorem at_82_1 (a : Addr) (w : World) : (Instr.fieldAt 82 (.pointer (some a)) 1).run Try.prog w = .ok (.pointer (some (a.add 1))) w := by simp [Instr.fieldAt, run_underlying Try.underlying82, Instr.sureAddr, fieldPlace, Result.andThen]
theorem part_LoomOrder_2 : SubS (α := LoomOrder) 2 LoomOrder.Woven (fun x y => { x with Woven := y }) := SubS.of (SubS.comp SubS.snd (SubS.comp SubS.snd SubS.fst rfl) rfl) (fun _ => rfl) (fun _ _ => rfl)
theorem at_82_2 (a : Addr) (w : World) : (Instr.fieldAt 82 (.pointer (some a)) 2).run Try.prog w = .ok (.pointer (some (a.add 2))) w := by simp [Instr.fieldAt, run_underlying Try.underlying82, Instr.sureAddr, fieldPlace, Result.andThen]
theorem part_LoomOrder_3 : SubS (α := LoomOrder) 3 LoomOrder.Early (fun x y => { x with Early := y }) := SubS.of (SubS.comp SubS.snd (SubS.comp SubS.snd (SubS.comp SubS.snd SubS.fst rfl) rfl) rfl) (fun _ => rfl) (fun _ _ => rfl)
theorem at_82_3 (a : Addr) (w : World) : (Instr.fieldAt 82 (.pointer (some a)) 3).run Try.prog w = .ok (.pointer (some (a.add 3))) w := by simp [Instr.fieldAt, run_underlying Try.underlying82, Instr.sureAddr, fieldPlace, Result.andThen]
theorem part_LoomOrder_4 : SubS (α := LoomOrder) 4 LoomOrder.Late (fun x y => { x with Late := y }) := SubS.of (SubS.comp SubS.snd (SubS.comp SubS.snd (SubS.comp SubS.snd (SubS.comp SubS.snd SubS.id_ rfl) rfl) rfl) rfl) (fun _ => rfl) (fun _ _ => rfl)
theorem at_82_4 (a : Addr) (w : World) : (Instr.fieldAt 82 (.pointer (some a)) 4).run Try.prog w = .ok (.pointer (some (a.add 4))) w := by simp [Instr.fieldAt, run_underlying Try.underlying82, Instr.sureAddr, fieldPlace, Result.andThen]
structure LoomLoomMill where
 LoomMill : LoomMill
 orders : List LoomOrder
 deriving DecidableEq, Inhabited
instance : GoT LoomLoomMill := GoT.struct LoomLoomMill (β := LoomMill × (List LoomOrder)) (fun x => (x.LoomMill, x.orders))
theorem part_LoomLoomMill_0 : SubS (α := LoomLoomMill) 0 LoomLoomMill.LoomMill (fun x y => { x with LoomMill := y }) := SubS.of SubS.fst (fun _ => rfl) (fun _ _ => rfl)
theorem at_96_0 (a : Addr) (w : World) : (Instr.fieldAt 96 (.pointer (some a)) 0).run Try.prog w = .ok (.pointer (some (a.add 0))) w := by simp [Instr.fieldAt, run_underlying Try.underlying96, Instr.sureAddr, fieldPlace, Result.andThen]
theorem part_LoomLoomMill_1 : SubS (α := LoomLoomMill) 2 LoomLoomMill.orders (fun x y => { x with orders := y }) := SubS.of (SubS.comp SubS.snd SubS.id_ rfl) (fun _ => rfl) (fun _ _ => rfl)
theorem at_96_1 (a : Addr) (w : World) : (Instr.fieldAt 96 (.pointer (some a)) 1).run Try.prog w = .ok (.pointer (some (a.add 2))) w := by simp [Instr.fieldAt, run_underlying Try.underlying96, Instr.sureAddr, fieldPlace, Result.andThen]
structure LoomStill where
 mill : LoomLoomMill
 LoomStop : LoomStop
 deriving DecidableEq, Inhabited
instance : GoT LoomStill := GoT.struct LoomStill (β := LoomLoomMill × LoomStop) (fun x => (x.mill, x.LoomStop))
theorem part_LoomStill_0 : SubS (α := LoomStill) 0 LoomStill.mill (fun x y => { x with mill := y }) := SubS.of SubS.fst (fun _ => rfl) (fun _ _ => rfl)
theorem at_113_0 (a : Addr) (w : World) : (Instr.fieldAt 113 (.pointer (some a)) 0).run Try.prog w = .ok (.pointer (some (a.add 0))) w := by simp [Instr.fieldAt, run_underlying Try.underlying113, Instr.sureAddr, fieldPlace, Result.andThen]
theorem part_LoomStill_1 : SubS (α := LoomStill) 3 LoomStill.LoomStop (fun x y => { x with LoomStop := y }) := SubS.of (SubS.comp SubS.snd SubS.id_ rfl) (fun _ => rfl) (fun _ _ => rfl)
theorem at_113_1 (a : Addr) (w : World) : (Instr.fieldAt 113 (.pointer (some a)) 1).run Try.prog w = .ok (.pointer (some (a.add 3))) w := by simp [Instr.fieldAt, run_underlying Try.underlying113, Instr.sureAddr, fieldPlace, Result.andThen]
structure End where
 Chain : Int
 Ready : Int
 deriving DecidableEq, Inhabited
instance : GoT End := GoT.struct End (β := Int × Int) (fun x => (x.Chain, x.Ready))
end Go.Proofs.Ytnfjhdagbknlbaa
