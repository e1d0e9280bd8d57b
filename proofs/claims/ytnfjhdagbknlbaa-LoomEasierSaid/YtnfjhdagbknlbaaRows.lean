/-
  No cell of these rows narrows 'for every input' (looked for: loops, veiled, ifaces, maps, wideKeys, modest, calm, conditions, laid).
  DERIVED. THE GIVEN ROWS OF THIS SEAT. 9 by the template 'for every input the law returns true; each argument reads behind the call as it read before'; 0 by the template 'total and deterministic' (their statements: YtnfjhdagbknlbaaTotals.lean).
  GIVEN WITH THE SEED: the statements are not yours to turn. If you find one false, say at which input.
  Laid BY PROGRAM, IN A SANDBOX (cutbox-rows.mjs): the forced cells as the released guide's own fill.sh prints them over the translation 012dd4735e24c2fb… (all of the seat's roots in one cut). By AI agents, Wed Nov 11 2026. No macro, syntax, notation, axiom, sorry.
-/
import Derived.Test.YtnfjhdagbknlbaaChecked
import GoSem.Claim
import GoSem.ClaimJoined
import GoSem.ClaimMapViews
import Derived.JoinedTies
import Derived.KernelRfl
namespace Go.Proofs.Ytnfjhdagbknlbaa
/- THE CELL 'sum', in the pinned program and in every row, IS THE sha256 OF THE DUMP (.gsa) THAT YtnfjhdagbknlbaaProg.lean LOADS. Nothing in Lean hashes anything: it is a label: what it is worth is what the hold of that sum in a sandbox is worth. -/
noncomputable def Try.pinned : Pinned := { name := "ytnfjhdagbknlbaa", sum := "012dd4735e24c2fb828255d8e4561c2757819b0c9e3f28824a5ab09c9f58aa4b", checked := Try.checked }
namespace Rows
def none {H : Type} : Left H := { results := [], args := [] }

/-- 'griffelaw08.LoomPlans': WHATEVER THE INPUT: true; the input reads as it did. -/
def loomPlansSpec : ChangeSpec := { name := "loomPlans", fn := fun _ => fun
  | [d1, d2] => { results := [.lit (.bool true)], args := [d1, d2] }
  | _ => none }
def loomPlansRow : OpenClaim := { program := "ytnfjhdagbknlbaa", sum := "012dd4735e24c2fb828255d8e4561c2757819b0c9e3f28824a5ab09c9f58aa4b", func := "griffe/griffelaw08.LoomPlans", spec := "loomPlans", unfollowed := true, recurses := true, apart := false }
def LoomPlansSaid : Prop := loomPlansRow.holds Try.pinned (OpenSpec.ofChange loomPlansSpec)

/-- ITS FALSE NEIGHBOUR: 'it returns false'. Refute it at one input. -/
def loomPlansWrong : ChangeSpec := { name := "loomPlans", fn := fun _ => fun
  | [d1, d2] => { results := [.lit (.bool false)], args := [d1, d2] }
  | _ => none }
def LoomPlansWrongFalsely : Prop := loomPlansRow.holds Try.pinned (OpenSpec.ofChange loomPlansWrong)

/-- 'griffelaw08.LoomSets': WHATEVER THE INPUT: true; the input reads as it did. -/
def loomSetsSpec : ChangeSpec := { name := "loomSets", fn := fun _ => fun
  | [d1, d2] => { results := [.lit (.bool true)], args := [d1, d2] }
  | _ => none }
def loomSetsRow : OpenClaim := { program := "ytnfjhdagbknlbaa", sum := "012dd4735e24c2fb828255d8e4561c2757819b0c9e3f28824a5ab09c9f58aa4b", func := "griffe/griffelaw08.LoomSets", spec := "loomSets", unfollowed := true, recurses := true, apart := false }
def LoomSetsSaid : Prop := loomSetsRow.holds Try.pinned (OpenSpec.ofChange loomSetsSpec)

/-- ITS FALSE NEIGHBOUR: 'it returns false'. Refute it at one input. -/
def loomSetsWrong : ChangeSpec := { name := "loomSets", fn := fun _ => fun
  | [d1, d2] => { results := [.lit (.bool false)], args := [d1, d2] }
  | _ => none }
def LoomSetsWrongFalsely : Prop := loomSetsRow.holds Try.pinned (OpenSpec.ofChange loomSetsWrong)

/-- 'griffelaw08.LoomOvers': WHATEVER THE INPUT: true; the input reads as it did. -/
def loomOversSpec : ChangeSpec := { name := "loomOvers", fn := fun _ => fun
  | [d1, d2] => { results := [.lit (.bool true)], args := [d1, d2] }
  | _ => none }
def loomOversRow : OpenClaim := { program := "ytnfjhdagbknlbaa", sum := "012dd4735e24c2fb828255d8e4561c2757819b0c9e3f28824a5ab09c9f58aa4b", func := "griffe/griffelaw08.LoomOvers", spec := "loomOvers", unfollowed := true, recurses := true, apart := false }
def LoomOversSaid : Prop := loomOversRow.holds Try.pinned (OpenSpec.ofChange loomOversSpec)

/-- ITS FALSE NEIGHBOUR: 'it returns false'. Refute it at one input. -/
def loomOversWrong : ChangeSpec := { name := "loomOvers", fn := fun _ => fun
  | [d1, d2] => { results := [.lit (.bool false)], args := [d1, d2] }
  | _ => none }
def LoomOversWrongFalsely : Prop := loomOversRow.holds Try.pinned (OpenSpec.ofChange loomOversWrong)

/-- 'griffelaw08.LoomPushes': WHATEVER THE INPUT: true; the input reads as it did. -/
def loomPushesSpec : ChangeSpec := { name := "loomPushes", fn := fun _ => fun
  | [d1, d2, d3] => { results := [.lit (.bool true)], args := [d1, d2, d3] }
  | _ => none }
def loomPushesRow : OpenClaim := { program := "ytnfjhdagbknlbaa", sum := "012dd4735e24c2fb828255d8e4561c2757819b0c9e3f28824a5ab09c9f58aa4b", func := "griffe/griffelaw08.LoomPushes", spec := "loomPushes", unfollowed := true, recurses := true, apart := false }
def LoomPushesSaid : Prop := loomPushesRow.holds Try.pinned (OpenSpec.ofChange loomPushesSpec)

/-- ITS FALSE NEIGHBOUR: 'it returns false'. Refute it at one input. -/
def loomPushesWrong : ChangeSpec := { name := "loomPushes", fn := fun _ => fun
  | [d1, d2, d3] => { results := [.lit (.bool false)], args := [d1, d2, d3] }
  | _ => none }
def LoomPushesWrongFalsely : Prop := loomPushesRow.holds Try.pinned (OpenSpec.ofChange loomPushesWrong)

/-- 'griffelaw08.LoomInTime': WHATEVER THE INPUT: true; the input reads as it did. -/
def loomInTimeSpec : ChangeSpec := { name := "loomInTime", fn := fun _ => fun
  | [d] => { results := [.lit (.bool true)], args := [d] }
  | _ => none }
def loomInTimeRow : OpenClaim := { program := "ytnfjhdagbknlbaa", sum := "012dd4735e24c2fb828255d8e4561c2757819b0c9e3f28824a5ab09c9f58aa4b", func := "griffe/griffelaw08.LoomInTime", spec := "loomInTime", unfollowed := true, recurses := true, apart := false }
def LoomInTimeSaid : Prop := loomInTimeRow.holds Try.pinned (OpenSpec.ofChange loomInTimeSpec)

/-- ITS FALSE NEIGHBOUR: 'it returns false'. Refute it at one input. -/
def loomInTimeWrong : ChangeSpec := { name := "loomInTime", fn := fun _ => fun
  | [d] => { results := [.lit (.bool false)], args := [d] }
  | _ => none }
def LoomInTimeWrongFalsely : Prop := loomInTimeRow.holds Try.pinned (OpenSpec.ofChange loomInTimeWrong)

/-- 'griffelaw08.LoomAgainst': WHATEVER THE INPUT: true; the input reads as it did. -/
def loomAgainstSpec : ChangeSpec := { name := "loomAgainst", fn := fun _ => fun
  | [d1, d2, d3] => { results := [.lit (.bool true)], args := [d1, d2, d3] }
  | _ => none }
def loomAgainstRow : OpenClaim := { program := "ytnfjhdagbknlbaa", sum := "012dd4735e24c2fb828255d8e4561c2757819b0c9e3f28824a5ab09c9f58aa4b", func := "griffe/griffelaw08.LoomAgainst", spec := "loomAgainst", unfollowed := true, recurses := true, apart := false }
def LoomAgainstSaid : Prop := loomAgainstRow.holds Try.pinned (OpenSpec.ofChange loomAgainstSpec)

/-- ITS FALSE NEIGHBOUR: 'it returns false'. Refute it at one input. -/
def loomAgainstWrong : ChangeSpec := { name := "loomAgainst", fn := fun _ => fun
  | [d1, d2, d3] => { results := [.lit (.bool false)], args := [d1, d2, d3] }
  | _ => none }
def LoomAgainstWrongFalsely : Prop := loomAgainstRow.holds Try.pinned (OpenSpec.ofChange loomAgainstWrong)

/-- 'griffelaw08.LoomEasier': WHATEVER THE INPUT: true; the input reads as it did. -/
def loomEasierSpec : ChangeSpec := { name := "loomEasier", fn := fun _ => fun
  | [d1, d2, d3] => { results := [.lit (.bool true)], args := [d1, d2, d3] }
  | _ => none }
def loomEasierRow : OpenClaim := { program := "ytnfjhdagbknlbaa", sum := "012dd4735e24c2fb828255d8e4561c2757819b0c9e3f28824a5ab09c9f58aa4b", func := "griffe/griffelaw08.LoomEasier", spec := "loomEasier", unfollowed := true, recurses := true, apart := false }
def LoomEasierSaid : Prop := loomEasierRow.holds Try.pinned (OpenSpec.ofChange loomEasierSpec)

/-- ITS FALSE NEIGHBOUR: 'it returns false'. Refute it at one input. -/
def loomEasierWrong : ChangeSpec := { name := "loomEasier", fn := fun _ => fun
  | [d1, d2, d3] => { results := [.lit (.bool false)], args := [d1, d2, d3] }
  | _ => none }
def LoomEasierWrongFalsely : Prop := loomEasierRow.holds Try.pinned (OpenSpec.ofChange loomEasierWrong)

/-- 'griffelaw08.LoomStill': WHATEVER THE INPUT: true; the input reads as it did. -/
def loomStillSpec : ChangeSpec := { name := "loomStill", fn := fun _ => fun
  | [d1, d2, d3] => { results := [.lit (.bool true)], args := [d1, d2, d3] }
  | _ => none }
def loomStillRow : OpenClaim := { program := "ytnfjhdagbknlbaa", sum := "012dd4735e24c2fb828255d8e4561c2757819b0c9e3f28824a5ab09c9f58aa4b", func := "griffe/griffelaw08.LoomStill", spec := "loomStill", unfollowed := true, recurses := true, apart := false }
def LoomStillSaid : Prop := loomStillRow.holds Try.pinned (OpenSpec.ofChange loomStillSpec)

/-- ITS FALSE NEIGHBOUR: 'it returns false'. Refute it at one input. -/
def loomStillWrong : ChangeSpec := { name := "loomStill", fn := fun _ => fun
  | [d1, d2, d3] => { results := [.lit (.bool false)], args := [d1, d2, d3] }
  | _ => none }
def LoomStillWrongFalsely : Prop := loomStillRow.holds Try.pinned (OpenSpec.ofChange loomStillWrong)

/-- 'griffelaw08.LoomHolds': WHATEVER THE INPUT: true; the input reads as it did. -/
def loomHoldsSpec : ChangeSpec := { name := "loomHolds", fn := fun _ => fun
  | [d1, d2, d3] => { results := [.lit (.bool true)], args := [d1, d2, d3] }
  | _ => none }
def loomHoldsRow : OpenClaim := { program := "ytnfjhdagbknlbaa", sum := "012dd4735e24c2fb828255d8e4561c2757819b0c9e3f28824a5ab09c9f58aa4b", func := "griffe/griffelaw08.LoomHolds", spec := "loomHolds", unfollowed := true, recurses := true, apart := false }
def LoomHoldsSaid : Prop := loomHoldsRow.holds Try.pinned (OpenSpec.ofChange loomHoldsSpec)

/-- ITS FALSE NEIGHBOUR: 'it returns false'. Refute it at one input. -/
def loomHoldsWrong : ChangeSpec := { name := "loomHolds", fn := fun _ => fun
  | [d1, d2, d3] => { results := [.lit (.bool false)], args := [d1, d2, d3] }
  | _ => none }
def LoomHoldsWrongFalsely : Prop := loomHoldsRow.holds Try.pinned (OpenSpec.ofChange loomHoldsWrong)

/- THE SECOND FORM. 'bulk': how many values and letters a reading holds, each counted each time it is reached (what is shared counts as often as it is met; a slice's spare places count too). A statement '..UptoSaid' is the law's where the arguments, and the package variables that the reading takes, are together of bulk at most 1048576: NARROWER than '..Said'. Prove '..Said' where nothing that the law and all that it calls make is longer than what came in: it says more and counts as full. Else prove '..UptoSaid'. A law counts once. -/
mutual
def uptoBulk {H : Type} : DataW H → Nat
  | .lit (.string bytes) => bytes.length + 1
  | .lit _ => 1
  | .nil => 1
  | .ptr d => uptoBulk d + 1
  | .slice elems spare => uptoBulkAll elems + uptoBulkAll spare + 1
  | .agg parts => uptoBulkAll parts + 1
  | .iface _ d => uptoBulk d + 1
  | .map entries => uptoBulkEntries entries + 1
  | .held _ => 1
def uptoBulkAll {H : Type} : List (DataW H) → Nat
  | [] => 0
  | d :: r => uptoBulk d + uptoBulkAll r
def uptoBulkEntries {H : Type} : List (Lit × DataW H) → Nat
  | [] => 0
  | x :: r => uptoBulkEntry x + uptoBulkEntries r
def uptoBulkEntry {H : Type} : Lit × DataW H → Nat
  | (.string bytes, d) => bytes.length + uptoBulk d + 1
  | (_, d) => uptoBulk d + 1
 end
def uptoSmall : (H : Type) → List (DataW H) → Bool := fun _ ds => decide (uptoBulkAll ds ≤ 1048576)
def OpenSpec.upto (s : _root_.Go.ChangeSpec) : _root_.Go.OpenSpec := { _root_.Go.OpenSpec.ofChange s with cond := some uptoSmall }

/-- 'griffelaw08.LoomPlans', WHERE WHAT IT READS IS OF BULK AT MOST 1048576: true; the input reads as it did. -/
def loomPlansUptoRow : OpenClaim := { program := "ytnfjhdagbknlbaa", sum := "012dd4735e24c2fb828255d8e4561c2757819b0c9e3f28824a5ab09c9f58aa4b", func := "griffe/griffelaw08.LoomPlans", spec := "loomPlans", unfollowed := true, recurses := true, apart := false, narrowed := true }
def LoomPlansUptoSaid : Prop := loomPlansUptoRow.holds Try.pinned (OpenSpec.upto loomPlansSpec)

/-- 'griffelaw08.LoomSets', WHERE WHAT IT READS IS OF BULK AT MOST 1048576: true; the input reads as it did. -/
def loomSetsUptoRow : OpenClaim := { program := "ytnfjhdagbknlbaa", sum := "012dd4735e24c2fb828255d8e4561c2757819b0c9e3f28824a5ab09c9f58aa4b", func := "griffe/griffelaw08.LoomSets", spec := "loomSets", unfollowed := true, recurses := true, apart := false, narrowed := true }
def LoomSetsUptoSaid : Prop := loomSetsUptoRow.holds Try.pinned (OpenSpec.upto loomSetsSpec)

/-- 'griffelaw08.LoomOvers', WHERE WHAT IT READS IS OF BULK AT MOST 1048576: true; the input reads as it did. -/
def loomOversUptoRow : OpenClaim := { program := "ytnfjhdagbknlbaa", sum := "012dd4735e24c2fb828255d8e4561c2757819b0c9e3f28824a5ab09c9f58aa4b", func := "griffe/griffelaw08.LoomOvers", spec := "loomOvers", unfollowed := true, recurses := true, apart := false, narrowed := true }
def LoomOversUptoSaid : Prop := loomOversUptoRow.holds Try.pinned (OpenSpec.upto loomOversSpec)

/-- 'griffelaw08.LoomPushes', WHERE WHAT IT READS IS OF BULK AT MOST 1048576: true; the input reads as it did. -/
def loomPushesUptoRow : OpenClaim := { program := "ytnfjhdagbknlbaa", sum := "012dd4735e24c2fb828255d8e4561c2757819b0c9e3f28824a5ab09c9f58aa4b", func := "griffe/griffelaw08.LoomPushes", spec := "loomPushes", unfollowed := true, recurses := true, apart := false, narrowed := true }
def LoomPushesUptoSaid : Prop := loomPushesUptoRow.holds Try.pinned (OpenSpec.upto loomPushesSpec)

/-- 'griffelaw08.LoomInTime', WHERE WHAT IT READS IS OF BULK AT MOST 1048576: true; the input reads as it did. -/
def loomInTimeUptoRow : OpenClaim := { program := "ytnfjhdagbknlbaa", sum := "012dd4735e24c2fb828255d8e4561c2757819b0c9e3f28824a5ab09c9f58aa4b", func := "griffe/griffelaw08.LoomInTime", spec := "loomInTime", unfollowed := true, recurses := true, apart := false, narrowed := true }
def LoomInTimeUptoSaid : Prop := loomInTimeUptoRow.holds Try.pinned (OpenSpec.upto loomInTimeSpec)

/-- 'griffelaw08.LoomAgainst', WHERE WHAT IT READS IS OF BULK AT MOST 1048576: true; the input reads as it did. -/
def loomAgainstUptoRow : OpenClaim := { program := "ytnfjhdagbknlbaa", sum := "012dd4735e24c2fb828255d8e4561c2757819b0c9e3f28824a5ab09c9f58aa4b", func := "griffe/griffelaw08.LoomAgainst", spec := "loomAgainst", unfollowed := true, recurses := true, apart := false, narrowed := true }
def LoomAgainstUptoSaid : Prop := loomAgainstUptoRow.holds Try.pinned (OpenSpec.upto loomAgainstSpec)

/-- 'griffelaw08.LoomEasier', WHERE WHAT IT READS IS OF BULK AT MOST 1048576: true; the input reads as it did. -/
def loomEasierUptoRow : OpenClaim := { program := "ytnfjhdagbknlbaa", sum := "012dd4735e24c2fb828255d8e4561c2757819b0c9e3f28824a5ab09c9f58aa4b", func := "griffe/griffelaw08.LoomEasier", spec := "loomEasier", unfollowed := true, recurses := true, apart := false, narrowed := true }
def LoomEasierUptoSaid : Prop := loomEasierUptoRow.holds Try.pinned (OpenSpec.upto loomEasierSpec)

/-- 'griffelaw08.LoomStill', WHERE WHAT IT READS IS OF BULK AT MOST 1048576: true; the input reads as it did. -/
def loomStillUptoRow : OpenClaim := { program := "ytnfjhdagbknlbaa", sum := "012dd4735e24c2fb828255d8e4561c2757819b0c9e3f28824a5ab09c9f58aa4b", func := "griffe/griffelaw08.LoomStill", spec := "loomStill", unfollowed := true, recurses := true, apart := false, narrowed := true }
def LoomStillUptoSaid : Prop := loomStillUptoRow.holds Try.pinned (OpenSpec.upto loomStillSpec)

/-- 'griffelaw08.LoomHolds', WHERE WHAT IT READS IS OF BULK AT MOST 1048576: true; the input reads as it did. -/
def loomHoldsUptoRow : OpenClaim := { program := "ytnfjhdagbknlbaa", sum := "012dd4735e24c2fb828255d8e4561c2757819b0c9e3f28824a5ab09c9f58aa4b", func := "griffe/griffelaw08.LoomHolds", spec := "loomHolds", unfollowed := true, recurses := true, apart := false, narrowed := true }
def LoomHoldsUptoSaid : Prop := loomHoldsUptoRow.holds Try.pinned (OpenSpec.upto loomHoldsSpec)

end Rows
end Go.Proofs.Ytnfjhdagbknlbaa
