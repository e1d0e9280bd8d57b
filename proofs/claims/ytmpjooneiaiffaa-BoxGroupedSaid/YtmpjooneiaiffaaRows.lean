/-
  No cell of these rows narrows 'for every input' (looked for: loops, veiled, ifaces, maps, wideKeys, modest, calm, conditions, laid).
  DERIVED. THE GIVEN ROWS OF THIS SEAT. 10 by the template 'for every input the law returns true; each argument reads behind the call as it read before'; 0 by the template 'total and deterministic' (their statements: YtmpjooneiaiffaaTotals.lean).
  GIVEN WITH THE SEED: the statements are not yours to turn. If you find one false, say at which input.
  Laid BY PROGRAM, IN A SANDBOX (cutbox-rows.mjs): the forced cells as the released guide's own fill.sh prints them over the translation 9ab9d437ff04c665… (all of the seat's roots in one cut). By AI agents, Wed Nov 11 2026. No macro, syntax, notation, axiom, sorry.
-/
import Derived.Test.YtmpjooneiaiffaaChecked
import GoSem.Claim
import GoSem.ClaimJoined
import GoSem.ClaimMapViews
import Derived.JoinedTies
import Derived.KernelRfl
namespace Go.Proofs.Ytmpjooneiaiffaa
/- THE CELL 'sum', in the pinned program and in every row, IS THE sha256 OF THE DUMP (.gsa) THAT YtmpjooneiaiffaaProg.lean LOADS. Nothing in Lean hashes anything: it is a label: what it is worth is what the hold of that sum in a sandbox is worth. -/
noncomputable def Try.pinned : Pinned := { name := "ytmpjooneiaiffaa", sum := "9ab9d437ff04c665e993450fc4ddb6f841f8a3a9cfb85b767e636339e6ee6239", checked := Try.checked }
namespace Rows
def none {H : Type} : Left H := { results := [], args := [] }

/-- 'griffelaw04.BoxFewests': WHATEVER THE INPUT: true; the input reads as it did. -/
def boxFewestsSpec : ChangeSpec := { name := "boxFewests", fn := fun _ => fun
  | [d1, d2] => { results := [.lit (.bool true)], args := [d1, d2] }
  | _ => none }
def boxFewestsRow : OpenClaim := { program := "ytmpjooneiaiffaa", sum := "9ab9d437ff04c665e993450fc4ddb6f841f8a3a9cfb85b767e636339e6ee6239", func := "griffe/griffelaw04.BoxFewests", spec := "boxFewests", unfollowed := true, recurses := true, plainKeys := false, apart := false }
def BoxFewestsSaid : Prop := boxFewestsRow.holds Try.pinned (OpenSpec.ofChange boxFewestsSpec)

/-- ITS FALSE NEIGHBOUR: 'it returns false'. Refute it at one input. -/
def boxFewestsWrong : ChangeSpec := { name := "boxFewests", fn := fun _ => fun
  | [d1, d2] => { results := [.lit (.bool false)], args := [d1, d2] }
  | _ => none }
def BoxFewestsWrongFalsely : Prop := boxFewestsRow.holds Try.pinned (OpenSpec.ofChange boxFewestsWrong)

/-- 'griffelaw04.BoxGroups': WHATEVER THE INPUT: true; the input reads as it did. -/
def boxGroupsSpec : ChangeSpec := { name := "boxGroups", fn := fun _ => fun
  | [d1, d2] => { results := [.lit (.bool true)], args := [d1, d2] }
  | _ => none }
def boxGroupsRow : OpenClaim := { program := "ytmpjooneiaiffaa", sum := "9ab9d437ff04c665e993450fc4ddb6f841f8a3a9cfb85b767e636339e6ee6239", func := "griffe/griffelaw04.BoxGroups", spec := "boxGroups", unfollowed := true, recurses := true, plainKeys := false, apart := false }
def BoxGroupsSaid : Prop := boxGroupsRow.holds Try.pinned (OpenSpec.ofChange boxGroupsSpec)

/-- ITS FALSE NEIGHBOUR: 'it returns false'. Refute it at one input. -/
def boxGroupsWrong : ChangeSpec := { name := "boxGroups", fn := fun _ => fun
  | [d1, d2] => { results := [.lit (.bool false)], args := [d1, d2] }
  | _ => none }
def BoxGroupsWrongFalsely : Prop := boxGroupsRow.holds Try.pinned (OpenSpec.ofChange boxGroupsWrong)

/-- 'griffelaw04.BoxYarns': WHATEVER THE INPUT: true; the input reads as it did. -/
def boxYarnsSpec : ChangeSpec := { name := "boxYarns", fn := fun _ => fun
  | [d1, d2] => { results := [.lit (.bool true)], args := [d1, d2] }
  | _ => none }
def boxYarnsRow : OpenClaim := { program := "ytmpjooneiaiffaa", sum := "9ab9d437ff04c665e993450fc4ddb6f841f8a3a9cfb85b767e636339e6ee6239", func := "griffe/griffelaw04.BoxYarns", spec := "boxYarns", unfollowed := true, recurses := true, plainKeys := false, apart := false }
def BoxYarnsSaid : Prop := boxYarnsRow.holds Try.pinned (OpenSpec.ofChange boxYarnsSpec)

/-- ITS FALSE NEIGHBOUR: 'it returns false'. Refute it at one input. -/
def boxYarnsWrong : ChangeSpec := { name := "boxYarns", fn := fun _ => fun
  | [d1, d2] => { results := [.lit (.bool false)], args := [d1, d2] }
  | _ => none }
def BoxYarnsWrongFalsely : Prop := boxYarnsRow.holds Try.pinned (OpenSpec.ofChange boxYarnsWrong)

/-- 'griffelaw04.BoxRounds': WHATEVER THE INPUT: true; the input reads as it did. -/
def boxRoundsSpec : ChangeSpec := { name := "boxRounds", fn := fun _ => fun
  | [d1, d2] => { results := [.lit (.bool true)], args := [d1, d2] }
  | _ => none }
def boxRoundsRow : OpenClaim := { program := "ytmpjooneiaiffaa", sum := "9ab9d437ff04c665e993450fc4ddb6f841f8a3a9cfb85b767e636339e6ee6239", func := "griffe/griffelaw04.BoxRounds", spec := "boxRounds", unfollowed := true, recurses := true, plainKeys := false, apart := false }
def BoxRoundsSaid : Prop := boxRoundsRow.holds Try.pinned (OpenSpec.ofChange boxRoundsSpec)

/-- ITS FALSE NEIGHBOUR: 'it returns false'. Refute it at one input. -/
def boxRoundsWrong : ChangeSpec := { name := "boxRounds", fn := fun _ => fun
  | [d1, d2] => { results := [.lit (.bool false)], args := [d1, d2] }
  | _ => none }
def BoxRoundsWrongFalsely : Prop := boxRoundsRow.holds Try.pinned (OpenSpec.ofChange boxRoundsWrong)

/-- 'griffelaw04.BoxConserved': WHATEVER THE INPUT: true; the input reads as it did. -/
def boxConservedSpec : ChangeSpec := { name := "boxConserved", fn := fun _ => fun
  | [d] => { results := [.lit (.bool true)], args := [d] }
  | _ => none }
def boxConservedRow : OpenClaim := { program := "ytmpjooneiaiffaa", sum := "9ab9d437ff04c665e993450fc4ddb6f841f8a3a9cfb85b767e636339e6ee6239", func := "griffe/griffelaw04.BoxConserved", spec := "boxConserved", unfollowed := true, recurses := true, plainKeys := false, apart := false }
def BoxConservedSaid : Prop := boxConservedRow.holds Try.pinned (OpenSpec.ofChange boxConservedSpec)

/-- ITS FALSE NEIGHBOUR: 'it returns false'. Refute it at one input. -/
def boxConservedWrong : ChangeSpec := { name := "boxConserved", fn := fun _ => fun
  | [d] => { results := [.lit (.bool false)], args := [d] }
  | _ => none }
def BoxConservedWrongFalsely : Prop := boxConservedRow.holds Try.pinned (OpenSpec.ofChange boxConservedWrong)

/-- 'griffelaw04.BoxNoFewer': WHATEVER THE INPUT: true; the input reads as it did. -/
def boxNoFewerSpec : ChangeSpec := { name := "boxNoFewer", fn := fun _ => fun
  | [d1, d2] => { results := [.lit (.bool true)], args := [d1, d2] }
  | _ => none }
def boxNoFewerRow : OpenClaim := { program := "ytmpjooneiaiffaa", sum := "9ab9d437ff04c665e993450fc4ddb6f841f8a3a9cfb85b767e636339e6ee6239", func := "griffe/griffelaw04.BoxNoFewer", spec := "boxNoFewer", unfollowed := true, recurses := true, plainKeys := false, apart := false }
def BoxNoFewerSaid : Prop := boxNoFewerRow.holds Try.pinned (OpenSpec.ofChange boxNoFewerSpec)

/-- ITS FALSE NEIGHBOUR: 'it returns false'. Refute it at one input. -/
def boxNoFewerWrong : ChangeSpec := { name := "boxNoFewer", fn := fun _ => fun
  | [d1, d2] => { results := [.lit (.bool false)], args := [d1, d2] }
  | _ => none }
def BoxNoFewerWrongFalsely : Prop := boxNoFewerRow.holds Try.pinned (OpenSpec.ofChange boxNoFewerWrong)

/-- 'griffelaw04.BoxGrouped': WHATEVER THE INPUT: true; the input reads as it did. -/
def boxGroupedSpec : ChangeSpec := { name := "boxGrouped", fn := fun _ => fun
  | [d1, d2] => { results := [.lit (.bool true)], args := [d1, d2] }
  | _ => none }
def boxGroupedRow : OpenClaim := { program := "ytmpjooneiaiffaa", sum := "9ab9d437ff04c665e993450fc4ddb6f841f8a3a9cfb85b767e636339e6ee6239", func := "griffe/griffelaw04.BoxGrouped", spec := "boxGrouped", unfollowed := true, recurses := true, plainKeys := false, apart := false }
def BoxGroupedSaid : Prop := boxGroupedRow.holds Try.pinned (OpenSpec.ofChange boxGroupedSpec)

/-- ITS FALSE NEIGHBOUR: 'it returns false'. Refute it at one input. -/
def boxGroupedWrong : ChangeSpec := { name := "boxGrouped", fn := fun _ => fun
  | [d1, d2] => { results := [.lit (.bool false)], args := [d1, d2] }
  | _ => none }
def BoxGroupedWrongFalsely : Prop := boxGroupedRow.holds Try.pinned (OpenSpec.ofChange boxGroupedWrong)

/-- 'griffelaw04.BoxBack': WHATEVER THE INPUT: true; the input reads as it did. -/
def boxBackSpec : ChangeSpec := { name := "boxBack", fn := fun _ => fun
  | [d] => { results := [.lit (.bool true)], args := [d] }
  | _ => none }
def boxBackRow : OpenClaim := { program := "ytmpjooneiaiffaa", sum := "9ab9d437ff04c665e993450fc4ddb6f841f8a3a9cfb85b767e636339e6ee6239", func := "griffe/griffelaw04.BoxBack", spec := "boxBack", unfollowed := true, recurses := true, plainKeys := false, apart := false }
def BoxBackSaid : Prop := boxBackRow.holds Try.pinned (OpenSpec.ofChange boxBackSpec)

/-- ITS FALSE NEIGHBOUR: 'it returns false'. Refute it at one input. -/
def boxBackWrong : ChangeSpec := { name := "boxBack", fn := fun _ => fun
  | [d] => { results := [.lit (.bool false)], args := [d] }
  | _ => none }
def BoxBackWrongFalsely : Prop := boxBackRow.holds Try.pinned (OpenSpec.ofChange boxBackWrong)

/-- 'griffelaw04.BoxTruth': WHATEVER THE INPUT: true; the input reads as it did. -/
def boxTruthSpec : ChangeSpec := { name := "boxTruth", fn := fun _ => fun
  | [d1, d2, d3] => { results := [.lit (.bool true)], args := [d1, d2, d3] }
  | _ => none }
def boxTruthRow : OpenClaim := { program := "ytmpjooneiaiffaa", sum := "9ab9d437ff04c665e993450fc4ddb6f841f8a3a9cfb85b767e636339e6ee6239", func := "griffe/griffelaw04.BoxTruth", spec := "boxTruth", unfollowed := true, recurses := true, plainKeys := false, apart := false }
def BoxTruthSaid : Prop := boxTruthRow.holds Try.pinned (OpenSpec.ofChange boxTruthSpec)

/-- ITS FALSE NEIGHBOUR: 'it returns false'. Refute it at one input. -/
def boxTruthWrong : ChangeSpec := { name := "boxTruth", fn := fun _ => fun
  | [d1, d2, d3] => { results := [.lit (.bool false)], args := [d1, d2, d3] }
  | _ => none }
def BoxTruthWrongFalsely : Prop := boxTruthRow.holds Try.pinned (OpenSpec.ofChange boxTruthWrong)

/-- 'griffelaw04.BoxThrows': WHATEVER THE INPUT: true; the input reads as it did. -/
def boxThrowsSpec : ChangeSpec := { name := "boxThrows", fn := fun _ => fun
  | [d1, d2] => { results := [.lit (.bool true)], args := [d1, d2] }
  | _ => none }
def boxThrowsRow : OpenClaim := { program := "ytmpjooneiaiffaa", sum := "9ab9d437ff04c665e993450fc4ddb6f841f8a3a9cfb85b767e636339e6ee6239", func := "griffe/griffelaw04.BoxThrows", spec := "boxThrows", unfollowed := true, recurses := true, plainKeys := false, apart := false }
def BoxThrowsSaid : Prop := boxThrowsRow.holds Try.pinned (OpenSpec.ofChange boxThrowsSpec)

/-- ITS FALSE NEIGHBOUR: 'it returns false'. Refute it at one input. -/
def boxThrowsWrong : ChangeSpec := { name := "boxThrows", fn := fun _ => fun
  | [d1, d2] => { results := [.lit (.bool false)], args := [d1, d2] }
  | _ => none }
def BoxThrowsWrongFalsely : Prop := boxThrowsRow.holds Try.pinned (OpenSpec.ofChange boxThrowsWrong)

/- THE SECOND FORM. 'bulk': how many values and letters a reading holds, each counted each time it is reached (what is shared counts as often as it is met; a slice's spare places count too). A statement '..UptoSaid' is the law's where the arguments, and the package variables that the reading takes, are together of bulk at most 1048576: NARROWER than '..Said'. Prove '..Said' where nothing that the law and all that it calls make is longer than what came in: it says more and counts as full. Else prove '..UptoSaid'. A law counts once. -/
mutual
def uptoBulk {H : Type} : DataW H → Nat
  | .lit (.string bytes) => bytes.length + 1
  | .lit _ => 1
  | .nil => 1
  | .ptr d => uptoBulk d + 1
  | .slice elems spare => uptoBulkAll elems + uptoBulkAll spare + 1
  | .agg parts => uptoBulkAll parts + 1
  | .iface _ d => uptoBulk d + 1
  | .map entries => uptoBulkEntries entries + 1
  | .held _ => 1
def uptoBulkAll {H : Type} : List (DataW H) → Nat
  | [] => 0
  | d :: r => uptoBulk d + uptoBulkAll r
def uptoBulkEntries {H : Type} : List (Lit × DataW H) → Nat
  | [] => 0
  | x :: r => uptoBulkEntry x + uptoBulkEntries r
def uptoBulkEntry {H : Type} : Lit × DataW H → Nat
  | (.string bytes, d) => bytes.length + uptoBulk d + 1
  | (_, d) => uptoBulk d + 1
 end
def uptoSmall : (H : Type) → List (DataW H) → Bool := fun _ ds => decide (uptoBulkAll ds ≤ 1048576)
def OpenSpec.upto (s : _root_.Go.ChangeSpec) : _root_.Go.OpenSpec := { _root_.Go.OpenSpec.ofChange s with cond := some uptoSmall }

/-- 'griffelaw04.BoxFewests', WHERE WHAT IT READS IS OF BULK AT MOST 1048576: true; the input reads as it did. -/
def boxFewestsUptoRow : OpenClaim := { program := "ytmpjooneiaiffaa", sum := "9ab9d437ff04c665e993450fc4ddb6f841f8a3a9cfb85b767e636339e6ee6239", func := "griffe/griffelaw04.BoxFewests", spec := "boxFewests", unfollowed := true, recurses := true, plainKeys := false, apart := false, narrowed := true }
def BoxFewestsUptoSaid : Prop := boxFewestsUptoRow.holds Try.pinned (OpenSpec.upto boxFewestsSpec)

/-- 'griffelaw04.BoxGroups', WHERE WHAT IT READS IS OF BULK AT MOST 1048576: true; the input reads as it did. -/
def boxGroupsUptoRow : OpenClaim := { program := "ytmpjooneiaiffaa", sum := "9ab9d437ff04c665e993450fc4ddb6f841f8a3a9cfb85b767e636339e6ee6239", func := "griffe/griffelaw04.BoxGroups", spec := "boxGroups", unfollowed := true, recurses := true, plainKeys := false, apart := false, narrowed := true }
def BoxGroupsUptoSaid : Prop := boxGroupsUptoRow.holds Try.pinned (OpenSpec.upto boxGroupsSpec)

/-- 'griffelaw04.BoxYarns', WHERE WHAT IT READS IS OF BULK AT MOST 1048576: true; the input reads as it did. -/
def boxYarnsUptoRow : OpenClaim := { program := "ytmpjooneiaiffaa", sum := "9ab9d437ff04c665e993450fc4ddb6f841f8a3a9cfb85b767e636339e6ee6239", func := "griffe/griffelaw04.BoxYarns", spec := "boxYarns", unfollowed := true, recurses := true, plainKeys := false, apart := false, narrowed := true }
def BoxYarnsUptoSaid : Prop := boxYarnsUptoRow.holds Try.pinned (OpenSpec.upto boxYarnsSpec)

/-- 'griffelaw04.BoxRounds', WHERE WHAT IT READS IS OF BULK AT MOST 1048576: true; the input reads as it did. -/
def boxRoundsUptoRow : OpenClaim := { program := "ytmpjooneiaiffaa", sum := "9ab9d437ff04c665e993450fc4ddb6f841f8a3a9cfb85b767e636339e6ee6239", func := "griffe/griffelaw04.BoxRounds", spec := "boxRounds", unfollowed := true, recurses := true, plainKeys := false, apart := false, narrowed := true }
def BoxRoundsUptoSaid : Prop := boxRoundsUptoRow.holds Try.pinned (OpenSpec.upto boxRoundsSpec)

/-- 'griffelaw04.BoxConserved', WHERE WHAT IT READS IS OF BULK AT MOST 1048576: true; the input reads as it did. -/
def boxConservedUptoRow : OpenClaim := { program := "ytmpjooneiaiffaa", sum := "9ab9d437ff04c665e993450fc4ddb6f841f8a3a9cfb85b767e636339e6ee6239", func := "griffe/griffelaw04.BoxConserved", spec := "boxConserved", unfollowed := true, recurses := true, plainKeys := false, apart := false, narrowed := true }
def BoxConservedUptoSaid : Prop := boxConservedUptoRow.holds Try.pinned (OpenSpec.upto boxConservedSpec)

/-- 'griffelaw04.BoxNoFewer', WHERE WHAT IT READS IS OF BULK AT MOST 1048576: true; the input reads as it did. -/
def boxNoFewerUptoRow : OpenClaim := { program := "ytmpjooneiaiffaa", sum := "9ab9d437ff04c665e993450fc4ddb6f841f8a3a9cfb85b767e636339e6ee6239", func := "griffe/griffelaw04.BoxNoFewer", spec := "boxNoFewer", unfollowed := true, recurses := true, plainKeys := false, apart := false, narrowed := true }
def BoxNoFewerUptoSaid : Prop := boxNoFewerUptoRow.holds Try.pinned (OpenSpec.upto boxNoFewerSpec)

/-- 'griffelaw04.BoxGrouped', WHERE WHAT IT READS IS OF BULK AT MOST 1048576: true; the input reads as it did. -/
def boxGroupedUptoRow : OpenClaim := { program := "ytmpjooneiaiffaa", sum := "9ab9d437ff04c665e993450fc4ddb6f841f8a3a9cfb85b767e636339e6ee6239", func := "griffe/griffelaw04.BoxGrouped", spec := "boxGrouped", unfollowed := true, recurses := true, plainKeys := false, apart := false, narrowed := true }
def BoxGroupedUptoSaid : Prop := boxGroupedUptoRow.holds Try.pinned (OpenSpec.upto boxGroupedSpec)

/-- 'griffelaw04.BoxBack', WHERE WHAT IT READS IS OF BULK AT MOST 1048576: true; the input reads as it did. -/
def boxBackUptoRow : OpenClaim := { program := "ytmpjooneiaiffaa", sum := "9ab9d437ff04c665e993450fc4ddb6f841f8a3a9cfb85b767e636339e6ee6239", func := "griffe/griffelaw04.BoxBack", spec := "boxBack", unfollowed := true, recurses := true, plainKeys := false, apart := false, narrowed := true }
def BoxBackUptoSaid : Prop := boxBackUptoRow.holds Try.pinned (OpenSpec.upto boxBackSpec)

/-- 'griffelaw04.BoxTruth', WHERE WHAT IT READS IS OF BULK AT MOST 1048576: true; the input reads as it did. -/
def boxTruthUptoRow : OpenClaim := { program := "ytmpjooneiaiffaa", sum := "9ab9d437ff04c665e993450fc4ddb6f841f8a3a9cfb85b767e636339e6ee6239", func := "griffe/griffelaw04.BoxTruth", spec := "boxTruth", unfollowed := true, recurses := true, plainKeys := false, apart := false, narrowed := true }
def BoxTruthUptoSaid : Prop := boxTruthUptoRow.holds Try.pinned (OpenSpec.upto boxTruthSpec)

/-- 'griffelaw04.BoxThrows', WHERE WHAT IT READS IS OF BULK AT MOST 1048576: true; the input reads as it did. -/
def boxThrowsUptoRow : OpenClaim := { program := "ytmpjooneiaiffaa", sum := "9ab9d437ff04c665e993450fc4ddb6f841f8a3a9cfb85b767e636339e6ee6239", func := "griffe/griffelaw04.BoxThrows", spec := "boxThrows", unfollowed := true, recurses := true, plainKeys := false, apart := false, narrowed := true }
def BoxThrowsUptoSaid : Prop := boxThrowsUptoRow.holds Try.pinned (OpenSpec.upto boxThrowsSpec)

end Rows
end Go.Proofs.Ytmpjooneiaiffaa
