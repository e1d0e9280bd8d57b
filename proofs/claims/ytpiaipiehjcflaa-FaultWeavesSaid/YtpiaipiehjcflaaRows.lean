/-
  No cell of these rows narrows 'for every input' (looked for: loops, veiled, ifaces, maps, wideKeys, modest, calm, conditions, laid).
  DERIVED. THE GIVEN ROWS OF THIS SEAT. 11 by the template 'for every input the law returns true; each argument reads behind the call as it read before'; 0 by the template 'total and deterministic' (their statements: YtpiaipiehjcflaaTotals.lean).
  GIVEN WITH THE SEED: the statements are not yours to turn. If you find one false, say at which input.
  Laid BY PROGRAM, IN A SANDBOX (cutbox-rows.mjs): the forced cells as the released guide's own fill.sh prints them over the translation 925656331b15eeae… (all of the seat's roots in one cut). By AI agents, Wed Nov 11 2026. No macro, syntax, notation, axiom, sorry.
-/
import Derived.Test.YtpiaipiehjcflaaChecked
import GoSem.Claim
import GoSem.ClaimJoined
import GoSem.ClaimMapViews
import Derived.JoinedTies
import Derived.KernelRfl
namespace Go.Proofs.Ytpiaipiehjcflaa
/- THE CELL 'sum', in the pinned program and in every row, IS THE sha256 OF THE DUMP (.gsa) THAT YtpiaipiehjcflaaProg.lean LOADS. Nothing in Lean hashes anything: it is a label: what it is worth is what the hold of that sum in a sandbox is worth. -/
noncomputable def Try.pinned : Pinned := { name := "ytpiaipiehjcflaa", sum := "925656331b15eeae5b7faf345d541f5ee0592f4c6820fa3259c6273dd509f07d", checked := Try.checked }
namespace Rows
def none {H : Type} : Left H := { results := [], args := [] }

/-- 'griffelaw05.FaultWeaves': WHATEVER THE INPUT: true; the input reads as it did. -/
def faultWeavesSpec : ChangeSpec := { name := "faultWeaves", fn := fun _ => fun
  | [d1, d2, d3] => { results := [.lit (.bool true)], args := [d1, d2, d3] }
  | _ => none }
def faultWeavesRow : OpenClaim := { program := "ytpiaipiehjcflaa", sum := "925656331b15eeae5b7faf345d541f5ee0592f4c6820fa3259c6273dd509f07d", func := "griffe/griffelaw05.FaultWeaves", spec := "faultWeaves", inPlace := ["internal/abi.NoEscape"], unfollowed := true, recurses := true, apart := false }
def FaultWeavesSaid : Prop := faultWeavesRow.holds Try.pinned (OpenSpec.ofChange faultWeavesSpec)

/-- ITS FALSE NEIGHBOUR: 'it returns false'. Refute it at one input. -/
def faultWeavesWrong : ChangeSpec := { name := "faultWeaves", fn := fun _ => fun
  | [d1, d2, d3] => { results := [.lit (.bool false)], args := [d1, d2, d3] }
  | _ => none }
def FaultWeavesWrongFalsely : Prop := faultWeavesRow.holds Try.pinned (OpenSpec.ofChange faultWeavesWrong)

/-- 'griffelaw05.FaultCans': WHATEVER THE INPUT: true; the input reads as it did. -/
def faultCansSpec : ChangeSpec := { name := "faultCans", fn := fun _ => fun
  | [d1, d2] => { results := [.lit (.bool true)], args := [d1, d2] }
  | _ => none }
def faultCansRow : OpenClaim := { program := "ytpiaipiehjcflaa", sum := "925656331b15eeae5b7faf345d541f5ee0592f4c6820fa3259c6273dd509f07d", func := "griffe/griffelaw05.FaultCans", spec := "faultCans", inPlace := ["internal/abi.NoEscape"], unfollowed := true, recurses := true, apart := false }
def FaultCansSaid : Prop := faultCansRow.holds Try.pinned (OpenSpec.ofChange faultCansSpec)

/-- ITS FALSE NEIGHBOUR: 'it returns false'. Refute it at one input. -/
def faultCansWrong : ChangeSpec := { name := "faultCans", fn := fun _ => fun
  | [d1, d2] => { results := [.lit (.bool false)], args := [d1, d2] }
  | _ => none }
def FaultCansWrongFalsely : Prop := faultCansRow.holds Try.pinned (OpenSpec.ofChange faultCansWrong)

/-- 'griffelaw05.FaultTells': WHATEVER THE INPUT: true; the input reads as it did. -/
def faultTellsSpec : ChangeSpec := { name := "faultTells", fn := fun _ => fun
  | [d1, d2] => { results := [.lit (.bool true)], args := [d1, d2] }
  | _ => none }
def faultTellsRow : OpenClaim := { program := "ytpiaipiehjcflaa", sum := "925656331b15eeae5b7faf345d541f5ee0592f4c6820fa3259c6273dd509f07d", func := "griffe/griffelaw05.FaultTells", spec := "faultTells", inPlace := ["internal/abi.NoEscape"], unfollowed := true, recurses := true, apart := false }
def FaultTellsSaid : Prop := faultTellsRow.holds Try.pinned (OpenSpec.ofChange faultTellsSpec)

/-- ITS FALSE NEIGHBOUR: 'it returns false'. Refute it at one input. -/
def faultTellsWrong : ChangeSpec := { name := "faultTells", fn := fun _ => fun
  | [d1, d2] => { results := [.lit (.bool false)], args := [d1, d2] }
  | _ => none }
def FaultTellsWrongFalsely : Prop := faultTellsRow.holds Try.pinned (OpenSpec.ofChange faultTellsWrong)

/-- 'griffelaw05.FaultApart': WHATEVER THE INPUT: true; the input reads as it did. -/
def faultApartSpec : ChangeSpec := { name := "faultApart", fn := fun _ => fun
  | [d1, d2] => { results := [.lit (.bool true)], args := [d1, d2] }
  | _ => none }
def faultApartRow : OpenClaim := { program := "ytpiaipiehjcflaa", sum := "925656331b15eeae5b7faf345d541f5ee0592f4c6820fa3259c6273dd509f07d", func := "griffe/griffelaw05.FaultApart", spec := "faultApart", inPlace := ["internal/abi.NoEscape"], unfollowed := true, recurses := true, apart := false }
def FaultApartSaid : Prop := faultApartRow.holds Try.pinned (OpenSpec.ofChange faultApartSpec)

/-- ITS FALSE NEIGHBOUR: 'it returns false'. Refute it at one input. -/
def faultApartWrong : ChangeSpec := { name := "faultApart", fn := fun _ => fun
  | [d1, d2] => { results := [.lit (.bool false)], args := [d1, d2] }
  | _ => none }
def FaultApartWrongFalsely : Prop := faultApartRow.holds Try.pinned (OpenSpec.ofChange faultApartWrong)

/-- 'griffelaw05.FaultLooks': WHATEVER THE INPUT: true; the input reads as it did. -/
def faultLooksSpec : ChangeSpec := { name := "faultLooks", fn := fun _ => fun
  | [d1, d2, d3] => { results := [.lit (.bool true)], args := [d1, d2, d3] }
  | _ => none }
def faultLooksRow : OpenClaim := { program := "ytpiaipiehjcflaa", sum := "925656331b15eeae5b7faf345d541f5ee0592f4c6820fa3259c6273dd509f07d", func := "griffe/griffelaw05.FaultLooks", spec := "faultLooks", inPlace := ["internal/abi.NoEscape"], unfollowed := true, recurses := true, apart := false }
def FaultLooksSaid : Prop := faultLooksRow.holds Try.pinned (OpenSpec.ofChange faultLooksSpec)

/-- ITS FALSE NEIGHBOUR: 'it returns false'. Refute it at one input. -/
def faultLooksWrong : ChangeSpec := { name := "faultLooks", fn := fun _ => fun
  | [d1, d2, d3] => { results := [.lit (.bool false)], args := [d1, d2, d3] }
  | _ => none }
def FaultLooksWrongFalsely : Prop := faultLooksRow.holds Try.pinned (OpenSpec.ofChange faultLooksWrong)

/-- 'griffelaw05.FaultFewest': WHATEVER THE INPUT: true; the input reads as it did. -/
def faultFewestSpec : ChangeSpec := { name := "faultFewest", fn := fun _ => fun
  | [d] => { results := [.lit (.bool true)], args := [d] }
  | _ => none }
def faultFewestRow : OpenClaim := { program := "ytpiaipiehjcflaa", sum := "925656331b15eeae5b7faf345d541f5ee0592f4c6820fa3259c6273dd509f07d", func := "griffe/griffelaw05.FaultFewest", spec := "faultFewest", inPlace := ["internal/abi.NoEscape"], unfollowed := true, recurses := true, apart := false }
def FaultFewestSaid : Prop := faultFewestRow.holds Try.pinned (OpenSpec.ofChange faultFewestSpec)

/-- ITS FALSE NEIGHBOUR: 'it returns false'. Refute it at one input. -/
def faultFewestWrong : ChangeSpec := { name := "faultFewest", fn := fun _ => fun
  | [d] => { results := [.lit (.bool false)], args := [d] }
  | _ => none }
def FaultFewestWrongFalsely : Prop := faultFewestRow.holds Try.pinned (OpenSpec.ofChange faultFewestWrong)

/-- 'griffelaw05.FaultLook': WHATEVER THE INPUT: true; the input reads as it did. -/
def faultLookSpec : ChangeSpec := { name := "faultLook", fn := fun _ => fun
  | [d1, d2, d3] => { results := [.lit (.bool true)], args := [d1, d2, d3] }
  | _ => none }
def faultLookRow : OpenClaim := { program := "ytpiaipiehjcflaa", sum := "925656331b15eeae5b7faf345d541f5ee0592f4c6820fa3259c6273dd509f07d", func := "griffe/griffelaw05.FaultLook", spec := "faultLook", inPlace := ["internal/abi.NoEscape"], unfollowed := true, recurses := true, apart := false }
def FaultLookSaid : Prop := faultLookRow.holds Try.pinned (OpenSpec.ofChange faultLookSpec)

/-- ITS FALSE NEIGHBOUR: 'it returns false'. Refute it at one input. -/
def faultLookWrong : ChangeSpec := { name := "faultLook", fn := fun _ => fun
  | [d1, d2, d3] => { results := [.lit (.bool false)], args := [d1, d2, d3] }
  | _ => none }
def FaultLookWrongFalsely : Prop := faultLookRow.holds Try.pinned (OpenSpec.ofChange faultLookWrong)

/-- 'griffelaw05.FaultDoes': WHATEVER THE INPUT: true; the input reads as it did. -/
def faultDoesSpec : ChangeSpec := { name := "faultDoes", fn := fun _ => fun
  | [d] => { results := [.lit (.bool true)], args := [d] }
  | _ => none }
def faultDoesRow : OpenClaim := { program := "ytpiaipiehjcflaa", sum := "925656331b15eeae5b7faf345d541f5ee0592f4c6820fa3259c6273dd509f07d", func := "griffe/griffelaw05.FaultDoes", spec := "faultDoes", inPlace := ["internal/abi.NoEscape"], unfollowed := true, recurses := true, apart := false }
def FaultDoesSaid : Prop := faultDoesRow.holds Try.pinned (OpenSpec.ofChange faultDoesSpec)

/-- ITS FALSE NEIGHBOUR: 'it returns false'. Refute it at one input. -/
def faultDoesWrong : ChangeSpec := { name := "faultDoes", fn := fun _ => fun
  | [d] => { results := [.lit (.bool false)], args := [d] }
  | _ => none }
def FaultDoesWrongFalsely : Prop := faultDoesRow.holds Try.pinned (OpenSpec.ofChange faultDoesWrong)

/-- 'griffelaw05.FaultAlls': WHATEVER THE INPUT: true; the input reads as it did. -/
def faultAllsSpec : ChangeSpec := { name := "faultAlls", fn := fun _ => fun
  | [d] => { results := [.lit (.bool true)], args := [d] }
  | _ => none }
def faultAllsRow : OpenClaim := { program := "ytpiaipiehjcflaa", sum := "925656331b15eeae5b7faf345d541f5ee0592f4c6820fa3259c6273dd509f07d", func := "griffe/griffelaw05.FaultAlls", spec := "faultAlls", inPlace := ["internal/abi.NoEscape"], unfollowed := true, recurses := true, apart := false }
def FaultAllsSaid : Prop := faultAllsRow.holds Try.pinned (OpenSpec.ofChange faultAllsSpec)

/-- ITS FALSE NEIGHBOUR: 'it returns false'. Refute it at one input. -/
def faultAllsWrong : ChangeSpec := { name := "faultAlls", fn := fun _ => fun
  | [d] => { results := [.lit (.bool false)], args := [d] }
  | _ => none }
def FaultAllsWrongFalsely : Prop := faultAllsRow.holds Try.pinned (OpenSpec.ofChange faultAllsWrong)

/-- 'griffelaw05.FaultTrue': WHATEVER THE INPUT: true; the input reads as it did. -/
def faultTrueSpec : ChangeSpec := { name := "faultTrue", fn := fun _ => fun
  | [d1, d2] => { results := [.lit (.bool true)], args := [d1, d2] }
  | _ => none }
def faultTrueRow : OpenClaim := { program := "ytpiaipiehjcflaa", sum := "925656331b15eeae5b7faf345d541f5ee0592f4c6820fa3259c6273dd509f07d", func := "griffe/griffelaw05.FaultTrue", spec := "faultTrue", inPlace := ["internal/abi.NoEscape"], unfollowed := true, recurses := true, apart := false }
def FaultTrueSaid : Prop := faultTrueRow.holds Try.pinned (OpenSpec.ofChange faultTrueSpec)

/-- ITS FALSE NEIGHBOUR: 'it returns false'. Refute it at one input. -/
def faultTrueWrong : ChangeSpec := { name := "faultTrue", fn := fun _ => fun
  | [d1, d2] => { results := [.lit (.bool false)], args := [d1, d2] }
  | _ => none }
def FaultTrueWrongFalsely : Prop := faultTrueRow.holds Try.pinned (OpenSpec.ofChange faultTrueWrong)

/-- 'griffelaw05.FaultShows': WHATEVER THE INPUT: true; the input reads as it did. -/
def faultShowsSpec : ChangeSpec := { name := "faultShows", fn := fun _ => fun
  | [d] => { results := [.lit (.bool true)], args := [d] }
  | _ => none }
def faultShowsRow : OpenClaim := { program := "ytpiaipiehjcflaa", sum := "925656331b15eeae5b7faf345d541f5ee0592f4c6820fa3259c6273dd509f07d", func := "griffe/griffelaw05.FaultShows", spec := "faultShows", inPlace := ["internal/abi.NoEscape"], unfollowed := true, recurses := true, apart := false }
def FaultShowsSaid : Prop := faultShowsRow.holds Try.pinned (OpenSpec.ofChange faultShowsSpec)

/-- ITS FALSE NEIGHBOUR: 'it returns false'. Refute it at one input. -/
def faultShowsWrong : ChangeSpec := { name := "faultShows", fn := fun _ => fun
  | [d] => { results := [.lit (.bool false)], args := [d] }
  | _ => none }
def FaultShowsWrongFalsely : Prop := faultShowsRow.holds Try.pinned (OpenSpec.ofChange faultShowsWrong)

/- THE SECOND FORM. 'bulk': how many values and letters a reading holds, each counted each time it is reached (what is shared counts as often as it is met; a slice's spare places count too). A statement '..UptoSaid' is the law's where the arguments, and the package variables that the reading takes, are together of bulk at most 1048576: NARROWER than '..Said'. Prove '..Said' where nothing that the law and all that it calls make is longer than what came in: it says more and counts as full. Else prove '..UptoSaid'. A law counts once. -/
mutual
def uptoBulk {H : Type} : DataW H → Nat
  | .lit (.string bytes) => bytes.length + 1
  | .lit _ => 1
  | .nil => 1
  | .ptr d => uptoBulk d + 1
  | .slice elems spare => uptoBulkAll elems + uptoBulkAll spare + 1
  | .agg parts => uptoBulkAll parts + 1
  | .iface _ d => uptoBulk d + 1
  | .map entries => uptoBulkEntries entries + 1
  | .held _ => 1
def uptoBulkAll {H : Type} : List (DataW H) → Nat
  | [] => 0
  | d :: r => uptoBulk d + uptoBulkAll r
def uptoBulkEntries {H : Type} : List (Lit × DataW H) → Nat
  | [] => 0
  | x :: r => uptoBulkEntry x + uptoBulkEntries r
def uptoBulkEntry {H : Type} : Lit × DataW H → Nat
  | (.string bytes, d) => bytes.length + uptoBulk d + 1
  | (_, d) => uptoBulk d + 1
 end
def uptoSmall : (H : Type) → List (DataW H) → Bool := fun _ ds => decide (uptoBulkAll ds ≤ 1048576)
def OpenSpec.upto (s : _root_.Go.ChangeSpec) : _root_.Go.OpenSpec := { _root_.Go.OpenSpec.ofChange s with cond := some uptoSmall }

/-- 'griffelaw05.FaultWeaves', WHERE WHAT IT READS IS OF BULK AT MOST 1048576: true; the input reads as it did. -/
def faultWeavesUptoRow : OpenClaim := { program := "ytpiaipiehjcflaa", sum := "925656331b15eeae5b7faf345d541f5ee0592f4c6820fa3259c6273dd509f07d", func := "griffe/griffelaw05.FaultWeaves", spec := "faultWeaves", inPlace := ["internal/abi.NoEscape"], unfollowed := true, recurses := true, apart := false, narrowed := true }
def FaultWeavesUptoSaid : Prop := faultWeavesUptoRow.holds Try.pinned (OpenSpec.upto faultWeavesSpec)

/-- 'griffelaw05.FaultCans', WHERE WHAT IT READS IS OF BULK AT MOST 1048576: true; the input reads as it did. -/
def faultCansUptoRow : OpenClaim := { program := "ytpiaipiehjcflaa", sum := "925656331b15eeae5b7faf345d541f5ee0592f4c6820fa3259c6273dd509f07d", func := "griffe/griffelaw05.FaultCans", spec := "faultCans", inPlace := ["internal/abi.NoEscape"], unfollowed := true, recurses := true, apart := false, narrowed := true }
def FaultCansUptoSaid : Prop := faultCansUptoRow.holds Try.pinned (OpenSpec.upto faultCansSpec)

/-- 'griffelaw05.FaultTells', WHERE WHAT IT READS IS OF BULK AT MOST 1048576: true; the input reads as it did. -/
def faultTellsUptoRow : OpenClaim := { program := "ytpiaipiehjcflaa", sum := "925656331b15eeae5b7faf345d541f5ee0592f4c6820fa3259c6273dd509f07d", func := "griffe/griffelaw05.FaultTells", spec := "faultTells", inPlace := ["internal/abi.NoEscape"], unfollowed := true, recurses := true, apart := false, narrowed := true }
def FaultTellsUptoSaid : Prop := faultTellsUptoRow.holds Try.pinned (OpenSpec.upto faultTellsSpec)

/-- 'griffelaw05.FaultApart', WHERE WHAT IT READS IS OF BULK AT MOST 1048576: true; the input reads as it did. -/
def faultApartUptoRow : OpenClaim := { program := "ytpiaipiehjcflaa", sum := "925656331b15eeae5b7faf345d541f5ee0592f4c6820fa3259c6273dd509f07d", func := "griffe/griffelaw05.FaultApart", spec := "faultApart", inPlace := ["internal/abi.NoEscape"], unfollowed := true, recurses := true, apart := false, narrowed := true }
def FaultApartUptoSaid : Prop := faultApartUptoRow.holds Try.pinned (OpenSpec.upto faultApartSpec)

/-- 'griffelaw05.FaultLooks', WHERE WHAT IT READS IS OF BULK AT MOST 1048576: true; the input reads as it did. -/
def faultLooksUptoRow : OpenClaim := { program := "ytpiaipiehjcflaa", sum := "925656331b15eeae5b7faf345d541f5ee0592f4c6820fa3259c6273dd509f07d", func := "griffe/griffelaw05.FaultLooks", spec := "faultLooks", inPlace := ["internal/abi.NoEscape"], unfollowed := true, recurses := true, apart := false, narrowed := true }
def FaultLooksUptoSaid : Prop := faultLooksUptoRow.holds Try.pinned (OpenSpec.upto faultLooksSpec)

/-- 'griffelaw05.FaultFewest', WHERE WHAT IT READS IS OF BULK AT MOST 1048576: true; the input reads as it did. -/
def faultFewestUptoRow : OpenClaim := { program := "ytpiaipiehjcflaa", sum := "925656331b15eeae5b7faf345d541f5ee0592f4c6820fa3259c6273dd509f07d", func := "griffe/griffelaw05.FaultFewest", spec := "faultFewest", inPlace := ["internal/abi.NoEscape"], unfollowed := true, recurses := true, apart := false, narrowed := true }
def FaultFewestUptoSaid : Prop := faultFewestUptoRow.holds Try.pinned (OpenSpec.upto faultFewestSpec)

/-- 'griffelaw05.FaultLook', WHERE WHAT IT READS IS OF BULK AT MOST 1048576: true; the input reads as it did. -/
def faultLookUptoRow : OpenClaim := { program := "ytpiaipiehjcflaa", sum := "925656331b15eeae5b7faf345d541f5ee0592f4c6820fa3259c6273dd509f07d", func := "griffe/griffelaw05.FaultLook", spec := "faultLook", inPlace := ["internal/abi.NoEscape"], unfollowed := true, recurses := true, apart := false, narrowed := true }
def FaultLookUptoSaid : Prop := faultLookUptoRow.holds Try.pinned (OpenSpec.upto faultLookSpec)

/-- 'griffelaw05.FaultDoes', WHERE WHAT IT READS IS OF BULK AT MOST 1048576: true; the input reads as it did. -/
def faultDoesUptoRow : OpenClaim := { program := "ytpiaipiehjcflaa", sum := "925656331b15eeae5b7faf345d541f5ee0592f4c6820fa3259c6273dd509f07d", func := "griffe/griffelaw05.FaultDoes", spec := "faultDoes", inPlace := ["internal/abi.NoEscape"], unfollowed := true, recurses := true, apart := false, narrowed := true }
def FaultDoesUptoSaid : Prop := faultDoesUptoRow.holds Try.pinned (OpenSpec.upto faultDoesSpec)

/-- 'griffelaw05.FaultAlls', WHERE WHAT IT READS IS OF BULK AT MOST 1048576: true; the input reads as it did. -/
def faultAllsUptoRow : OpenClaim := { program := "ytpiaipiehjcflaa", sum := "925656331b15eeae5b7faf345d541f5ee0592f4c6820fa3259c6273dd509f07d", func := "griffe/griffelaw05.FaultAlls", spec := "faultAlls", inPlace := ["internal/abi.NoEscape"], unfollowed := true, recurses := true, apart := false, narrowed := true }
def FaultAllsUptoSaid : Prop := faultAllsUptoRow.holds Try.pinned (OpenSpec.upto faultAllsSpec)

/-- 'griffelaw05.FaultTrue', WHERE WHAT IT READS IS OF BULK AT MOST 1048576: true; the input reads as it did. -/
def faultTrueUptoRow : OpenClaim := { program := "ytpiaipiehjcflaa", sum := "925656331b15eeae5b7faf345d541f5ee0592f4c6820fa3259c6273dd509f07d", func := "griffe/griffelaw05.FaultTrue", spec := "faultTrue", inPlace := ["internal/abi.NoEscape"], unfollowed := true, recurses := true, apart := false, narrowed := true }
def FaultTrueUptoSaid : Prop := faultTrueUptoRow.holds Try.pinned (OpenSpec.upto faultTrueSpec)

/-- 'griffelaw05.FaultShows', WHERE WHAT IT READS IS OF BULK AT MOST 1048576: true; the input reads as it did. -/
def faultShowsUptoRow : OpenClaim := { program := "ytpiaipiehjcflaa", sum := "925656331b15eeae5b7faf345d541f5ee0592f4c6820fa3259c6273dd509f07d", func := "griffe/griffelaw05.FaultShows", spec := "faultShows", inPlace := ["internal/abi.NoEscape"], unfollowed := true, recurses := true, apart := false, narrowed := true }
def FaultShowsUptoSaid : Prop := faultShowsUptoRow.holds Try.pinned (OpenSpec.upto faultShowsSpec)

end Rows
end Go.Proofs.Ytpiaipiehjcflaa
