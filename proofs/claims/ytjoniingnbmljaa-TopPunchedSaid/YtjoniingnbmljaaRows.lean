/-
  No cell of these rows narrows 'for every input' (looked for: loops, veiled, ifaces, maps, wideKeys, modest, calm, conditions, laid).
  DERIVED. THE GIVEN ROWS OF THIS SEAT. 6 by the template 'for every input the law returns true; each argument reads behind the call as it read before'; 0 by the template 'total and deterministic' (their statements: YtjoniingnbmljaaTotals.lean).
  GIVEN WITH THE SEED: the statements are not yours to turn. If you find one false, say at which input.
  Laid BY PROGRAM, IN A SANDBOX (cutbox-rows.mjs): the forced cells as the released guide's own fill.sh prints them over the translation 3e81ba9def1a807a… (all of the seat's roots in one cut). By AI agents, Wed Nov 11 2026. No macro, syntax, notation, axiom, sorry.
-/
import Derived.Test.YtjoniingnbmljaaChecked
import GoSem.Claim
import GoSem.ClaimJoined
import GoSem.ClaimMapViews
import Derived.JoinedTies
import Derived.KernelRfl
namespace Go.Proofs.Ytjoniingnbmljaa
/- THE CELL 'sum', in the pinned program and in every row, IS THE sha256 OF THE DUMP (.gsa) THAT YtjoniingnbmljaaProg.lean LOADS. Nothing in Lean hashes anything: it is a label: what it is worth is what the hold of that sum in a sandbox is worth. -/
noncomputable def Try.pinned : Pinned := { name := "ytjoniingnbmljaa", sum := "3e81ba9def1a807a7c7d10c60b8f1cf31ce991e57d5fa3bdb5120a429174603f", checked := Try.checked }
namespace Rows
def none {H : Type} : Left H := { results := [], args := [] }

/-- 'griffetop.TopColourFault': WHATEVER THE INPUT: true; the input reads as it did. -/
def topColourFaultSpec : ChangeSpec := { name := "topColourFault", fn := fun _ => fun
  | [d1, d2] => { results := [.lit (.bool true)], args := [d1, d2] }
  | _ => none }
def topColourFaultRow : OpenClaim := { program := "ytjoniingnbmljaa", sum := "3e81ba9def1a807a7c7d10c60b8f1cf31ce991e57d5fa3bdb5120a429174603f", func := "griffe/griffetop.TopColourFault", spec := "topColourFault", inPlace := ["internal/abi.NoEscape"], unfollowed := true, recurses := true, plainKeys := false, apart := false }
def TopColourFaultSaid : Prop := topColourFaultRow.holds Try.pinned (OpenSpec.ofChange topColourFaultSpec)

/-- ITS FALSE NEIGHBOUR: 'it returns false'. Refute it at one input. -/
def topColourFaultWrong : ChangeSpec := { name := "topColourFault", fn := fun _ => fun
  | [d1, d2] => { results := [.lit (.bool false)], args := [d1, d2] }
  | _ => none }
def TopColourFaultWrongFalsely : Prop := topColourFaultRow.holds Try.pinned (OpenSpec.ofChange topColourFaultWrong)

/-- 'griffetop.TopYarnOut': WHATEVER THE INPUT: true; the input reads as it did. -/
def topYarnOutSpec : ChangeSpec := { name := "topYarnOut", fn := fun _ => fun
  | [d1, d2, d3] => { results := [.lit (.bool true)], args := [d1, d2, d3] }
  | _ => none }
def topYarnOutRow : OpenClaim := { program := "ytjoniingnbmljaa", sum := "3e81ba9def1a807a7c7d10c60b8f1cf31ce991e57d5fa3bdb5120a429174603f", func := "griffe/griffetop.TopYarnOut", spec := "topYarnOut", unfollowed := true, recurses := true, plainKeys := false, apart := false }
def TopYarnOutSaid : Prop := topYarnOutRow.holds Try.pinned (OpenSpec.ofChange topYarnOutSpec)

/-- ITS FALSE NEIGHBOUR: 'it returns false'. Refute it at one input. -/
def topYarnOutWrong : ChangeSpec := { name := "topYarnOut", fn := fun _ => fun
  | [d1, d2, d3] => { results := [.lit (.bool false)], args := [d1, d2, d3] }
  | _ => none }
def TopYarnOutWrongFalsely : Prop := topYarnOutRow.holds Try.pinned (OpenSpec.ofChange topYarnOutWrong)

/-- 'griffetop.TopLooseFault': WHATEVER THE INPUT: true; the input reads as it did. -/
def topLooseFaultSpec : ChangeSpec := { name := "topLooseFault", fn := fun _ => fun
  | [d1, d2] => { results := [.lit (.bool true)], args := [d1, d2] }
  | _ => none }
def topLooseFaultRow : OpenClaim := { program := "ytjoniingnbmljaa", sum := "3e81ba9def1a807a7c7d10c60b8f1cf31ce991e57d5fa3bdb5120a429174603f", func := "griffe/griffetop.TopLooseFault", spec := "topLooseFault", inPlace := ["internal/abi.NoEscape"], unfollowed := true, recurses := true, plainKeys := false, apart := false }
def TopLooseFaultSaid : Prop := topLooseFaultRow.holds Try.pinned (OpenSpec.ofChange topLooseFaultSpec)

/-- ITS FALSE NEIGHBOUR: 'it returns false'. Refute it at one input. -/
def topLooseFaultWrong : ChangeSpec := { name := "topLooseFault", fn := fun _ => fun
  | [d1, d2] => { results := [.lit (.bool false)], args := [d1, d2] }
  | _ => none }
def TopLooseFaultWrongFalsely : Prop := topLooseFaultRow.holds Try.pinned (OpenSpec.ofChange topLooseFaultWrong)

/-- 'griffetop.TopNeedleFloat': WHATEVER THE INPUT: true; the input reads as it did. -/
def topNeedleFloatSpec : ChangeSpec := { name := "topNeedleFloat", fn := fun _ => fun
  | [d1, d2, d3] => { results := [.lit (.bool true)], args := [d1, d2, d3] }
  | _ => none }
def topNeedleFloatRow : OpenClaim := { program := "ytjoniingnbmljaa", sum := "3e81ba9def1a807a7c7d10c60b8f1cf31ce991e57d5fa3bdb5120a429174603f", func := "griffe/griffetop.TopNeedleFloat", spec := "topNeedleFloat", inPlace := ["internal/abi.NoEscape"], unfollowed := true, recurses := true, plainKeys := false, apart := false }
def TopNeedleFloatSaid : Prop := topNeedleFloatRow.holds Try.pinned (OpenSpec.ofChange topNeedleFloatSpec)

/-- ITS FALSE NEIGHBOUR: 'it returns false'. Refute it at one input. -/
def topNeedleFloatWrong : ChangeSpec := { name := "topNeedleFloat", fn := fun _ => fun
  | [d1, d2, d3] => { results := [.lit (.bool false)], args := [d1, d2, d3] }
  | _ => none }
def TopNeedleFloatWrongFalsely : Prop := topNeedleFloatRow.holds Try.pinned (OpenSpec.ofChange topNeedleFloatWrong)

/-- 'griffetop.TopFaulty': WHATEVER THE INPUT: true; the input reads as it did. -/
def topFaultySpec : ChangeSpec := { name := "topFaulty", fn := fun _ => fun
  | [d1, d2, d3] => { results := [.lit (.bool true)], args := [d1, d2, d3] }
  | _ => none }
def topFaultyRow : OpenClaim := { program := "ytjoniingnbmljaa", sum := "3e81ba9def1a807a7c7d10c60b8f1cf31ce991e57d5fa3bdb5120a429174603f", func := "griffe/griffetop.TopFaulty", spec := "topFaulty", unfollowed := true, recurses := true, plainKeys := false, apart := false }
def TopFaultySaid : Prop := topFaultyRow.holds Try.pinned (OpenSpec.ofChange topFaultySpec)

/-- ITS FALSE NEIGHBOUR: 'it returns false'. Refute it at one input. -/
def topFaultyWrong : ChangeSpec := { name := "topFaulty", fn := fun _ => fun
  | [d1, d2, d3] => { results := [.lit (.bool false)], args := [d1, d2, d3] }
  | _ => none }
def TopFaultyWrongFalsely : Prop := topFaultyRow.holds Try.pinned (OpenSpec.ofChange topFaultyWrong)

/-- 'griffetop.TopPunched': WHATEVER THE INPUT: true; the input reads as it did. -/
def topPunchedSpec : ChangeSpec := { name := "topPunched", fn := fun _ => fun
  | [d] => { results := [.lit (.bool true)], args := [d] }
  | _ => none }
def topPunchedRow : OpenClaim := { program := "ytjoniingnbmljaa", sum := "3e81ba9def1a807a7c7d10c60b8f1cf31ce991e57d5fa3bdb5120a429174603f", func := "griffe/griffetop.TopPunched", spec := "topPunched", inPlace := ["internal/abi.NoEscape"], unfollowed := true, recurses := true, plainKeys := false, apart := false }
def TopPunchedSaid : Prop := topPunchedRow.holds Try.pinned (OpenSpec.ofChange topPunchedSpec)

/-- ITS FALSE NEIGHBOUR: 'it returns false'. Refute it at one input. -/
def topPunchedWrong : ChangeSpec := { name := "topPunched", fn := fun _ => fun
  | [d] => { results := [.lit (.bool false)], args := [d] }
  | _ => none }
def TopPunchedWrongFalsely : Prop := topPunchedRow.holds Try.pinned (OpenSpec.ofChange topPunchedWrong)

/- THE SECOND FORM. 'bulk': how many values and letters a reading holds, each counted each time it is reached (what is shared counts as often as it is met; a slice's spare places count too). A statement '..UptoSaid' is the law's where the arguments, and the package variables that the reading takes, are together of bulk at most 1048576: NARROWER than '..Said'. Prove '..Said' where nothing that the law and all that it calls make is longer than what came in: it says more and counts as full. Else prove '..UptoSaid'. A law counts once. -/
mutual
def uptoBulk {H : Type} : DataW H → Nat
  | .lit (.string bytes) => bytes.length + 1
  | .lit _ => 1
  | .nil => 1
  | .ptr d => uptoBulk d + 1
  | .slice elems spare => uptoBulkAll elems + uptoBulkAll spare + 1
  | .agg parts => uptoBulkAll parts + 1
  | .iface _ d => uptoBulk d + 1
  | .map entries => uptoBulkEntries entries + 1
  | .held _ => 1
def uptoBulkAll {H : Type} : List (DataW H) → Nat
  | [] => 0
  | d :: r => uptoBulk d + uptoBulkAll r
def uptoBulkEntries {H : Type} : List (Lit × DataW H) → Nat
  | [] => 0
  | x :: r => uptoBulkEntry x + uptoBulkEntries r
def uptoBulkEntry {H : Type} : Lit × DataW H → Nat
  | (.string bytes, d) => bytes.length + uptoBulk d + 1
  | (_, d) => uptoBulk d + 1
 end
def uptoSmall : (H : Type) → List (DataW H) → Bool := fun _ ds => decide (uptoBulkAll ds ≤ 1048576)
def OpenSpec.upto (s : _root_.Go.ChangeSpec) : _root_.Go.OpenSpec := { _root_.Go.OpenSpec.ofChange s with cond := some uptoSmall }

/-- 'griffetop.TopColourFault', WHERE WHAT IT READS IS OF BULK AT MOST 1048576: true; the input reads as it did. -/
def topColourFaultUptoRow : OpenClaim := { program := "ytjoniingnbmljaa", sum := "3e81ba9def1a807a7c7d10c60b8f1cf31ce991e57d5fa3bdb5120a429174603f", func := "griffe/griffetop.TopColourFault", spec := "topColourFault", inPlace := ["internal/abi.NoEscape"], unfollowed := true, recurses := true, plainKeys := false, apart := false, narrowed := true }
def TopColourFaultUptoSaid : Prop := topColourFaultUptoRow.holds Try.pinned (OpenSpec.upto topColourFaultSpec)

/-- 'griffetop.TopYarnOut', WHERE WHAT IT READS IS OF BULK AT MOST 1048576: true; the input reads as it did. -/
def topYarnOutUptoRow : OpenClaim := { program := "ytjoniingnbmljaa", sum := "3e81ba9def1a807a7c7d10c60b8f1cf31ce991e57d5fa3bdb5120a429174603f", func := "griffe/griffetop.TopYarnOut", spec := "topYarnOut", unfollowed := true, recurses := true, plainKeys := false, apart := false, narrowed := true }
def TopYarnOutUptoSaid : Prop := topYarnOutUptoRow.holds Try.pinned (OpenSpec.upto topYarnOutSpec)

/-- 'griffetop.TopLooseFault', WHERE WHAT IT READS IS OF BULK AT MOST 1048576: true; the input reads as it did. -/
def topLooseFaultUptoRow : OpenClaim := { program := "ytjoniingnbmljaa", sum := "3e81ba9def1a807a7c7d10c60b8f1cf31ce991e57d5fa3bdb5120a429174603f", func := "griffe/griffetop.TopLooseFault", spec := "topLooseFault", inPlace := ["internal/abi.NoEscape"], unfollowed := true, recurses := true, plainKeys := false, apart := false, narrowed := true }
def TopLooseFaultUptoSaid : Prop := topLooseFaultUptoRow.holds Try.pinned (OpenSpec.upto topLooseFaultSpec)

/-- 'griffetop.TopNeedleFloat', WHERE WHAT IT READS IS OF BULK AT MOST 1048576: true; the input reads as it did. -/
def topNeedleFloatUptoRow : OpenClaim := { program := "ytjoniingnbmljaa", sum := "3e81ba9def1a807a7c7d10c60b8f1cf31ce991e57d5fa3bdb5120a429174603f", func := "griffe/griffetop.TopNeedleFloat", spec := "topNeedleFloat", inPlace := ["internal/abi.NoEscape"], unfollowed := true, recurses := true, plainKeys := false, apart := false, narrowed := true }
def TopNeedleFloatUptoSaid : Prop := topNeedleFloatUptoRow.holds Try.pinned (OpenSpec.upto topNeedleFloatSpec)

/-- 'griffetop.TopFaulty', WHERE WHAT IT READS IS OF BULK AT MOST 1048576: true; the input reads as it did. -/
def topFaultyUptoRow : OpenClaim := { program := "ytjoniingnbmljaa", sum := "3e81ba9def1a807a7c7d10c60b8f1cf31ce991e57d5fa3bdb5120a429174603f", func := "griffe/griffetop.TopFaulty", spec := "topFaulty", unfollowed := true, recurses := true, plainKeys := false, apart := false, narrowed := true }
def TopFaultyUptoSaid : Prop := topFaultyUptoRow.holds Try.pinned (OpenSpec.upto topFaultySpec)

/-- 'griffetop.TopPunched', WHERE WHAT IT READS IS OF BULK AT MOST 1048576: true; the input reads as it did. -/
def topPunchedUptoRow : OpenClaim := { program := "ytjoniingnbmljaa", sum := "3e81ba9def1a807a7c7d10c60b8f1cf31ce991e57d5fa3bdb5120a429174603f", func := "griffe/griffetop.TopPunched", spec := "topPunched", inPlace := ["internal/abi.NoEscape"], unfollowed := true, recurses := true, plainKeys := false, apart := false, narrowed := true }
def TopPunchedUptoSaid : Prop := topPunchedUptoRow.holds Try.pinned (OpenSpec.upto topPunchedSpec)

end Rows
end Go.Proofs.Ytjoniingnbmljaa
