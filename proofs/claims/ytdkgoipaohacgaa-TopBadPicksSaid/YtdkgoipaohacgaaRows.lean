/-
  No cell of these rows narrows 'for every input' (looked for: loops, veiled, ifaces, maps, wideKeys, modest, calm, conditions, laid).
  DERIVED. THE GIVEN ROWS OF THIS SEAT. 4 by the template 'for every input the law returns true; each argument reads behind the call as it read before'; 0 by the template 'total and deterministic' (their statements: YtdkgoipaohacgaaTotals.lean).
  GIVEN WITH THE SEED: the statements are not yours to turn. If you find one false, say at which input.
  Laid BY PROGRAM, IN A SANDBOX (cutbox-rows.mjs): the forced cells as the released guide's own fill.sh prints them over the translation cd1907ed01a6acd1… (all of the seat's roots in one cut). By AI agents, Wed Nov 11 2026. No macro, syntax, notation, axiom, sorry.
-/
import Derived.Test.YtdkgoipaohacgaaChecked
import GoSem.Claim
import GoSem.ClaimJoined
import GoSem.ClaimMapViews
import Derived.JoinedTies
import Derived.KernelRfl
namespace Go.Proofs.Ytdkgoipaohacgaa
/- THE CELL 'sum', in the pinned program and in every row, IS THE sha256 OF THE DUMP (.gsa) THAT YtdkgoipaohacgaaProg.lean LOADS. Nothing in Lean hashes anything: it is a label: what it is worth is what the hold of that sum in a sandbox is worth. -/
noncomputable def Try.pinned : Pinned := { name := "ytdkgoipaohacgaa", sum := "cd1907ed01a6acd139530cf7318a59842a391a3214936e89df6921d083dd3fb9", checked := Try.checked }
namespace Rows
def none {H : Type} : Left H := { results := [], args := [] }

/-- 'griffetop.TopLooseFault': WHATEVER THE INPUT: true; the input reads as it did. -/
def topLooseFaultSpec : ChangeSpec := { name := "topLooseFault", fn := fun _ => fun
  | [d1, d2] => { results := [.lit (.bool true)], args := [d1, d2] }
  | _ => none }
def topLooseFaultRow : OpenClaim := { program := "ytdkgoipaohacgaa", sum := "cd1907ed01a6acd139530cf7318a59842a391a3214936e89df6921d083dd3fb9", func := "griffe/griffetop.TopLooseFault", spec := "topLooseFault", inPlace := ["internal/abi.NoEscape"], unfollowed := true, recurses := true, plainKeys := false, apart := false }
def TopLooseFaultSaid : Prop := topLooseFaultRow.holds Try.pinned (OpenSpec.ofChange topLooseFaultSpec)

/-- ITS FALSE NEIGHBOUR: 'it returns false'. Refute it at one input. -/
def topLooseFaultWrong : ChangeSpec := { name := "topLooseFault", fn := fun _ => fun
  | [d1, d2] => { results := [.lit (.bool false)], args := [d1, d2] }
  | _ => none }
def TopLooseFaultWrongFalsely : Prop := topLooseFaultRow.holds Try.pinned (OpenSpec.ofChange topLooseFaultWrong)

/-- 'griffetop.TopBadPicks': WHATEVER THE INPUT: true; the input reads as it did. -/
def topBadPicksSpec : ChangeSpec := { name := "topBadPicks", fn := fun _ => fun
  | [d1, d2, d3] => { results := [.lit (.bool true)], args := [d1, d2, d3] }
  | _ => none }
def topBadPicksRow : OpenClaim := { program := "ytdkgoipaohacgaa", sum := "cd1907ed01a6acd139530cf7318a59842a391a3214936e89df6921d083dd3fb9", func := "griffe/griffetop.TopBadPicks", spec := "topBadPicks", inPlace := ["internal/abi.NoEscape"], unfollowed := true, recurses := true, plainKeys := false, apart := false }
def TopBadPicksSaid : Prop := topBadPicksRow.holds Try.pinned (OpenSpec.ofChange topBadPicksSpec)

/-- ITS FALSE NEIGHBOUR: 'it returns false'. Refute it at one input. -/
def topBadPicksWrong : ChangeSpec := { name := "topBadPicks", fn := fun _ => fun
  | [d1, d2, d3] => { results := [.lit (.bool false)], args := [d1, d2, d3] }
  | _ => none }
def TopBadPicksWrongFalsely : Prop := topBadPicksRow.holds Try.pinned (OpenSpec.ofChange topBadPicksWrong)

/-- 'griffetop.TopNeedleFloat': WHATEVER THE INPUT: true; the input reads as it did. -/
def topNeedleFloatSpec : ChangeSpec := { name := "topNeedleFloat", fn := fun _ => fun
  | [d1, d2, d3] => { results := [.lit (.bool true)], args := [d1, d2, d3] }
  | _ => none }
def topNeedleFloatRow : OpenClaim := { program := "ytdkgoipaohacgaa", sum := "cd1907ed01a6acd139530cf7318a59842a391a3214936e89df6921d083dd3fb9", func := "griffe/griffetop.TopNeedleFloat", spec := "topNeedleFloat", inPlace := ["internal/abi.NoEscape"], unfollowed := true, recurses := true, plainKeys := false, apart := false }
def TopNeedleFloatSaid : Prop := topNeedleFloatRow.holds Try.pinned (OpenSpec.ofChange topNeedleFloatSpec)

/-- ITS FALSE NEIGHBOUR: 'it returns false'. Refute it at one input. -/
def topNeedleFloatWrong : ChangeSpec := { name := "topNeedleFloat", fn := fun _ => fun
  | [d1, d2, d3] => { results := [.lit (.bool false)], args := [d1, d2, d3] }
  | _ => none }
def TopNeedleFloatWrongFalsely : Prop := topNeedleFloatRow.holds Try.pinned (OpenSpec.ofChange topNeedleFloatWrong)

/-- 'griffetop.TopPunched': WHATEVER THE INPUT: true; the input reads as it did. -/
def topPunchedSpec : ChangeSpec := { name := "topPunched", fn := fun _ => fun
  | [d] => { results := [.lit (.bool true)], args := [d] }
  | _ => none }
def topPunchedRow : OpenClaim := { program := "ytdkgoipaohacgaa", sum := "cd1907ed01a6acd139530cf7318a59842a391a3214936e89df6921d083dd3fb9", func := "griffe/griffetop.TopPunched", spec := "topPunched", inPlace := ["internal/abi.NoEscape"], unfollowed := true, recurses := true, plainKeys := false, apart := false }
def TopPunchedSaid : Prop := topPunchedRow.holds Try.pinned (OpenSpec.ofChange topPunchedSpec)

/-- ITS FALSE NEIGHBOUR: 'it returns false'. Refute it at one input. -/
def topPunchedWrong : ChangeSpec := { name := "topPunched", fn := fun _ => fun
  | [d] => { results := [.lit (.bool false)], args := [d] }
  | _ => none }
def TopPunchedWrongFalsely : Prop := topPunchedRow.holds Try.pinned (OpenSpec.ofChange topPunchedWrong)

/- THE SECOND FORM. 'bulk': how many values and letters a reading holds, each counted each time it is reached (what is shared counts as often as it is met; a slice's spare places count too). A statement '..UptoSaid' is the law's where the arguments, and the package variables that the reading takes, are together of bulk at most 1048576: NARROWER than '..Said'. Prove '..Said' where nothing that the law and all that it calls make is longer than what came in: it says more and counts as full. Else prove '..UptoSaid'. A law counts once. -/
mutual
def uptoBulk {H : Type} : DataW H → Nat
  | .lit (.string bytes) => bytes.length + 1
  | .lit _ => 1
  | .nil => 1
  | .ptr d => uptoBulk d + 1
  | .slice elems spare => uptoBulkAll elems + uptoBulkAll spare + 1
  | .agg parts => uptoBulkAll parts + 1
  | .iface _ d => uptoBulk d + 1
  | .map entries => uptoBulkEntries entries + 1
  | .held _ => 1
def uptoBulkAll {H : Type} : List (DataW H) → Nat
  | [] => 0
  | d :: r => uptoBulk d + uptoBulkAll r
def uptoBulkEntries {H : Type} : List (Lit × DataW H) → Nat
  | [] => 0
  | x :: r => uptoBulkEntry x + uptoBulkEntries r
def uptoBulkEntry {H : Type} : Lit × DataW H → Nat
  | (.string bytes, d) => bytes.length + uptoBulk d + 1
  | (_, d) => uptoBulk d + 1
 end
def uptoSmall : (H : Type) → List (DataW H) → Bool := fun _ ds => decide (uptoBulkAll ds ≤ 1048576)
def OpenSpec.upto (s : _root_.Go.ChangeSpec) : _root_.Go.OpenSpec := { _root_.Go.OpenSpec.ofChange s with cond := some uptoSmall }

/-- 'griffetop.TopLooseFault', WHERE WHAT IT READS IS OF BULK AT MOST 1048576: true; the input reads as it did. -/
def topLooseFaultUptoRow : OpenClaim := { program := "ytdkgoipaohacgaa", sum := "cd1907ed01a6acd139530cf7318a59842a391a3214936e89df6921d083dd3fb9", func := "griffe/griffetop.TopLooseFault", spec := "topLooseFault", inPlace := ["internal/abi.NoEscape"], unfollowed := true, recurses := true, plainKeys := false, apart := false, narrowed := true }
def TopLooseFaultUptoSaid : Prop := topLooseFaultUptoRow.holds Try.pinned (OpenSpec.upto topLooseFaultSpec)

/-- 'griffetop.TopBadPicks', WHERE WHAT IT READS IS OF BULK AT MOST 1048576: true; the input reads as it did. -/
def topBadPicksUptoRow : OpenClaim := { program := "ytdkgoipaohacgaa", sum := "cd1907ed01a6acd139530cf7318a59842a391a3214936e89df6921d083dd3fb9", func := "griffe/griffetop.TopBadPicks", spec := "topBadPicks", inPlace := ["internal/abi.NoEscape"], unfollowed := true, recurses := true, plainKeys := false, apart := false, narrowed := true }
def TopBadPicksUptoSaid : Prop := topBadPicksUptoRow.holds Try.pinned (OpenSpec.upto topBadPicksSpec)

/-- 'griffetop.TopNeedleFloat', WHERE WHAT IT READS IS OF BULK AT MOST 1048576: true; the input reads as it did. -/
def topNeedleFloatUptoRow : OpenClaim := { program := "ytdkgoipaohacgaa", sum := "cd1907ed01a6acd139530cf7318a59842a391a3214936e89df6921d083dd3fb9", func := "griffe/griffetop.TopNeedleFloat", spec := "topNeedleFloat", inPlace := ["internal/abi.NoEscape"], unfollowed := true, recurses := true, plainKeys := false, apart := false, narrowed := true }
def TopNeedleFloatUptoSaid : Prop := topNeedleFloatUptoRow.holds Try.pinned (OpenSpec.upto topNeedleFloatSpec)

/-- 'griffetop.TopPunched', WHERE WHAT IT READS IS OF BULK AT MOST 1048576: true; the input reads as it did. -/
def topPunchedUptoRow : OpenClaim := { program := "ytdkgoipaohacgaa", sum := "cd1907ed01a6acd139530cf7318a59842a391a3214936e89df6921d083dd3fb9", func := "griffe/griffetop.TopPunched", spec := "topPunched", inPlace := ["internal/abi.NoEscape"], unfollowed := true, recurses := true, plainKeys := false, apart := false, narrowed := true }
def TopPunchedUptoSaid : Prop := topPunchedUptoRow.holds Try.pinned (OpenSpec.upto topPunchedSpec)

end Rows
end Go.Proofs.Ytdkgoipaohacgaa
