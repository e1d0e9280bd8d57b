/-
  No cell of these rows narrows 'for every input' (looked for: loops, veiled, ifaces, maps, wideKeys, modest, calm, conditions, laid).
  DERIVED. THE GIVEN ROWS OF THIS SEAT. 8 by the template 'for every input the law returns true; each argument reads behind the call as it read before'; 0 by the template 'total and deterministic' (their statements: YtkmbkaoolacofaaGreatTotals.lean).
  GIVEN WITH THE SEED: the statements are not yours to turn. If you find one false, say at which input.
  Laid BY PROGRAM, IN A SANDBOX (cutbox-rows.mjs): the forced cells as the released guide's own fill.sh prints them over the translation fb181988fa11450f… (all of the seat's roots in one cut). By AI agents, Wed Nov 11 2026. No macro, syntax, notation, axiom, sorry.
-/
import Derived.Test.YtkmbkaoolacofaaGreatChecked
import GoSem.Claim
import GoSem.ClaimJoined
import GoSem.ClaimMapViews
import Derived.JoinedTies
import Derived.KernelRfl
namespace Go.Proofs.YtkmbkaoolacofaaGreat
/- THE CELL 'sum', in the pinned program and in every row, IS THE sha256 OF THE DUMP (.gsa) THAT YtkmbkaoolacofaaGreatProg.lean LOADS. Nothing in Lean hashes anything: it is a label: what it is worth is what the hold of that sum in a sandbox is worth. -/
noncomputable def Tryz.pinned : Pinned := { name := "ytkmbkaoolacofaagreat", sum := "fb181988fa11450f4afc6e5d838857d81d68127488c6a590b413f6ccdd440542", checked := Tryz.checked }
namespace Rows
def none {H : Type} : Left H := { results := [], args := [] }

/-- 'griffelaw10.PayWages': WHATEVER THE INPUT: true; the input reads as it did. -/
def payWagesSpec : ChangeSpec := { name := "payWages", fn := fun _ => fun
  | [d1, d2, d3] => { results := [.lit (.bool true)], args := [d1, d2, d3] }
  | _ => none }
def payWagesRow : OpenClaim := { program := "ytkmbkaoolacofaagreat", sum := "fb181988fa11450f4afc6e5d838857d81d68127488c6a590b413f6ccdd440542", func := "griffe/griffelaw10.PayWages", spec := "payWages", unfollowed := true, recurses := true, plainKeys := false, apart := false }
def PayWagesSaid : Prop := payWagesRow.holds Tryz.pinned (OpenSpec.ofChange payWagesSpec)

/-- ITS FALSE NEIGHBOUR: 'it returns false'. Refute it at one input. -/
def payWagesWrong : ChangeSpec := { name := "payWages", fn := fun _ => fun
  | [d1, d2, d3] => { results := [.lit (.bool false)], args := [d1, d2, d3] }
  | _ => none }
def PayWagesWrongFalsely : Prop := payWagesRow.holds Tryz.pinned (OpenSpec.ofChange payWagesWrong)

/-- 'griffelaw10.PayBills': WHATEVER THE INPUT: true; the input reads as it did. -/
def payBillsSpec : ChangeSpec := { name := "payBills", fn := fun _ => fun
  | [d1, d2] => { results := [.lit (.bool true)], args := [d1, d2] }
  | _ => none }
def payBillsRow : OpenClaim := { program := "ytkmbkaoolacofaagreat", sum := "fb181988fa11450f4afc6e5d838857d81d68127488c6a590b413f6ccdd440542", func := "griffe/griffelaw10.PayBills", spec := "payBills", unfollowed := true, recurses := true, plainKeys := false, apart := false }
def PayBillsSaid : Prop := payBillsRow.holds Tryz.pinned (OpenSpec.ofChange payBillsSpec)

/-- ITS FALSE NEIGHBOUR: 'it returns false'. Refute it at one input. -/
def payBillsWrong : ChangeSpec := { name := "payBills", fn := fun _ => fun
  | [d1, d2] => { results := [.lit (.bool false)], args := [d1, d2] }
  | _ => none }
def PayBillsWrongFalsely : Prop := payBillsRow.holds Tryz.pinned (OpenSpec.ofChange payBillsWrong)

/-- 'griffelaw10.PayFills': WHATEVER THE INPUT: true; the input reads as it did. -/
def payFillsSpec : ChangeSpec := { name := "payFills", fn := fun _ => fun
  | [d] => { results := [.lit (.bool true)], args := [d] }
  | _ => none }
def payFillsRow : OpenClaim := { program := "ytkmbkaoolacofaagreat", sum := "fb181988fa11450f4afc6e5d838857d81d68127488c6a590b413f6ccdd440542", func := "griffe/griffelaw10.PayFills", spec := "payFills", unfollowed := true, recurses := true, plainKeys := false, apart := false }
def PayFillsSaid : Prop := payFillsRow.holds Tryz.pinned (OpenSpec.ofChange payFillsSpec)

/-- ITS FALSE NEIGHBOUR: 'it returns false'. Refute it at one input. -/
def payFillsWrong : ChangeSpec := { name := "payFills", fn := fun _ => fun
  | [d] => { results := [.lit (.bool false)], args := [d] }
  | _ => none }
def PayFillsWrongFalsely : Prop := payFillsRow.holds Tryz.pinned (OpenSpec.ofChange payFillsWrong)

/-- 'griffelaw10.PayExact': WHATEVER THE INPUT: true; the input reads as it did. -/
def payExactSpec : ChangeSpec := { name := "payExact", fn := fun _ => fun
  | [d1, d2, d3] => { results := [.lit (.bool true)], args := [d1, d2, d3] }
  | _ => none }
def payExactRow : OpenClaim := { program := "ytkmbkaoolacofaagreat", sum := "fb181988fa11450f4afc6e5d838857d81d68127488c6a590b413f6ccdd440542", func := "griffe/griffelaw10.PayExact", spec := "payExact", unfollowed := true, recurses := true, plainKeys := false, apart := false }
def PayExactSaid : Prop := payExactRow.holds Tryz.pinned (OpenSpec.ofChange payExactSpec)

/-- ITS FALSE NEIGHBOUR: 'it returns false'. Refute it at one input. -/
def payExactWrong : ChangeSpec := { name := "payExact", fn := fun _ => fun
  | [d1, d2, d3] => { results := [.lit (.bool false)], args := [d1, d2, d3] }
  | _ => none }
def PayExactWrongFalsely : Prop := payExactRow.holds Tryz.pinned (OpenSpec.ofChange payExactWrong)

/-- 'griffelaw10.PayFines': WHATEVER THE INPUT: true; the input reads as it did. -/
def payFinesSpec : ChangeSpec := { name := "payFines", fn := fun _ => fun
  | [d1, d2, d3] => { results := [.lit (.bool true)], args := [d1, d2, d3] }
  | _ => none }
def payFinesRow : OpenClaim := { program := "ytkmbkaoolacofaagreat", sum := "fb181988fa11450f4afc6e5d838857d81d68127488c6a590b413f6ccdd440542", func := "griffe/griffelaw10.PayFines", spec := "payFines", unfollowed := true, recurses := true, plainKeys := false, apart := false }
def PayFinesSaid : Prop := payFinesRow.holds Tryz.pinned (OpenSpec.ofChange payFinesSpec)

/-- ITS FALSE NEIGHBOUR: 'it returns false'. Refute it at one input. -/
def payFinesWrong : ChangeSpec := { name := "payFines", fn := fun _ => fun
  | [d1, d2, d3] => { results := [.lit (.bool false)], args := [d1, d2, d3] }
  | _ => none }
def PayFinesWrongFalsely : Prop := payFinesRow.holds Tryz.pinned (OpenSpec.ofChange payFinesWrong)

/-- 'griffelaw10.PaySlip': WHATEVER THE INPUT: true; the input reads as it did. -/
def paySlipSpec : ChangeSpec := { name := "paySlip", fn := fun _ => fun
  | [d1, d2, d3] => { results := [.lit (.bool true)], args := [d1, d2, d3] }
  | _ => none }
def paySlipRow : OpenClaim := { program := "ytkmbkaoolacofaagreat", sum := "fb181988fa11450f4afc6e5d838857d81d68127488c6a590b413f6ccdd440542", func := "griffe/griffelaw10.PaySlip", spec := "paySlip", unfollowed := true, recurses := true, plainKeys := false, apart := false }
def PaySlipSaid : Prop := paySlipRow.holds Tryz.pinned (OpenSpec.ofChange paySlipSpec)

/-- ITS FALSE NEIGHBOUR: 'it returns false'. Refute it at one input. -/
def paySlipWrong : ChangeSpec := { name := "paySlip", fn := fun _ => fun
  | [d1, d2, d3] => { results := [.lit (.bool false)], args := [d1, d2, d3] }
  | _ => none }
def PaySlipWrongFalsely : Prop := paySlipRow.holds Tryz.pinned (OpenSpec.ofChange paySlipWrong)

/-- 'griffelaw10.PayBlots': WHATEVER THE INPUT: true; the input reads as it did. -/
def payBlotsSpec : ChangeSpec := { name := "payBlots", fn := fun _ => fun
  | [d1, d2] => { results := [.lit (.bool true)], args := [d1, d2] }
  | _ => none }
def payBlotsRow : OpenClaim := { program := "ytkmbkaoolacofaagreat", sum := "fb181988fa11450f4afc6e5d838857d81d68127488c6a590b413f6ccdd440542", func := "griffe/griffelaw10.PayBlots", spec := "payBlots", unfollowed := true, recurses := true, plainKeys := false, apart := false }
def PayBlotsSaid : Prop := payBlotsRow.holds Tryz.pinned (OpenSpec.ofChange payBlotsSpec)

/-- ITS FALSE NEIGHBOUR: 'it returns false'. Refute it at one input. -/
def payBlotsWrong : ChangeSpec := { name := "payBlots", fn := fun _ => fun
  | [d1, d2] => { results := [.lit (.bool false)], args := [d1, d2] }
  | _ => none }
def PayBlotsWrongFalsely : Prop := payBlotsRow.holds Tryz.pinned (OpenSpec.ofChange payBlotsWrong)

/-- 'griffelaw10.PayMends': WHATEVER THE INPUT: true; the input reads as it did. -/
def payMendsSpec : ChangeSpec := { name := "payMends", fn := fun _ => fun
  | [d] => { results := [.lit (.bool true)], args := [d] }
  | _ => none }
def payMendsRow : OpenClaim := { program := "ytkmbkaoolacofaagreat", sum := "fb181988fa11450f4afc6e5d838857d81d68127488c6a590b413f6ccdd440542", func := "griffe/griffelaw10.PayMends", spec := "payMends", unfollowed := true, recurses := true, plainKeys := false, apart := false }
def PayMendsSaid : Prop := payMendsRow.holds Tryz.pinned (OpenSpec.ofChange payMendsSpec)

/-- ITS FALSE NEIGHBOUR: 'it returns false'. Refute it at one input. -/
def payMendsWrong : ChangeSpec := { name := "payMends", fn := fun _ => fun
  | [d] => { results := [.lit (.bool false)], args := [d] }
  | _ => none }
def PayMendsWrongFalsely : Prop := payMendsRow.holds Tryz.pinned (OpenSpec.ofChange payMendsWrong)

/- THE SECOND FORM. 'bulk': how many values and letters a reading holds, each counted each time it is reached (what is shared counts as often as it is met; a slice's spare places count too). A statement '..UptoSaid' is the law's where the arguments, and the package variables that the reading takes, are together of bulk at most 1048576: NARROWER than '..Said'. Prove '..Said' where nothing that the law and all that it calls make is longer than what came in: it says more and counts as full. Else prove '..UptoSaid'. A law counts once. -/
mutual
def uptoBulk {H : Type} : DataW H → Nat
  | .lit (.string bytes) => bytes.length + 1
  | .lit _ => 1
  | .nil => 1
  | .ptr d => uptoBulk d + 1
  | .slice elems spare => uptoBulkAll elems + uptoBulkAll spare + 1
  | .agg parts => uptoBulkAll parts + 1
  | .iface _ d => uptoBulk d + 1
  | .map entries => uptoBulkEntries entries + 1
  | .held _ => 1
def uptoBulkAll {H : Type} : List (DataW H) → Nat
  | [] => 0
  | d :: r => uptoBulk d + uptoBulkAll r
def uptoBulkEntries {H : Type} : List (Lit × DataW H) → Nat
  | [] => 0
  | x :: r => uptoBulkEntry x + uptoBulkEntries r
def uptoBulkEntry {H : Type} : Lit × DataW H → Nat
  | (.string bytes, d) => bytes.length + uptoBulk d + 1
  | (_, d) => uptoBulk d + 1
 end
def uptoSmall : (H : Type) → List (DataW H) → Bool := fun _ ds => decide (uptoBulkAll ds ≤ 1048576)
def OpenSpec.upto (s : _root_.Go.ChangeSpec) : _root_.Go.OpenSpec := { _root_.Go.OpenSpec.ofChange s with cond := some uptoSmall }

/-- 'griffelaw10.PayWages', WHERE WHAT IT READS IS OF BULK AT MOST 1048576: true; the input reads as it did. -/
def payWagesUptoRow : OpenClaim := { program := "ytkmbkaoolacofaagreat", sum := "fb181988fa11450f4afc6e5d838857d81d68127488c6a590b413f6ccdd440542", func := "griffe/griffelaw10.PayWages", spec := "payWages", unfollowed := true, recurses := true, plainKeys := false, apart := false, narrowed := true }
def PayWagesUptoSaid : Prop := payWagesUptoRow.holds Tryz.pinned (OpenSpec.upto payWagesSpec)

/-- 'griffelaw10.PayBills', WHERE WHAT IT READS IS OF BULK AT MOST 1048576: true; the input reads as it did. -/
def payBillsUptoRow : OpenClaim := { program := "ytkmbkaoolacofaagreat", sum := "fb181988fa11450f4afc6e5d838857d81d68127488c6a590b413f6ccdd440542", func := "griffe/griffelaw10.PayBills", spec := "payBills", unfollowed := true, recurses := true, plainKeys := false, apart := false, narrowed := true }
def PayBillsUptoSaid : Prop := payBillsUptoRow.holds Tryz.pinned (OpenSpec.upto payBillsSpec)

/-- 'griffelaw10.PayFills', WHERE WHAT IT READS IS OF BULK AT MOST 1048576: true; the input reads as it did. -/
def payFillsUptoRow : OpenClaim := { program := "ytkmbkaoolacofaagreat", sum := "fb181988fa11450f4afc6e5d838857d81d68127488c6a590b413f6ccdd440542", func := "griffe/griffelaw10.PayFills", spec := "payFills", unfollowed := true, recurses := true, plainKeys := false, apart := false, narrowed := true }
def PayFillsUptoSaid : Prop := payFillsUptoRow.holds Tryz.pinned (OpenSpec.upto payFillsSpec)

/-- 'griffelaw10.PayExact', WHERE WHAT IT READS IS OF BULK AT MOST 1048576: true; the input reads as it did. -/
def payExactUptoRow : OpenClaim := { program := "ytkmbkaoolacofaagreat", sum := "fb181988fa11450f4afc6e5d838857d81d68127488c6a590b413f6ccdd440542", func := "griffe/griffelaw10.PayExact", spec := "payExact", unfollowed := true, recurses := true, plainKeys := false, apart := false, narrowed := true }
def PayExactUptoSaid : Prop := payExactUptoRow.holds Tryz.pinned (OpenSpec.upto payExactSpec)

/-- 'griffelaw10.PayFines', WHERE WHAT IT READS IS OF BULK AT MOST 1048576: true; the input reads as it did. -/
def payFinesUptoRow : OpenClaim := { program := "ytkmbkaoolacofaagreat", sum := "fb181988fa11450f4afc6e5d838857d81d68127488c6a590b413f6ccdd440542", func := "griffe/griffelaw10.PayFines", spec := "payFines", unfollowed := true, recurses := true, plainKeys := false, apart := false, narrowed := true }
def PayFinesUptoSaid : Prop := payFinesUptoRow.holds Tryz.pinned (OpenSpec.upto payFinesSpec)

/-- 'griffelaw10.PaySlip', WHERE WHAT IT READS IS OF BULK AT MOST 1048576: true; the input reads as it did. -/
def paySlipUptoRow : OpenClaim := { program := "ytkmbkaoolacofaagreat", sum := "fb181988fa11450f4afc6e5d838857d81d68127488c6a590b413f6ccdd440542", func := "griffe/griffelaw10.PaySlip", spec := "paySlip", unfollowed := true, recurses := true, plainKeys := false, apart := false, narrowed := true }
def PaySlipUptoSaid : Prop := paySlipUptoRow.holds Tryz.pinned (OpenSpec.upto paySlipSpec)

/-- 'griffelaw10.PayBlots', WHERE WHAT IT READS IS OF BULK AT MOST 1048576: true; the input reads as it did. -/
def payBlotsUptoRow : OpenClaim := { program := "ytkmbkaoolacofaagreat", sum := "fb181988fa11450f4afc6e5d838857d81d68127488c6a590b413f6ccdd440542", func := "griffe/griffelaw10.PayBlots", spec := "payBlots", unfollowed := true, recurses := true, plainKeys := false, apart := false, narrowed := true }
def PayBlotsUptoSaid : Prop := payBlotsUptoRow.holds Tryz.pinned (OpenSpec.upto payBlotsSpec)

/-- 'griffelaw10.PayMends', WHERE WHAT IT READS IS OF BULK AT MOST 1048576: true; the input reads as it did. -/
def payMendsUptoRow : OpenClaim := { program := "ytkmbkaoolacofaagreat", sum := "fb181988fa11450f4afc6e5d838857d81d68127488c6a590b413f6ccdd440542", func := "griffe/griffelaw10.PayMends", spec := "payMends", unfollowed := true, recurses := true, plainKeys := false, apart := false, narrowed := true }
def PayMendsUptoSaid : Prop := payMendsUptoRow.holds Tryz.pinned (OpenSpec.upto payMendsSpec)

end Rows
end Go.Proofs.YtkmbkaoolacofaaGreat
