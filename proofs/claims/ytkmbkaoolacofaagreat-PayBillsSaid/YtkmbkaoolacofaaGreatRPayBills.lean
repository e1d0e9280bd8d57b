/- PayBills: for every input the law returns true, and each argument reads behind the call as it read before. No condition. -/
import Derived.Test.YtkmbkaoolacofaaGreatLawX
import Derived.Test.YtkmbkaoolacofaaGreatRow
import Derived.Test.YtkmbkaoolacofaaGreatRows
set_option maxRecDepth 100000
namespace Go.Proofs.YtkmbkaoolacofaaGreat
open Go.ChangeShapes Go.WideShapes Go.ChangeAt Go.RowKit

def ok3 (x : Int) : Prop := (-9223372036854775808 ≤ x ∧ x ≤ 9223372036854775807)
theorem op3 : Opens Tryz.prog 3 Int ok3 := by
 have h := opens_int Tryz.underlying3 (show Tryz.prog.cellsOf 3 = 1 from by kernel_rfl)
 exact h
def ok87 (x : PayRate) : Prop := ok3 x.From ∧ ok3 x.Rate
theorem op87 : Opens Tryz.prog 87 PayRate ok87 := by
 have h := opens_struct (β := Int × Int) (fun x : PayRate => (x.From, x.Rate)) rfl rfl (fun _ _ _ _ h => h) (fun b => ⟨⟨b.1, b.2⟩, rfl⟩) Tryz.underlying87 (show Tryz.prog.cellsOf 87 = 2 from by kernel_rfl) (opensF_cons (off := 0) (off' := 1) rfl rfl op3 (opensF_one (off := 1) rfl op3))
 exact h
def ok22 (x : List PayRate) : Prop := x.length ≤ 9223372036854775807 ∧ ∀ y ∈ x, ok87 y
theorem op22 : Opens Tryz.prog 22 (List PayRate) ok22 := by
 have h := opens_slice op87 Tryz.underlying22 (show Tryz.prog.cellsOf 22 = 1 from by kernel_rfl) (by decide)
 exact h
def ok23 (x : List Int) : Prop := x.length ≤ 9223372036854775807 ∧ ∀ y ∈ x, ok3 y
theorem op23 : Opens Tryz.prog 23 (List Int) ok23 := by
 have h := opens_slice op3 Tryz.underlying23 (show Tryz.prog.cellsOf 23 = 1 from by kernel_rfl) (by decide)
 exact h
def ok25 (x : PayList) : Prop := ok22 x.Rates ∧ ok23 x.Extras ∧ ok3 x.Fine ∧ ok3 x.Cap
theorem op25 : Opens Tryz.prog 25 PayList ok25 := by
 have h := opens_struct (β := (List PayRate) × (List Int) × Int × Int) (fun x : PayList => (x.Rates, x.Extras, x.Fine, x.Cap)) rfl rfl (fun _ _ _ _ h => h) (fun b => ⟨⟨b.1, b.2.1, b.2.2.1, b.2.2.2⟩, rfl⟩) Tryz.underlying25 (show Tryz.prog.cellsOf 25 = 4 from by kernel_rfl) (opensF_cons (off := 0) (off' := 1) rfl rfl op22 (opensF_cons (off := 1) (off' := 2) rfl rfl op23 (opensF_cons (off := 2) (off' := 3) rfl rfl op3 (opensF_one (off := 3) rfl op3))))
 exact h
def ok27 (x : PayPiece) : Prop := ok3 x.Weaver ∧ ok3 x.Dense ∧ ok3 x.Picks ∧ ok23 x.Extras ∧ ok3 x.Faults
theorem op27 : Opens Tryz.prog 27 PayPiece ok27 := by
 have h := opens_struct (β := Int × Int × Int × (List Int) × Int) (fun x : PayPiece => (x.Weaver, x.Dense, x.Picks, x.Extras, x.Faults)) rfl rfl (fun _ _ _ _ h => h) (fun b => ⟨⟨b.1, b.2.1, b.2.2.1, b.2.2.2.1, b.2.2.2.2⟩, rfl⟩) Tryz.underlying27 (show Tryz.prog.cellsOf 27 = 5 from by kernel_rfl) (opensF_cons (off := 0) (off' := 1) rfl rfl op3 (opensF_cons (off := 1) (off' := 2) rfl rfl op3 (opensF_cons (off := 2) (off' := 3) rfl rfl op3 (opensF_cons (off := 3) (off' := 4) rfl rfl op23 (opensF_one (off := 4) rfl op3)))))
 exact h
def ok33 (x : List PayPiece) : Prop := x.length ≤ 9223372036854775807 ∧ ∀ y ∈ x, ok27 y
theorem op33 : Opens Tryz.prog 33 (List PayPiece) ok33 := by
 have h := opens_slice op27 Tryz.underlying33 (show Tryz.prog.cellsOf 33 = 1 from by kernel_rfl) (by decide)
 exact h

theorem payBillsOwn : ownKnob Tryz.prog.godebug = none := by kernel_rfl
theorem payBillsLaid : laidOutB Tryz.prog = true := by kernel_rfl
theorem payBillsReads : ∀ t ∈ Tryz.f4.params.toList, Tryz.prog.readableRec t = true ∧ t < Tryz.prog.types.size := by
 rw [Tryz.params4]
 intro t ht
 simp only [List.mem_cons, List.not_mem_nil, or_false] at ht
 rcases ht with rfl | rfl
 all_goals exact ⟨by kernel_rfl, of_decide_eq_true (by kernel_rfl)⟩
theorem payBillsLifted (os : Os) (started : os.Started) (H : Type) (enc : TypeId × Value → H) :
  ReturnsInHanded {} Tryz.checked os 4 .any (Rows.payBillsSpec.pre6 enc Tryz.prog Tryz.f4 Rows.payBillsRow.domain false) (Rows.payBillsSpec.post enc Tryz.prog Tryz.f4 false true false false) := by
 refine returnsInHanded_of_change (C := Tryz.checked) payBillsOwn started (by kernel_rfl) Tryz.func4
  (ChangeSpec.witness6 (enc := enc) (C := Tryz.checked) false ⟨#[], #[.agg #[.slice none 0 0, .slice none 0 0, .int .i64 0, .int .i64 0], .slice none 0 0], []⟩ 12 (by kernel_rfl) (by kernel_rfl) (by kernel_rfl) (by kernel_rfl)) ?_
 intro W base args ds gs before hval0 hW hcnd _
 have hval : ∀ (j : Nat) t v, Tryz.f4.params[j]? = some t → args[j]? = some v → Value.okWide Tryz.prog W .any base t v := hval0
 have hW' := hW
 obtain ⟨p, q, hA0, hV, rfl, hfz, hnd⟩ := hW
 have hA : DataW.TrodAll enc Tryz.prog W 0 (fun _ => true) true Tryz.f4.params.toList args.toList ds p := hA0
 rw [Tryz.params4] at hA hval
 obtain ⟨v0, vs0, d0, ds0, p0, q0, hargs, rfl, rfl, h0, r0⟩ := trodAll_cons hA
 obtain ⟨v1, vs1, d1, ds1, p1, q1, rfl, rfl, rfl, h1, r1⟩ := trodAll_cons r0
 obtain ⟨rfl, rfl, rfl⟩ := trodAll_nil r1
 obtain rfl : args = #[v0, v1] := by cases args; simp_all
 obtain ⟨rfl, rfl⟩ := trodVars_none hV
 obtain ⟨a0, w0, k0⟩ := opened op25 (hval 0 25 v0 rfl rfl) h0
 obtain ⟨a1, w1, k1⟩ := opened op33 (hval 1 33 v1 rfl rfl) h1
 clear hA0 hval0 hA hval
 refine Calls.mono (says_of (P := Tryz.prog) (f := 4) (x := f4 a0 a1) (s4 a0 a1) fun r hr => (wk4 w0 w1 hr).mono fun m w' v hv => RV_bool.2 hv) ?_
 intro e W' ⟨he, hb⟩
 exact ⟨_, he, law_post (tb := 4) hW' payBillsLaid payBillsReads rfl rfl Tryz.underlying4 ⟨rfl, rfl, rfl⟩ hb⟩

theorem payBillsOver : Rows.payBillsRow.holds Tryz.pinned (OpenSpec.ofChange Rows.payBillsSpec) :=
 OpenClaim.holds_of_wide 4 Tryz.f4 rfl rfl rfl rfl rfl rfl rfl ⟨rfl, rfl, rfl, rfl, rfl⟩ rfl rfl rfl rfl rfl (by kernel_rfl) Tryz.func4 (by kernel_rfl)
  (of_decide_eq_true (by kernel_rfl)) (by unfold Func.isWrapper; first | (rw [if_pos (by decide +kernel)]; kernel_rfl) | (rw [if_neg (by decide +kernel)]; exact ⟨rfl, rfl⟩))
  (fun os started H enc _ => payBillsLifted os started H enc)
theorem payBills_holds : Rows.PayBillsSaid := payBillsOver
#print axioms payBills_holds
end Go.Proofs.YtkmbkaoolacofaaGreat
