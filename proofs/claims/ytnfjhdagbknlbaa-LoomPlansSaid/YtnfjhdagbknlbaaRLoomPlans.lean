/- LoomPlans: for every input the law returns true, and each argument reads behind the call as it read before. No condition. -/
import Derived.Test.YtnfjhdagbknlbaaLawAC
import Derived.Test.YtnfjhdagbknlbaaRow
import Derived.Test.YtnfjhdagbknlbaaRows
set_option maxRecDepth 100000
namespace Go.Proofs.Ytnfjhdagbknlbaa
open Go.ChangeShapes Go.WideShapes Go.ChangeAt Go.RowKit

def ok3 (x : Int) : Prop := (-9223372036854775808 ≤ x ∧ x ≤ 9223372036854775807)
theorem op3 : Opens Try.prog 3 Int ok3 := by
  have h := opens_int Try.underlying3 (show Try.prog.cellsOf 3 = 1 from by kernel_rfl)
  exact h
def ok22 (x : List Int) : Prop := x.length ≤ 9223372036854775807 ∧ ∀ y ∈ x, ok3 y
theorem op22 : Opens Try.prog 22 (List Int) ok22 := by
  have h := opens_slice op3 Try.underlying22 (show Try.prog.cellsOf 22 = 1 from by kernel_rfl) (by decide)
  exact h
def ok24 (x : LoomMill) : Prop := ok22 x.Widths ∧ ok3 x.Change
theorem op24 : Opens Try.prog 24 LoomMill ok24 := by
  have h := opens_struct (β := (List Int) × Int) (fun x : LoomMill => (x.Widths, x.Change)) rfl rfl (fun _ _ _ _ h => h) (fun b => ⟨⟨b.1, b.2⟩, rfl⟩) Try.underlying24 (show Try.prog.cellsOf 24 = 2 from by kernel_rfl) (opensF_cons (off := 0) (off' := 1) rfl rfl op22 (opensF_one (off := 1) rfl op3))
  exact h
def ok82 (x : LoomOrder) : Prop := ok3 x.Width ∧ ok3 x.Chain ∧ ok3 x.Woven ∧ ok3 x.Early ∧ ok3 x.Late
theorem op82 : Opens Try.prog 82 LoomOrder ok82 := by
  have h := opens_struct (β := Int × Int × Int × Int × Int) (fun x : LoomOrder => (x.Width, x.Chain, x.Woven, x.Early, x.Late)) rfl rfl (fun _ _ _ _ h => h) (fun b => ⟨⟨b.1, b.2.1, b.2.2.1, b.2.2.2.1, b.2.2.2.2⟩, rfl⟩) Try.underlying82 (show Try.prog.cellsOf 82 = 5 from by kernel_rfl) (opensF_cons (off := 0) (off' := 1) rfl rfl op3 (opensF_cons (off := 1) (off' := 2) rfl rfl op3 (opensF_cons (off := 2) (off' := 3) rfl rfl op3 (opensF_cons (off := 3) (off' := 4) rfl rfl op3 (opensF_one (off := 4) rfl op3)))))
  exact h
def ok25 (x : List LoomOrder) : Prop := x.length ≤ 9223372036854775807 ∧ ∀ y ∈ x, ok82 y
theorem op25 : Opens Try.prog 25 (List LoomOrder) ok25 := by
  have h := opens_slice op82 Try.underlying25 (show Try.prog.cellsOf 25 = 1 from by kernel_rfl) (by decide)
  exact h

theorem loomPlansOwn : ownKnob Try.prog.godebug = none := by kernel_rfl
theorem loomPlansLaid : laidOutB Try.prog = true := by kernel_rfl
theorem loomPlansReads : ∀ t ∈ Try.f3.params.toList, Try.prog.readableRec t = true ∧ t < Try.prog.types.size := by
  rw [Try.params3]
  intro t ht
  simp only [List.mem_cons, List.not_mem_nil, or_false] at ht
  rcases ht with rfl | rfl
  all_goals exact ⟨by kernel_rfl, of_decide_eq_true (by kernel_rfl)⟩
theorem loomPlansLifted (os : Os) (started : os.Started) (H : Type) (enc : TypeId × Value → H) :
    ReturnsInHanded {} Try.checked os 3 .any (Rows.loomPlansSpec.pre6 enc Try.prog Try.f3 Rows.loomPlansRow.domain false) (Rows.loomPlansSpec.post enc Try.prog Try.f3 false true false false) := by
  refine returnsInHanded_of_change (C := Try.checked) loomPlansOwn started (by kernel_rfl) Try.func3
    (ChangeSpec.witness6 (enc := enc) (C := Try.checked) false ⟨#[], #[.agg #[.slice none 0 0, .int .i64 0], .slice none 0 0], []⟩ 12 (by kernel_rfl) (by kernel_rfl) (by kernel_rfl) (by kernel_rfl)) ?_
  intro W base args ds gs before hval0 hW hcnd _
  have hval : ∀ (j : Nat) t v, Try.f3.params[j]? = some t → args[j]? = some v → Value.okWide Try.prog W .any base t v := hval0
  have hW' := hW
  obtain ⟨p, q, hA0, hV, rfl, hfz, hnd⟩ := hW
  have hA : DataW.TrodAll enc Try.prog W 0 (fun _ => true) true Try.f3.params.toList args.toList ds p := hA0
  rw [Try.params3] at hA hval
  obtain ⟨v0, vs0, d0, ds0, p0, q0, hargs, rfl, rfl, h0, r0⟩ := trodAll_cons hA
  obtain ⟨v1, vs1, d1, ds1, p1, q1, rfl, rfl, rfl, h1, r1⟩ := trodAll_cons r0
  obtain ⟨rfl, rfl, rfl⟩ := trodAll_nil r1
  obtain rfl : args = #[v0, v1] := by cases args; simp_all
  obtain ⟨rfl, rfl⟩ := trodVars_none hV
  obtain ⟨a0, w0, k0⟩ := opened op24 (hval 0 24 v0 rfl rfl) h0
  obtain ⟨a1, w1, k1⟩ := opened op25 (hval 1 25 v1 rfl rfl) h1
  clear hA0 hval0 hA hval
  refine Calls.mono (says_of (P := Try.prog) (f := 3) (x := f3 a0 a1) (s3 a0 a1) fun r hr => (wk3 w0 w1 hr).mono fun m w' v hv => RV_bool.2 hv) ?_
  intro e W' ⟨he, hb⟩
  exact ⟨_, he, law_post (tb := 4) hW' loomPlansLaid loomPlansReads rfl rfl Try.underlying4 ⟨rfl, rfl, rfl⟩ hb⟩

theorem loomPlansOver : Rows.loomPlansRow.holds Try.pinned (OpenSpec.ofChange Rows.loomPlansSpec) :=
  OpenClaim.holds_of_wide 3 Try.f3 rfl rfl rfl rfl rfl rfl rfl ⟨rfl, rfl, rfl, rfl, rfl⟩ rfl rfl rfl rfl rfl (by kernel_rfl) Try.func3 (by kernel_rfl)
    (of_decide_eq_true (by kernel_rfl)) (by unfold Func.isWrapper; first | (rw [if_pos (by decide +kernel)]; kernel_rfl) | (rw [if_neg (by decide +kernel)]; exact ⟨rfl, rfl⟩))
    (fun os started H enc _ => loomPlansLifted os started H enc)
theorem loomPlans_holds : Rows.LoomPlansSaid := loomPlansOver
#print axioms loomPlans_holds
end Go.Proofs.Ytnfjhdagbknlbaa
