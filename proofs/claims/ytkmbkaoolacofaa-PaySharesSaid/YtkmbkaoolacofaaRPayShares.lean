/- PayShares: for every input the law returns true, and each argument reads behind the call as it read before. No condition. -/
import Derived.Test.YtkmbkaoolacofaaLawF
import Derived.Test.YtkmbkaoolacofaaRow
import Derived.Test.YtkmbkaoolacofaaRows
set_option maxRecDepth 100000
namespace Go.Proofs.Ytkmbkaoolacofaa
open Go.ChangeShapes Go.WideShapes Go.ChangeAt Go.RowKit

def ok3 (x : Int) : Prop := (-9223372036854775808 ≤ x ∧ x ≤ 9223372036854775807)
theorem op3 : Opens Try.prog 3 Int ok3 := by
 have h := opens_int Try.underlying3 (show Try.prog.cellsOf 3 = 1 from by kernel_rfl)
 exact h
def ok22 (x : List Int) : Prop := x.length ≤ 9223372036854775807 ∧ ∀ y ∈ x, ok3 y
theorem op22 : Opens Try.prog 22 (List Int) ok22 := by
 have h := opens_slice op3 Try.underlying22 (show Try.prog.cellsOf 22 = 1 from by kernel_rfl) (by decide)
 exact h

theorem paySharesOwn : ownKnob Try.prog.godebug = none := by kernel_rfl
theorem paySharesLaid : laidOutB Try.prog = true := by kernel_rfl
theorem paySharesReads : ∀ t ∈ Try.f3.params.toList, Try.prog.readableRec t = true ∧ t < Try.prog.types.size := by
 rw [Try.params3]
 intro t ht
 simp only [List.mem_cons, List.not_mem_nil, or_false] at ht
 rcases ht with rfl | rfl
 all_goals exact ⟨by kernel_rfl, of_decide_eq_true (by kernel_rfl)⟩
theorem paySharesLifted (os : Os) (started : os.Started) (H : Type) (enc : TypeId × Value → H) :
  ReturnsInHanded {} Try.checked os 3 .any (Rows.paySharesSpec.pre6 enc Try.prog Try.f3 Rows.paySharesRow.domain false) (Rows.paySharesSpec.post enc Try.prog Try.f3 false true false false) := by
 refine returnsInHanded_of_change (C := Try.checked) paySharesOwn started (by kernel_rfl) Try.func3
  (ChangeSpec.witness6 (enc := enc) (C := Try.checked) false ⟨#[], #[.int .i64 0, .slice none 0 0], []⟩ 12 (by kernel_rfl) (by kernel_rfl) (by kernel_rfl) (by kernel_rfl)) ?_
 intro W base args ds gs before hval0 hW hcnd _
 have hval : ∀ (j : Nat) t v, Try.f3.params[j]? = some t → args[j]? = some v → Value.okWide Try.prog W .any base t v := hval0
 have hW' := hW
 obtain ⟨p, q, hA0, hV, rfl, hfz, hnd⟩ := hW
 have hA : DataW.TrodAll enc Try.prog W 0 (fun _ => true) true Try.f3.params.toList args.toList ds p := hA0
 rw [Try.params3] at hA hval
 obtain ⟨v0, vs0, d0, ds0, p0, q0, hargs, rfl, rfl, h0, r0⟩ := trodAll_cons hA
 obtain ⟨v1, vs1, d1, ds1, p1, q1, rfl, rfl, rfl, h1, r1⟩ := trodAll_cons r0
 obtain ⟨rfl, rfl, rfl⟩ := trodAll_nil r1
 obtain rfl : args = #[v0, v1] := by cases args; simp_all
 obtain ⟨rfl, rfl⟩ := trodVars_none hV
 obtain ⟨a0, w0, k0⟩ := opened op3 (hval 0 3 v0 rfl rfl) h0
 obtain ⟨a1, w1, k1⟩ := opened op22 (hval 1 22 v1 rfl rfl) h1
 obtain rfl := RV_int.1 w0
 clear hA0 hval0 hA hval
 refine Calls.mono (says_of (P := Try.prog) (f := 3) (x := f3 a0 a1) (s3 a0 a1) fun r hr => (wk3 w1 hr).mono fun m w' v hv => RV_bool.2 hv) ?_
 intro e W' ⟨he, hb⟩
 exact ⟨_, he, law_post (tb := 4) hW' paySharesLaid paySharesReads rfl rfl Try.underlying4 ⟨rfl, rfl, rfl⟩ hb⟩

theorem paySharesOver : Rows.paySharesRow.holds Try.pinned (OpenSpec.ofChange Rows.paySharesSpec) :=
 OpenClaim.holds_of_wide 3 Try.f3 rfl rfl rfl rfl rfl rfl rfl ⟨rfl, rfl, rfl, rfl, rfl⟩ rfl rfl rfl rfl rfl (by kernel_rfl) Try.func3 (by kernel_rfl)
  (of_decide_eq_true (by kernel_rfl)) (by unfold Func.isWrapper; first | (rw [if_pos (by decide +kernel)]; kernel_rfl) | (rw [if_neg (by decide +kernel)]; exact ⟨rfl, rfl⟩))
  (fun os started H enc _ => paySharesLifted os started H enc)
theorem payShares_holds : Rows.PaySharesSaid := paySharesOver
#print axioms payShares_holds
end Go.Proofs.Ytkmbkaoolacofaa
