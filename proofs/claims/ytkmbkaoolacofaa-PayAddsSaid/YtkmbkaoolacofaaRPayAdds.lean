/- PayAdds: for every input the law returns true, and each argument reads behind the call as it read before. No condition. -/
import Derived.Test.YtkmbkaoolacofaaLawE
import Derived.Test.YtkmbkaoolacofaaRow
import Derived.Test.YtkmbkaoolacofaaRows
set_option maxRecDepth 100000
namespace Go.Proofs.Ytkmbkaoolacofaa
open Go.ChangeShapes Go.WideShapes Go.ChangeAt Go.RowKit

def ok32 (_ : UInt32) : Prop := True
theorem op32 : Opens Try.prog 32 UInt32 ok32 := by
 have h := opens_u32 Try.underlying32 (show Try.prog.cellsOf 32 = 1 from by kernel_rfl)
 exact h
def ok34 (_ : UInt16) : Prop := True
theorem op34 : Opens Try.prog 34 UInt16 ok34 := by
 have h := opens_u16 Try.underlying34 (show Try.prog.cellsOf 34 = 1 from by kernel_rfl)
 exact h
def ok33 (x : List UInt16) : Prop := x.length ≤ 9223372036854775807 ∧ ∀ y ∈ x, ok34 y
theorem op33 : Opens Try.prog 33 (List UInt16) ok33 := by
 have h := opens_slice op34 Try.underlying33 (show Try.prog.cellsOf 33 = 1 from by kernel_rfl) (by decide)
 exact h
def ok5 (_ : UInt8) : Prop := True
theorem op5 : Opens Try.prog 5 UInt8 ok5 := by
 have h := opens_u8 Try.underlying5 (show Try.prog.cellsOf 5 = 1 from by kernel_rfl)
 exact h

theorem payAddsOwn : ownKnob Try.prog.godebug = none := by kernel_rfl
theorem payAddsLaid : laidOutB Try.prog = true := by kernel_rfl
theorem payAddsReads : ∀ t ∈ Try.f4.params.toList, Try.prog.readableRec t = true ∧ t < Try.prog.types.size := by
 rw [Try.params4]
 intro t ht
 simp only [List.mem_cons, List.not_mem_nil, or_false] at ht
 rcases ht with rfl | rfl | rfl
 all_goals exact ⟨by kernel_rfl, of_decide_eq_true (by kernel_rfl)⟩
theorem payAddsLifted (os : Os) (started : os.Started) (H : Type) (enc : TypeId × Value → H) :
  ReturnsInHanded {} Try.checked os 4 .any (Rows.payAddsSpec.pre6 enc Try.prog Try.f4 Rows.payAddsRow.domain false) (Rows.payAddsSpec.post enc Try.prog Try.f4 false true false false) := by
 refine returnsInHanded_of_change (C := Try.checked) payAddsOwn started (by kernel_rfl) Try.func4
  (ChangeSpec.witness6 (enc := enc) (C := Try.checked) false ⟨#[], #[.int .u32 0, .slice none 0 0, .int .u8 0], []⟩ 12 (by kernel_rfl) (by kernel_rfl) (by kernel_rfl) (by kernel_rfl)) ?_
 intro W base args ds gs before hval0 hW hcnd _
 have hval : ∀ (j : Nat) t v, Try.f4.params[j]? = some t → args[j]? = some v → Value.okWide Try.prog W .any base t v := hval0
 have hW' := hW
 obtain ⟨p, q, hA0, hV, rfl, hfz, hnd⟩ := hW
 have hA : DataW.TrodAll enc Try.prog W 0 (fun _ => true) true Try.f4.params.toList args.toList ds p := hA0
 rw [Try.params4] at hA hval
 obtain ⟨v0, vs0, d0, ds0, p0, q0, hargs, rfl, rfl, h0, r0⟩ := trodAll_cons hA
 obtain ⟨v1, vs1, d1, ds1, p1, q1, rfl, rfl, rfl, h1, r1⟩ := trodAll_cons r0
 obtain ⟨v2, vs2, d2, ds2, p2, q2, rfl, rfl, rfl, h2, r2⟩ := trodAll_cons r1
 obtain ⟨rfl, rfl, rfl⟩ := trodAll_nil r2
 obtain rfl : args = #[v0, v1, v2] := by cases args; simp_all
 obtain ⟨rfl, rfl⟩ := trodVars_none hV
 obtain ⟨a0, w0, k0⟩ := opened op32 (hval 0 32 v0 rfl rfl) h0
 obtain ⟨a1, w1, k1⟩ := opened op33 (hval 1 33 v1 rfl rfl) h1
 obtain ⟨a2, w2, k2⟩ := opened op5 (hval 2 5 v2 rfl rfl) h2
 obtain rfl := RV_u32.1 w0
 obtain rfl := RV_u8.1 w2
 clear hA0 hval0 hA hval
 refine Calls.mono (says_of (P := Try.prog) (f := 4) (x := f4 a0 a1 a2) (s4 a0 a1 a2) fun r hr => (wk4 w1 hr).mono fun m w' v hv => RV_bool.2 hv) ?_
 intro e W' ⟨he, hb⟩
 exact ⟨_, he, law_post (tb := 4) hW' payAddsLaid payAddsReads rfl rfl Try.underlying4 ⟨rfl, rfl, rfl⟩ hb⟩

theorem payAddsOver : Rows.payAddsRow.holds Try.pinned (OpenSpec.ofChange Rows.payAddsSpec) :=
 OpenClaim.holds_of_wide 4 Try.f4 rfl rfl rfl rfl rfl rfl rfl ⟨rfl, rfl, rfl, rfl, rfl⟩ rfl rfl rfl rfl rfl (by kernel_rfl) Try.func4 (by kernel_rfl)
  (of_decide_eq_true (by kernel_rfl)) (by unfold Func.isWrapper; first | (rw [if_pos (by decide +kernel)]; kernel_rfl) | (rw [if_neg (by decide +kernel)]; exact ⟨rfl, rfl⟩))
  (fun os started H enc _ => payAddsLifted os started H enc)
theorem payAdds_holds : Rows.PayAddsSaid := payAddsOver
#print axioms payAdds_holds
end Go.Proofs.Ytkmbkaoolacofaa
