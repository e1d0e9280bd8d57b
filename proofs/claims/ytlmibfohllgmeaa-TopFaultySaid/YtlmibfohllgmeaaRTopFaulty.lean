/- TopFaulty: for every input the law returns true, and each argument reads behind the call as it read before. No condition. -/
import Derived.Test.YtlmibfohllgmeaaLawFB
import Derived.Test.YtlmibfohllgmeaaRow
import Derived.Test.YtlmibfohllgmeaaRows
set_option maxRecDepth 100000
namespace Go.Proofs.Ytlmibfohllgmeaa
open Go.ChangeShapes Go.WideShapes Go.ChangeAt Go.RowKit

def ok61 (_ : UInt16) : Prop := True
theorem op61 : Vk Try.prog 61 UInt16 ok61 := by
 have h := Oa Try.underlying61 (show Try.prog.cellsOf 61 = 1 from by kernel_rfl)
 exact h
def ok22 (x : List UInt16) : Prop := x.length ≤ 9223372036854775807 ∧ ∀ y ∈ x, ok61 y
theorem op22 : Vk Try.prog 22 (List UInt16) ok22 := by
 have h := Sh op61 Try.underlying22 (show Try.prog.cellsOf 22 = 1 from by kernel_rfl) (by decide)
 exact h
def ok5 (_ : UInt8) : Prop := True
theorem op5 : Vk Try.prog 5 UInt8 ok5 := by
 have h := Oi Try.underlying5 (show Try.prog.cellsOf 5 = 1 from by kernel_rfl)
 exact h
def ok23 (x : List UInt8) : Prop := x.length ≤ 9223372036854775807 ∧ ∀ y ∈ x, ok5 y
theorem op23 : Vk Try.prog 23 (List UInt8) ok23 := by
 have h := Sh op5 Try.underlying23 (show Try.prog.cellsOf 23 = 1 from by kernel_rfl) (by decide)
 exact h
def ok24 (x : Vector UInt8 4) : Prop := ∀ i (h : i < 4), ok5 x[i]
theorem op24 : Vk Try.prog 24 (Vector UInt8 4) ok24 := by
 have h := Pv op5 Try.underlying24 (show Try.prog.cellsOf 24 = 4 from by kernel_rfl)
 exact h

theorem Ls : ownKnob Try.prog.godebug = none := by kernel_rfl
theorem Cs : laidOutB Try.prog = true := by kernel_rfl
theorem Cd : ∀ t ∈ Try.f3.params.toList, Try.prog.readableRec t = true ∧ t < Try.prog.types.size := by
 rw [Try.params3]
 intro t ht
 simp only [List.mem_cons, List.not_mem_nil, or_false] at ht
 rcases ht with rfl | rfl | rfl
 all_goals exact ⟨by kernel_rfl, of_decide_eq_true (by kernel_rfl)⟩
theorem Ss (os : Os) (started : os.Started) (H : Type) (enc : TypeId × Value → H) :
  ReturnsInHanded {} Try.checked os 3 .any (Rows.topFaultySpec.pre6 enc Try.prog Try.f3 Rows.topFaultyRow.domain false) (Rows.topFaultySpec.post enc Try.prog Try.f3 false true false false) := by
 refine returnsInHanded_of_change (C := Try.checked) Ls started (by kernel_rfl) Try.func3
  (ChangeSpec.witness6 (enc := enc) (C := Try.checked) false ⟨#[], #[.slice none 0 0, .slice none 0 0, .agg #[.int .u8 0, .int .u8 0, .int .u8 0, .int .u8 0]], []⟩ 12 (by kernel_rfl) (by kernel_rfl) (by kernel_rfl) (by kernel_rfl)) ?_
 intro W base args ds gs before hval0 hW hcnd _
 have hval : ∀ (j : Nat) t v, Try.f3.params[j]? = some t → args[j]? = some v → Value.okWide Try.prog W .any base t v := hval0
 have hW' := hW
 obtain ⟨p, q, hA0, hV, rfl, hfz, hnd⟩ := hW
 have hA : DataW.TrodAll enc Try.prog W 0 (fun _ => true) true Try.f3.params.toList args.toList ds p := hA0
 rw [Try.params3] at hA hval
 obtain ⟨v0, vs0, d0, ds0, p0, q0, hargs, rfl, rfl, h0, r0⟩ := trodAll_cons hA
 obtain ⟨v1, vs1, d1, ds1, p1, q1, rfl, rfl, rfl, h1, r1⟩ := trodAll_cons r0
 obtain ⟨v2, vs2, d2, ds2, p2, q2, rfl, rfl, rfl, h2, r2⟩ := trodAll_cons r1
 obtain ⟨rfl, rfl, rfl⟩ := trodAll_nil r2
 obtain rfl : args = #[v0, v1, v2] := by cases args; simp_all
 obtain ⟨rfl, rfl⟩ := trodVars_none hV
 obtain ⟨a0, w0, k0⟩ := Aj op22 (hval 0 22 v0 rfl rfl) h0
 obtain ⟨a1, w1, k1⟩ := Aj op23 (hval 1 23 v1 rfl rfl) h1
 obtain ⟨a2, w2, k2⟩ := Aj op24 (hval 2 24 v2 rfl rfl) h2
 clear hA0 hval0 hA hval
 refine Calls.mono (says_of (P := Try.prog) (f := 3) (x := f3 a0 a1 a2) (s3 a0 a1 a2) fun r hr => (wk3 w0 w1 w2 hr).mono fun m w' v hv => Kl.2 hv) ?_
 intro e W' ⟨he, hb⟩
 exact ⟨_, he, Ef (tb := 4) hW' Cs Cd rfl rfl Try.underlying4 ⟨rfl, rfl, rfl⟩ hb⟩

theorem Cp : Rows.topFaultyRow.holds Try.pinned (OpenSpec.ofChange Rows.topFaultySpec) :=
 OpenClaim.holds_of_wide 3 Try.f3 rfl rfl rfl rfl rfl rfl rfl ⟨rfl, rfl, rfl, rfl, rfl⟩ rfl rfl rfl rfl rfl (by kernel_rfl) Try.func3 (by kernel_rfl)
  (of_decide_eq_true (by kernel_rfl)) (by unfold Func.isWrapper; first | (rw [if_pos (by decide +kernel)]; kernel_rfl) | (rw [if_neg (by decide +kernel)]; exact ⟨rfl, rfl⟩))
  (fun os started H enc _ => Ss os started H enc)
theorem topFaulty_holds : Rows.TopFaultySaid := Cp
#print axioms topFaulty_holds
end Go.Proofs.Ytlmibfohllgmeaa
