/- FaultFewest: for every input the law returns true, and each argument reads behind the call as it read before. No condition. -/
import Derived.Test.YtpiaipiehjcflaaFewest
import Derived.Test.YtpiaipiehjcflaaRow
import Derived.Test.YtpiaipiehjcflaaRows
set_option maxRecDepth 100000
namespace Go.Proofs.Ytpiaipiehjcflaa
open Go.ChangeShapes Go.WideShapes Go.ChangeAt Go.RowKit

def ok5 (_ : UInt8) : Prop := True
theorem op5 : Opens Try.prog 5 UInt8 ok5 := by
  have h := opens_u8 Try.underlying5 (show Try.prog.cellsOf 5 = 1 from by kernel_rfl)
  exact h
def ok80 (x : List UInt8) : Prop := x.length ≤ 9223372036854775807 ∧ ∀ y ∈ x, ok5 y
theorem op80 : Opens Try.prog 80 (List UInt8) ok80 := by
  have h := opens_slice op5 Try.underlying80 (show Try.prog.cellsOf 80 = 1 from by kernel_rfl) (by decide)
  exact h
def ok120 (_ : UInt16) : Prop := True
theorem op120 : Opens Try.prog 120 UInt16 ok120 := by
  have h := opens_u16 Try.underlying120 (show Try.prog.cellsOf 120 = 1 from by kernel_rfl)
  exact h
def ok81 (x : List UInt16) : Prop := x.length ≤ 9223372036854775807 ∧ ∀ y ∈ x, ok120 y
theorem op81 : Opens Try.prog 81 (List UInt16) ok81 := by
  have h := opens_slice op120 Try.underlying81 (show Try.prog.cellsOf 81 = 1 from by kernel_rfl) (by decide)
  exact h
def ok122 (x : Vector UInt8 4) : Prop := ∀ i (h : i < 4), ok5 x[i]
theorem op122 : Opens Try.prog 122 (Vector UInt8 4) ok122 := by
  have h := opens_array op5 Try.underlying122 (show Try.prog.cellsOf 122 = 4 from by kernel_rfl)
  exact h
def ok82 (x : List (Vector UInt8 4)) : Prop := x.length ≤ 9223372036854775807 ∧ ∀ y ∈ x, ok122 y
theorem op82 : Opens Try.prog 82 (List (Vector UInt8 4)) ok82 := by
  have h := opens_slice op122 Try.underlying82 (show Try.prog.cellsOf 82 = 1 from by kernel_rfl) (by decide)
  exact h
def ok84 (x : Mill) : Prop := ok5 x.Hooks ∧ ok80 x.Warps ∧ ok81 x.Rows ∧ ok82 x.Damages
theorem op84 : Opens Try.prog 84 Mill ok84 := by
  have h := opens_struct (β := UInt8 × (List UInt8) × (List UInt16) × (List (Vector UInt8 4))) (fun x : Mill => (x.Hooks, x.Warps, x.Rows, x.Damages)) rfl rfl (fun _ _ _ _ h => h) (fun b => ⟨⟨b.1, b.2.1, b.2.2.1, b.2.2.2⟩, rfl⟩) Try.underlying84 (show Try.prog.cellsOf 84 = 4 from by kernel_rfl) (opensF_cons (off := 0) (off' := 1) rfl rfl op5 (opensF_cons (off := 1) (off' := 2) rfl rfl op80 (opensF_cons (off := 2) (off' := 3) rfl rfl op81 (opensF_one (off := 3) rfl op82))))
  exact h

theorem faultFewestOwn : ownKnob Try.prog.godebug = none := by kernel_rfl
theorem faultFewestLaid : laidOutB Try.prog = true := by kernel_rfl
theorem faultFewestReads : ∀ t ∈ Try.f8.params.toList, Try.prog.readableRec t = true ∧ t < Try.prog.types.size := by
  rw [Try.params8]
  intro t ht
  simp only [List.mem_cons, List.not_mem_nil, or_false] at ht
  rcases ht with rfl
  all_goals exact ⟨by kernel_rfl, of_decide_eq_true (by kernel_rfl)⟩
theorem faultFewestLifted (os : Os) (started : os.Started) (H : Type) (enc : TypeId × Value → H) :
    ReturnsInHanded {} Try.checked os 8 .any (Rows.faultFewestSpec.pre6 enc Try.prog Try.f8 Rows.faultFewestRow.domain false) (Rows.faultFewestSpec.post enc Try.prog Try.f8 false true false false) := by
  refine returnsInHanded_of_change (C := Try.checked) faultFewestOwn started (by kernel_rfl) Try.func8
    (ChangeSpec.witness6 (enc := enc) (C := Try.checked) false ⟨#[], #[.agg #[.int .u8 0, .slice none 0 0, .slice none 0 0, .slice none 0 0]], []⟩ 12 (by kernel_rfl) (by kernel_rfl) (by kernel_rfl) (by kernel_rfl)) ?_
  intro W base args ds gs before hval0 hW hcnd _
  have hval : ∀ (j : Nat) t v, Try.f8.params[j]? = some t → args[j]? = some v → Value.okWide Try.prog W .any base t v := hval0
  have hW' := hW
  obtain ⟨p, q, hA0, hV, rfl, hfz, hnd⟩ := hW
  have hA : DataW.TrodAll enc Try.prog W 0 (fun _ => true) true Try.f8.params.toList args.toList ds p := hA0
  rw [Try.params8] at hA hval
  obtain ⟨v0, vs0, d0, ds0, p0, q0, hargs, rfl, rfl, h0, r0⟩ := trodAll_cons hA
  obtain ⟨rfl, rfl, rfl⟩ := trodAll_nil r0
  obtain rfl : args = #[v0] := by cases args; simp_all
  obtain ⟨rfl, rfl⟩ := trodVars_none hV
  obtain ⟨a0, w0, k0⟩ := opened op84 (hval 0 84 v0 rfl rfl) h0
  clear hA0 hval0 hA hval
  refine Calls.mono (says_of (P := Try.prog) (f := 8) (x := f8 a0) (s8 a0) fun r hr => (wk8 w0 hr).mono fun m w' v hv => RV_bool.2 hv) ?_
  intro e W' ⟨he, hb⟩
  exact ⟨_, he, law_post (tb := 4) hW' faultFewestLaid faultFewestReads rfl rfl Try.underlying4 ⟨rfl, rfl, rfl⟩ hb⟩

theorem faultFewestOver : Rows.faultFewestRow.holds Try.pinned (OpenSpec.ofChange Rows.faultFewestSpec) :=
  OpenClaim.holds_of_wide 8 Try.f8 rfl rfl rfl rfl rfl rfl rfl ⟨rfl, rfl, rfl, rfl, rfl⟩ rfl rfl rfl rfl rfl (by kernel_rfl) Try.func8 (by kernel_rfl)
    (of_decide_eq_true (by kernel_rfl)) (by unfold Func.isWrapper; first | (rw [if_pos (by decide +kernel)]; kernel_rfl) | (rw [if_neg (by decide +kernel)]; exact ⟨rfl, rfl⟩))
    (fun os started H enc _ => faultFewestLifted os started H enc)
theorem faultFewest_holds : Rows.FaultFewestSaid := faultFewestOver
#print axioms faultFewest_holds
end Go.Proofs.Ytpiaipiehjcflaa
