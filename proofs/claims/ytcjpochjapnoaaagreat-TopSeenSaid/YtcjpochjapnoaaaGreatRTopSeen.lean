/- TopSeen: for every input the law returns true, and each argument reads behind the call as it read before. No condition. -/
import Derived.Test.YtcjpochjapnoaaaGreatLawS
import Derived.Test.YtcjpochjapnoaaaGreatRow
import Derived.Test.YtcjpochjapnoaaaGreatRows
set_option maxRecDepth 100000
namespace Go.Proofs.YtcjpochjapnoaaaGreat
open Go.ChangeShapes Go.WideShapes Go.ChangeAt Go.RowKit

def ok133 (_ : UInt16) : Prop := True
theorem op133 : Opens Tryz.prog 133 UInt16 ok133 := by
 have h := opens_u16 Tryz.underlying133 (show Tryz.prog.cellsOf 133 = 1 from by kernel_rfl)
 exact h
def ok22 (x : List UInt16) : Prop := x.length ≤ 9223372036854775807 ∧ ∀ y ∈ x, ok133 y
theorem op22 : Opens Tryz.prog 22 (List UInt16) ok22 := by
 have h := opens_slice op133 Tryz.underlying22 (show Tryz.prog.cellsOf 22 = 1 from by kernel_rfl) (by decide)
 exact h
def ok5 (_ : UInt8) : Prop := True
theorem op5 : Opens Tryz.prog 5 UInt8 ok5 := by
 have h := opens_u8 Tryz.underlying5 (show Tryz.prog.cellsOf 5 = 1 from by kernel_rfl)
 exact h
def ok23 (x : Vector UInt8 3) : Prop := ∀ i (h : i < 3), ok5 x[i]
theorem op23 : Opens Tryz.prog 23 (Vector UInt8 3) ok23 := by
 have h := opens_array op5 Tryz.underlying23 (show Tryz.prog.cellsOf 23 = 3 from by kernel_rfl)
 exact h
def ok24 (x : Vector UInt8 4) : Prop := ∀ i (h : i < 4), ok5 x[i]
theorem op24 : Opens Tryz.prog 24 (Vector UInt8 4) ok24 := by
 have h := opens_array op5 Tryz.underlying24 (show Tryz.prog.cellsOf 24 = 4 from by kernel_rfl)
 exact h

theorem topSeenOwn : ownKnob Tryz.prog.godebug = none := by kernel_rfl
theorem topSeenLaid : laidOutB Tryz.prog = true := by kernel_rfl
theorem topSeenReads : ∀ t ∈ Tryz.f3.params.toList, Tryz.prog.readableRec t = true ∧ t < Tryz.prog.types.size := by
 rw [Tryz.params3]
 intro t ht
 simp only [List.mem_cons, List.not_mem_nil, or_false] at ht
 rcases ht with rfl | rfl | rfl
 all_goals exact ⟨by kernel_rfl, of_decide_eq_true (by kernel_rfl)⟩
theorem topSeenLifted (os : Os) (started : os.Started) (H : Type) (enc : TypeId × Value → H) :
  ReturnsInHanded {} Tryz.checked os 3 .any (Rows.topSeenSpec.pre6 enc Tryz.prog Tryz.f3 Rows.topSeenRow.domain false) (Rows.topSeenSpec.post enc Tryz.prog Tryz.f3 false true false false) := by
 refine returnsInHanded_of_change (C := Tryz.checked) topSeenOwn started (by kernel_rfl) Tryz.func3
  (ChangeSpec.witness6 (enc := enc) (C := Tryz.checked) false ⟨#[], #[.slice none 0 0, .agg #[.int .u8 0, .int .u8 0, .int .u8 0], .agg #[.int .u8 0, .int .u8 0, .int .u8 0, .int .u8 0]], []⟩ 12 (by kernel_rfl) (by kernel_rfl) (by kernel_rfl) (by kernel_rfl)) ?_
 intro W base args ds gs before hval0 hW hcnd _
 have hval : ∀ (j : Nat) t v, Tryz.f3.params[j]? = some t → args[j]? = some v → Value.okWide Tryz.prog W .any base t v := hval0
 have hW' := hW
 obtain ⟨p, q, hA0, hV, rfl, hfz, hnd⟩ := hW
 have hA : DataW.TrodAll enc Tryz.prog W 0 (fun _ => true) true Tryz.f3.params.toList args.toList ds p := hA0
 rw [Tryz.params3] at hA hval
 obtain ⟨v0, vs0, d0, ds0, p0, q0, hargs, rfl, rfl, h0, r0⟩ := trodAll_cons hA
 obtain ⟨v1, vs1, d1, ds1, p1, q1, rfl, rfl, rfl, h1, r1⟩ := trodAll_cons r0
 obtain ⟨v2, vs2, d2, ds2, p2, q2, rfl, rfl, rfl, h2, r2⟩ := trodAll_cons r1
 obtain ⟨rfl, rfl, rfl⟩ := trodAll_nil r2
 obtain rfl : args = #[v0, v1, v2] := by cases args; simp_all
 obtain ⟨rfl, rfl⟩ := trodVars_none hV
 obtain ⟨a0, w0, k0⟩ := opened op22 (hval 0 22 v0 rfl rfl) h0
 obtain ⟨a1, w1, k1⟩ := opened op23 (hval 1 23 v1 rfl rfl) h1
 obtain ⟨a2, w2, k2⟩ := opened op24 (hval 2 24 v2 rfl rfl) h2
 clear hA0 hval0 hA hval
 refine Calls.mono (says_of (P := Tryz.prog) (f := 3) (x := f3 a0 a1 a2) (s3 a0 a1 a2) fun r hr => (wk3 w0 w1 w2 hr).mono fun m w' v hv => RV_bool.2 hv) ?_
 intro e W' ⟨he, hb⟩
 exact ⟨_, he, law_post (tb := 4) hW' topSeenLaid topSeenReads rfl rfl Tryz.underlying4 ⟨rfl, rfl, rfl⟩ hb⟩

theorem topSeenOver : Rows.topSeenRow.holds Tryz.pinned (OpenSpec.ofChange Rows.topSeenSpec) :=
 OpenClaim.holds_of_wide 3 Tryz.f3 rfl rfl rfl rfl rfl rfl rfl ⟨rfl, rfl, rfl, rfl, rfl⟩ rfl rfl rfl rfl rfl (by kernel_rfl) Tryz.func3 (by kernel_rfl)
  (of_decide_eq_true (by kernel_rfl)) (by unfold Func.isWrapper; first | (rw [if_pos (by decide +kernel)]; kernel_rfl) | (rw [if_neg (by decide +kernel)]; exact ⟨rfl, rfl⟩))
  (fun os started H enc _ => topSeenLifted os started H enc)
theorem topSeen_holds : Rows.TopSeenSaid := topSeenOver
#print axioms topSeen_holds
end Go.Proofs.YtcjpochjapnoaaaGreat
