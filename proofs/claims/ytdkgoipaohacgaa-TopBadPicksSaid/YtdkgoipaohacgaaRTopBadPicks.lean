/- TopBadPicks: for every input the law returns true, and each argument reads behind the call as it read before. No condition. -/
import Derived.Test.YtdkgoipaohacgaaLawG
import Derived.Test.YtdkgoipaohacgaaRow
import Derived.Test.YtdkgoipaohacgaaRows
set_option maxRecDepth 100000
namespace Go.Proofs.Ytdkgoipaohacgaa
open Go.ChangeShapes Go.WideShapes Go.ChangeAt Go.RowKit

def ok5 (_ : UInt8) : Prop := True
theorem op5 : Opens Try.prog 5 UInt8 ok5 := by
 have h := opens_u8 Try.underlying5 (show Try.prog.cellsOf 5 = 1 from by kernel_rfl)
 exact h
def ok22 (x : List UInt8) : Prop := x.length ≤ 9223372036854775807 ∧ ∀ y ∈ x, ok5 y
theorem op22 : Opens Try.prog 22 (List UInt8) ok22 := by
 have h := opens_slice op5 Try.underlying22 (show Try.prog.cellsOf 22 = 1 from by kernel_rfl) (by decide)
 exact h
def ok165 (_ : UInt16) : Prop := True
theorem op165 : Opens Try.prog 165 UInt16 ok165 := by
 have h := opens_u16 Try.underlying165 (show Try.prog.cellsOf 165 = 1 from by kernel_rfl)
 exact h
def ok23 (x : List UInt16) : Prop := x.length ≤ 9223372036854775807 ∧ ∀ y ∈ x, ok165 y
theorem op23 : Opens Try.prog 23 (List UInt16) ok23 := by
 have h := opens_slice op165 Try.underlying23 (show Try.prog.cellsOf 23 = 1 from by kernel_rfl) (by decide)
 exact h
def ok25 (x : Loom) : Prop := ok5 x.Hooks ∧ ok22 x.Warps ∧ ok23 x.Rows ∧ ok22 x.Cards
theorem op25 : Opens Try.prog 25 Loom ok25 := by
 have h := opens_struct (β := UInt8 × (List UInt8) × (List UInt16) × (List UInt8)) (fun x : Loom => (x.Hooks, x.Warps, x.Rows, x.Cards)) rfl rfl (fun _ _ _ _ h => h) (fun b => ⟨⟨b.1, b.2.1, b.2.2.1, b.2.2.2⟩, rfl⟩) Try.underlying25 (show Try.prog.cellsOf 25 = 4 from by kernel_rfl) (opensF_cons (off := 0) (off' := 1) rfl rfl op5 (opensF_cons (off := 1) (off' := 2) rfl rfl op22 (opensF_cons (off := 2) (off' := 3) rfl rfl op23 (opensF_one (off := 3) rfl op22))))
 exact h
def ok62 (x : Vector UInt8 4) : Prop := ∀ i (h : i < 4), ok5 x[i]
theorem op62 : Opens Try.prog 62 (Vector UInt8 4) ok62 := by
 have h := opens_array op5 Try.underlying62 (show Try.prog.cellsOf 62 = 4 from by kernel_rfl)
 exact h
def ok63 (x : Vector UInt8 3) : Prop := ∀ i (h : i < 3), ok5 x[i]
theorem op63 : Opens Try.prog 63 (Vector UInt8 3) ok63 := by
 have h := opens_array op5 Try.underlying63 (show Try.prog.cellsOf 63 = 3 from by kernel_rfl)
 exact h

theorem topBadPicksOwn : ownKnob Try.prog.godebug = none := by kernel_rfl
theorem topBadPicksLaid : laidOutB Try.prog = true := by kernel_rfl
theorem topBadPicksReads : ∀ t ∈ Try.f4.params.toList, Try.prog.readableRec t = true ∧ t < Try.prog.types.size := by
 rw [Try.params4]
 intro t ht
 simp only [List.mem_cons, List.not_mem_nil, or_false] at ht
 rcases ht with rfl | rfl | rfl
 all_goals exact ⟨by kernel_rfl, of_decide_eq_true (by kernel_rfl)⟩
theorem topBadPicksLifted (os : Os) (started : os.Started) (H : Type) (enc : TypeId × Value → H) :
  ReturnsInHanded {} Try.checked os 4 .any (Rows.topBadPicksSpec.pre6 enc Try.prog Try.f4 Rows.topBadPicksRow.domain false) (Rows.topBadPicksSpec.post enc Try.prog Try.f4 false true false false) := by
 refine returnsInHanded_of_change (C := Try.checked) topBadPicksOwn started (by kernel_rfl) Try.func4
  (ChangeSpec.witness6 (enc := enc) (C := Try.checked) false ⟨#[], #[.agg #[.int .u8 0, .slice none 0 0, .slice none 0 0, .slice none 0 0], .agg #[.int .u8 0, .int .u8 0, .int .u8 0, .int .u8 0], .agg #[.int .u8 0, .int .u8 0, .int .u8 0]], []⟩ 12 (by kernel_rfl) (by kernel_rfl) (by kernel_rfl) (by kernel_rfl)) ?_
 intro W base args ds gs before hval0 hW hcnd _
 have hval : ∀ (j : Nat) t v, Try.f4.params[j]? = some t → args[j]? = some v → Value.okWide Try.prog W .any base t v := hval0
 have hW' := hW
 obtain ⟨p, q, hA0, hV, rfl, hfz, hnd⟩ := hW
 have hA : DataW.TrodAll enc Try.prog W 0 (fun _ => true) true Try.f4.params.toList args.toList ds p := hA0
 rw [Try.params4] at hA hval
 obtain ⟨v0, vs0, d0, ds0, p0, q0, hargs, rfl, rfl, h0, r0⟩ := trodAll_cons hA
 obtain ⟨v1, vs1, d1, ds1, p1, q1, rfl, rfl, rfl, h1, r1⟩ := trodAll_cons r0
 obtain ⟨v2, vs2, d2, ds2, p2, q2, rfl, rfl, rfl, h2, r2⟩ := trodAll_cons r1
 obtain ⟨rfl, rfl, rfl⟩ := trodAll_nil r2
 obtain rfl : args = #[v0, v1, v2] := by cases args; simp_all
 obtain ⟨rfl, rfl⟩ := trodVars_none hV
 obtain ⟨a0, w0, k0⟩ := opened op25 (hval 0 25 v0 rfl rfl) h0
 obtain ⟨a1, w1, k1⟩ := opened op62 (hval 1 62 v1 rfl rfl) h1
 obtain ⟨a2, w2, k2⟩ := opened op63 (hval 2 63 v2 rfl rfl) h2
 clear hA0 hval0 hA hval
 refine Calls.mono (says_of (P := Try.prog) (f := 4) (x := f4 a0 a1 a2) (s4 a0 a1 a2) fun r hr => (wk4 w0 w1 w2 hr).mono fun m w' v hv => RV_bool.2 hv) ?_
 intro e W' ⟨he, hb⟩
 exact ⟨_, he, law_post (tb := 4) hW' topBadPicksLaid topBadPicksReads rfl rfl Try.underlying4 ⟨rfl, rfl, rfl⟩ hb⟩

theorem topBadPicksOver : Rows.topBadPicksRow.holds Try.pinned (OpenSpec.ofChange Rows.topBadPicksSpec) :=
 OpenClaim.holds_of_wide 4 Try.f4 rfl rfl rfl rfl rfl rfl rfl ⟨rfl, rfl, rfl, rfl, rfl⟩ rfl rfl rfl rfl rfl (by kernel_rfl) Try.func4 (by kernel_rfl)
  (of_decide_eq_true (by kernel_rfl)) (by unfold Func.isWrapper; first | (rw [if_pos (by decide +kernel)]; kernel_rfl) | (rw [if_neg (by decide +kernel)]; exact ⟨rfl, rfl⟩))
  (fun os started H enc _ => topBadPicksLifted os started H enc)
theorem topBadPicks_holds : Rows.TopBadPicksSaid := topBadPicksOver
#print axioms topBadPicks_holds
end Go.Proofs.Ytdkgoipaohacgaa
