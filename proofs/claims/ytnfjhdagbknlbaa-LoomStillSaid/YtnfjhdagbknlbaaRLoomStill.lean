/- LoomStill: for every input the law returns true, and each argument reads behind the call as it read before. No condition. -/
import Derived.Test.YtnfjhdagbknlbaaLawAO
import Derived.Test.YtnfjhdagbknlbaaRow
import Derived.Test.YtnfjhdagbknlbaaRows
set_option maxRecDepth 100000
namespace Go.Proofs.Ytnfjhdagbknlbaa
open Go.ChangeShapes Go.WideShapes Go.ChangeAt Go.RowKit

def ok5 (_ : UInt8) : Prop := True
theorem op5 : Opens Try.prog 5 UInt8 ok5 := by
 have h := opens_u8 Try.underlying5 (show Try.prog.cellsOf 5 = 1 from by kernel_rfl)
 exact h
def ok68 (x : Vector UInt8 3) : Prop := ∀ i (h : i < 3), ok5 x[i]
theorem op68 : Opens Try.prog 68 (Vector UInt8 3) ok68 := by
 have h := opens_array op5 Try.underlying68 (show Try.prog.cellsOf 68 = 3 from by kernel_rfl)
 exact h
def ok127 (x : Vector UInt8 6) : Prop := ∀ i (h : i < 6), ok5 x[i]
theorem op127 : Opens Try.prog 127 (Vector UInt8 6) ok127 := by
 have h := opens_array op5 Try.underlying127 (show Try.prog.cellsOf 127 = 6 from by kernel_rfl)
 exact h
def ok69 (x : List (Vector UInt8 6)) : Prop := x.length ≤ 9223372036854775807 ∧ ∀ y ∈ x, ok127 y
theorem op69 : Opens Try.prog 69 (List (Vector UInt8 6)) ok69 := by
 have h := opens_slice op127 Try.underlying69 (show Try.prog.cellsOf 69 = 1 from by kernel_rfl) (by decide)
 exact h
def ok71 (x : Hall) : Prop := ok68 x.Widths ∧ ok5 x.Looms ∧ ok5 x.Change ∧ ok69 x.Orders
theorem op71 : Opens Try.prog 71 Hall ok71 := by
 have h := opens_struct (β := (Vector UInt8 3) × UInt8 × UInt8 × (List (Vector UInt8 6))) (fun x : Hall => (x.Widths, x.Looms, x.Change, x.Orders)) rfl rfl (fun _ _ _ _ h => h) (fun b => ⟨⟨b.1, b.2.1, b.2.2.1, b.2.2.2⟩, rfl⟩) Try.underlying71 (show Try.prog.cellsOf 71 = 6 from by kernel_rfl) (opensF_cons (off := 0) (off' := 3) rfl rfl op68 (opensF_cons (off := 3) (off' := 4) rfl rfl op5 (opensF_cons (off := 4) (off' := 5) rfl rfl op5 (opensF_one (off := 5) rfl op69))))
 exact h
def ok88 (x : Vector UInt8 2) : Prop := ∀ i (h : i < 2), ok5 x[i]
theorem op88 : Opens Try.prog 88 (Vector UInt8 2) ok88 := by
 have h := opens_array op5 Try.underlying88 (show Try.prog.cellsOf 88 = 2 from by kernel_rfl)
 exact h

theorem loomStillOwn : ownKnob Try.prog.godebug = none := by kernel_rfl
theorem loomStillLaid : laidOutB Try.prog = true := by kernel_rfl
theorem loomStillReads : ∀ t ∈ Try.f10.params.toList, Try.prog.readableRec t = true ∧ t < Try.prog.types.size := by
 rw [Try.params10]
 intro t ht
 simp only [List.mem_cons, List.not_mem_nil, or_false] at ht
 rcases ht with rfl | rfl | rfl
 all_goals exact ⟨by kernel_rfl, of_decide_eq_true (by kernel_rfl)⟩
theorem loomStillLifted (os : Os) (started : os.Started) (H : Type) (enc : TypeId × Value → H) :
  ReturnsInHanded {} Try.checked os 10 .any (Rows.loomStillSpec.pre6 enc Try.prog Try.f10 Rows.loomStillRow.domain false) (Rows.loomStillSpec.post enc Try.prog Try.f10 false true false false) := by
 refine returnsInHanded_of_change (C := Try.checked) loomStillOwn started (by kernel_rfl) Try.func10
  (ChangeSpec.witness6 (enc := enc) (C := Try.checked) false ⟨#[], #[.agg #[.int .u8 0, .int .u8 0, .int .u8 0, .int .u8 0, .int .u8 0, .slice none 0 0], .int .u8 0, .agg #[.int .u8 0, .int .u8 0]], []⟩ 12 (by kernel_rfl) (by kernel_rfl) (by kernel_rfl) (by kernel_rfl)) ?_
 intro W base args ds gs before hval0 hW hcnd _
 have hval : ∀ (j : Nat) t v, Try.f10.params[j]? = some t → args[j]? = some v → Value.okWide Try.prog W .any base t v := hval0
 have hW' := hW
 obtain ⟨p, q, hA0, hV, rfl, hfz, hnd⟩ := hW
 have hA : DataW.TrodAll enc Try.prog W 0 (fun _ => true) true Try.f10.params.toList args.toList ds p := hA0
 rw [Try.params10] at hA hval
 obtain ⟨v0, vs0, d0, ds0, p0, q0, hargs, rfl, rfl, h0, r0⟩ := trodAll_cons hA
 obtain ⟨v1, vs1, d1, ds1, p1, q1, rfl, rfl, rfl, h1, r1⟩ := trodAll_cons r0
 obtain ⟨v2, vs2, d2, ds2, p2, q2, rfl, rfl, rfl, h2, r2⟩ := trodAll_cons r1
 obtain ⟨rfl, rfl, rfl⟩ := trodAll_nil r2
 obtain rfl : args = #[v0, v1, v2] := by cases args; simp_all
 obtain ⟨rfl, rfl⟩ := trodVars_none hV
 obtain ⟨a0, w0, k0⟩ := opened op71 (hval 0 71 v0 rfl rfl) h0
 obtain ⟨a1, w1, k1⟩ := opened op5 (hval 1 5 v1 rfl rfl) h1
 obtain ⟨a2, w2, k2⟩ := opened op88 (hval 2 88 v2 rfl rfl) h2
 obtain rfl := RV_u8.1 w1
 clear hA0 hval0 hA hval
 refine Calls.mono (says_of (P := Try.prog) (f := 10) (x := f10 a0 a1 a2) (s10 a0 a1 a2) fun r hr => (wk10 w0 w2 hr).mono fun m w' v hv => RV_bool.2 hv) ?_
 intro e W' ⟨he, hb⟩
 exact ⟨_, he, law_post (tb := 4) hW' loomStillLaid loomStillReads rfl rfl Try.underlying4 ⟨rfl, rfl, rfl⟩ hb⟩

theorem loomStillOver : Rows.loomStillRow.holds Try.pinned (OpenSpec.ofChange Rows.loomStillSpec) :=
 OpenClaim.holds_of_wide 10 Try.f10 rfl rfl rfl rfl rfl rfl rfl ⟨rfl, rfl, rfl, rfl, rfl⟩ rfl rfl rfl rfl rfl (by kernel_rfl) Try.func10 (by kernel_rfl)
  (of_decide_eq_true (by kernel_rfl)) (by unfold Func.isWrapper; first | (rw [if_pos (by decide +kernel)]; kernel_rfl) | (rw [if_neg (by decide +kernel)]; exact ⟨rfl, rfl⟩))
  (fun os started H enc _ => loomStillLifted os started H enc)
theorem loomStill_holds : Rows.LoomStillSaid := loomStillOver
#print axioms loomStill_holds
end Go.Proofs.Ytnfjhdagbknlbaa
