/- LoomEasier: for every input the law returns true, and each argument reads behind the call as it read before. No condition. -/
import Derived.Test.YtnfjhdagbknlbaaLawAQ
import Derived.Test.YtnfjhdagbknlbaaRow
import Derived.Test.YtnfjhdagbknlbaaRows
set_option maxRecDepth 100000
namespace Go.Proofs.Ytnfjhdagbknlbaa
open Go.ChangeShapes Go.WideShapes Go.ChangeAt Go.RowKit

def ok5 (_ : UInt8) : Prop := True
theorem op5 : Opens Try.prog 5 UInt8 ok5 := by
 have h := opens_u8 Try.underlying5 (show Try.prog.cellsOf 5 = 1 from by kernel_rfl)
 exact h
def ok68 (x : Vector UInt8 3) : Prop := ∀ i (h : i < 3), ok5 x[i]
theorem op68 : Opens Try.prog 68 (Vector UInt8 3) ok68 := by
 have h := opens_array op5 Try.underlying68 (show Try.prog.cellsOf 68 = 3 from by kernel_rfl)
 exact h
def ok127 (x : Vector UInt8 6) : Prop := ∀ i (h : i < 6), ok5 x[i]
theorem op127 : Opens Try.prog 127 (Vector UInt8 6) ok127 := by
 have h := opens_array op5 Try.underlying127 (show Try.prog.cellsOf 127 = 6 from by kernel_rfl)
 exact h
def ok69 (x : List (Vector UInt8 6)) : Prop := x.length ≤ 9223372036854775807 ∧ ∀ y ∈ x, ok127 y
theorem op69 : Opens Try.prog 69 (List (Vector UInt8 6)) ok69 := by
 have h := opens_slice op127 Try.underlying69 (show Try.prog.cellsOf 69 = 1 from by kernel_rfl) (by decide)
 exact h
def ok71 (x : Hall) : Prop := ok68 x.Widths ∧ ok5 x.Looms ∧ ok5 x.Change ∧ ok69 x.Orders
theorem op71 : Opens Try.prog 71 Hall ok71 := by
 have h := opens_struct (β := (Vector UInt8 3) × UInt8 × UInt8 × (List (Vector UInt8 6))) (fun x : Hall => (x.Widths, x.Looms, x.Change, x.Orders)) rfl rfl (fun _ _ _ _ h => h) (fun b => ⟨⟨b.1, b.2.1, b.2.2.1, b.2.2.2⟩, rfl⟩) Try.underlying71 (show Try.prog.cellsOf 71 = 6 from by kernel_rfl) (opensF_cons (off := 0) (off' := 3) rfl rfl op68 (opensF_cons (off := 3) (off' := 4) rfl rfl op5 (opensF_cons (off := 4) (off' := 5) rfl rfl op5 (opensF_one (off := 5) rfl op69))))
 exact h
def ok79 (x : Vector UInt8 7) : Prop := ∀ i (h : i < 7), ok5 x[i]
theorem op79 : Opens Try.prog 79 (Vector UInt8 7) ok79 := by
 have h := opens_array op5 Try.underlying79 (show Try.prog.cellsOf 79 = 7 from by kernel_rfl)
 exact h
def ok86 (x : Vector UInt8 4) : Prop := ∀ i (h : i < 4), ok5 x[i]
theorem op86 : Opens Try.prog 86 (Vector UInt8 4) ok86 := by
 have h := opens_array op5 Try.underlying86 (show Try.prog.cellsOf 86 = 4 from by kernel_rfl)
 exact h

theorem loomEasierOwn : ownKnob Try.prog.godebug = none := by kernel_rfl
theorem loomEasierLaid : laidOutB Try.prog = true := by kernel_rfl
theorem loomEasierReads : ∀ t ∈ Try.f9.params.toList, Try.prog.readableRec t = true ∧ t < Try.prog.types.size := by
 rw [Try.params9]
 intro t ht
 simp only [List.mem_cons, List.not_mem_nil, or_false] at ht
 rcases ht with rfl | rfl | rfl
 all_goals exact ⟨by kernel_rfl, of_decide_eq_true (by kernel_rfl)⟩
theorem loomEasierLifted (os : Os) (started : os.Started) (H : Type) (enc : TypeId × Value → H) :
  ReturnsInHanded {} Try.checked os 9 .any (Rows.loomEasierSpec.pre6 enc Try.prog Try.f9 Rows.loomEasierRow.domain false) (Rows.loomEasierSpec.post enc Try.prog Try.f9 false true false false) := by
 refine returnsInHanded_of_change (C := Try.checked) loomEasierOwn started (by kernel_rfl) Try.func9
  (ChangeSpec.witness6 (enc := enc) (C := Try.checked) false ⟨#[], #[.agg #[.int .u8 0, .int .u8 0, .int .u8 0, .int .u8 0, .int .u8 0, .slice none 0 0], .agg #[.int .u8 0, .int .u8 0, .int .u8 0, .int .u8 0, .int .u8 0, .int .u8 0, .int .u8 0], .agg #[.int .u8 0, .int .u8 0, .int .u8 0, .int .u8 0]], []⟩ 12 (by kernel_rfl) (by kernel_rfl) (by kernel_rfl) (by kernel_rfl)) ?_
 intro W base args ds gs before hval0 hW hcnd _
 have hval : ∀ (j : Nat) t v, Try.f9.params[j]? = some t → args[j]? = some v → Value.okWide Try.prog W .any base t v := hval0
 have hW' := hW
 obtain ⟨p, q, hA0, hV, rfl, hfz, hnd⟩ := hW
 have hA : DataW.TrodAll enc Try.prog W 0 (fun _ => true) true Try.f9.params.toList args.toList ds p := hA0
 rw [Try.params9] at hA hval
 obtain ⟨v0, vs0, d0, ds0, p0, q0, hargs, rfl, rfl, h0, r0⟩ := trodAll_cons hA
 obtain ⟨v1, vs1, d1, ds1, p1, q1, rfl, rfl, rfl, h1, r1⟩ := trodAll_cons r0
 obtain ⟨v2, vs2, d2, ds2, p2, q2, rfl, rfl, rfl, h2, r2⟩ := trodAll_cons r1
 obtain ⟨rfl, rfl, rfl⟩ := trodAll_nil r2
 obtain rfl : args = #[v0, v1, v2] := by cases args; simp_all
 obtain ⟨rfl, rfl⟩ := trodVars_none hV
 obtain ⟨a0, w0, k0⟩ := opened op71 (hval 0 71 v0 rfl rfl) h0
 obtain ⟨a1, w1, k1⟩ := opened op79 (hval 1 79 v1 rfl rfl) h1
 obtain ⟨a2, w2, k2⟩ := opened op86 (hval 2 86 v2 rfl rfl) h2
 clear hA0 hval0 hA hval
 refine Calls.mono (says_of (P := Try.prog) (f := 9) (x := f9 a0 a1 a2) (s9 a0 a1 a2) fun r hr => (wk9 w0 w1 w2 hr).mono fun m w' v hv => RV_bool.2 hv) ?_
 intro e W' ⟨he, hb⟩
 exact ⟨_, he, law_post (tb := 4) hW' loomEasierLaid loomEasierReads rfl rfl Try.underlying4 ⟨rfl, rfl, rfl⟩ hb⟩

theorem loomEasierOver : Rows.loomEasierRow.holds Try.pinned (OpenSpec.ofChange Rows.loomEasierSpec) :=
 OpenClaim.holds_of_wide 9 Try.f9 rfl rfl rfl rfl rfl rfl rfl ⟨rfl, rfl, rfl, rfl, rfl⟩ rfl rfl rfl rfl rfl (by kernel_rfl) Try.func9 (by kernel_rfl)
  (of_decide_eq_true (by kernel_rfl)) (by unfold Func.isWrapper; first | (rw [if_pos (by decide +kernel)]; kernel_rfl) | (rw [if_neg (by decide +kernel)]; exact ⟨rfl, rfl⟩))
  (fun os started H enc _ => loomEasierLifted os started H enc)
theorem loomEasier_holds : Rows.LoomEasierSaid := loomEasierOver
#print axioms loomEasier_holds
end Go.Proofs.Ytnfjhdagbknlbaa
