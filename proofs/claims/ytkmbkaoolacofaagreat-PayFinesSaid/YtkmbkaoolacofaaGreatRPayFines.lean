/- PayFines: for every input the law returns true, and each argument reads behind the call as it read before. No condition. -/
import Derived.Test.YtkmbkaoolacofaaGreatLawC
import Derived.Test.YtkmbkaoolacofaaGreatRow
import Derived.Test.YtkmbkaoolacofaaGreatRows
set_option maxRecDepth 100000
namespace Go.Proofs.YtkmbkaoolacofaaGreat
open Go.ChangeShapes Go.WideShapes Go.ChangeAt Go.RowKit

def ok81 (_ : UInt16) : Prop := True
theorem op81 : Opens Tryz.prog 81 UInt16 ok81 := by
 have h := opens_u16 Tryz.underlying81 (show Tryz.prog.cellsOf 81 = 1 from by kernel_rfl)
 exact h
def ok142 (x : Vector UInt16 2) : Prop := ∀ i (h : i < 2), ok81 x[i]
theorem op142 : Opens Tryz.prog 142 (Vector UInt16 2) ok142 := by
 have h := opens_array op81 Tryz.underlying142 (show Tryz.prog.cellsOf 142 = 2 from by kernel_rfl)
 exact h
def ok72 (x : List (Vector UInt16 2)) : Prop := x.length ≤ 9223372036854775807 ∧ ∀ y ∈ x, ok142 y
theorem op72 : Opens Tryz.prog 72 (List (Vector UInt16 2)) ok72 := by
 have h := opens_slice op142 Tryz.underlying72 (show Tryz.prog.cellsOf 72 = 1 from by kernel_rfl) (by decide)
 exact h
def ok5 (_ : UInt8) : Prop := True
theorem op5 : Opens Tryz.prog 5 UInt8 ok5 := by
 have h := opens_u8 Tryz.underlying5 (show Tryz.prog.cellsOf 5 = 1 from by kernel_rfl)
 exact h
def ok73 (x : List UInt8) : Prop := x.length ≤ 9223372036854775807 ∧ ∀ y ∈ x, ok5 y
theorem op73 : Opens Tryz.prog 73 (List UInt8) ok73 := by
 have h := opens_slice op5 Tryz.underlying73 (show Tryz.prog.cellsOf 73 = 1 from by kernel_rfl) (by decide)
 exact h
def ok75 (x : Prices) : Prop := ok72 x.Rates ∧ ok73 x.Extras ∧ ok5 x.Fine ∧ ok5 x.Cap
theorem op75 : Opens Tryz.prog 75 Prices ok75 := by
 have h := opens_struct (β := (List (Vector UInt16 2)) × (List UInt8) × UInt8 × UInt8) (fun x : Prices => (x.Rates, x.Extras, x.Fine, x.Cap)) rfl rfl (fun _ _ _ _ h => h) (fun b => ⟨⟨b.1, b.2.1, b.2.2.1, b.2.2.2⟩, rfl⟩) Tryz.underlying75 (show Tryz.prog.cellsOf 75 = 4 from by kernel_rfl) (opensF_cons (off := 0) (off' := 1) rfl rfl op72 (opensF_cons (off := 1) (off' := 2) rfl rfl op73 (opensF_cons (off := 2) (off' := 3) rfl rfl op5 (opensF_one (off := 3) rfl op5))))
 exact h
def ok77 (_ : UInt32) : Prop := True
theorem op77 : Opens Tryz.prog 77 UInt32 ok77 := by
 have h := opens_u32 Tryz.underlying77 (show Tryz.prog.cellsOf 77 = 1 from by kernel_rfl)
 exact h
def ok83 (x : Cut) : Prop := ok5 x.Weaver ∧ ok5 x.Faults ∧ ok5 x.Extras ∧ ok81 x.Dense ∧ ok77 x.Picks
theorem op83 : Opens Tryz.prog 83 Cut ok83 := by
 have h := opens_struct (β := UInt8 × UInt8 × UInt8 × UInt16 × UInt32) (fun x : Cut => (x.Weaver, x.Faults, x.Extras, x.Dense, x.Picks)) rfl rfl (fun _ _ _ _ h => h) (fun b => ⟨⟨b.1, b.2.1, b.2.2.1, b.2.2.2.1, b.2.2.2.2⟩, rfl⟩) Tryz.underlying83 (show Tryz.prog.cellsOf 83 = 5 from by kernel_rfl) (opensF_cons (off := 0) (off' := 1) rfl rfl op5 (opensF_cons (off := 1) (off' := 2) rfl rfl op5 (opensF_cons (off := 2) (off' := 3) rfl rfl op5 (opensF_cons (off := 3) (off' := 4) rfl rfl op81 (opensF_one (off := 4) rfl op77)))))
 exact h
def ok89 (x : Vector UInt8 3) : Prop := ∀ i (h : i < 3), ok5 x[i]
theorem op89 : Opens Tryz.prog 89 (Vector UInt8 3) ok89 := by
 have h := opens_array op5 Tryz.underlying89 (show Tryz.prog.cellsOf 89 = 3 from by kernel_rfl)
 exact h

theorem payFinesOwn : ownKnob Tryz.prog.godebug = none := by kernel_rfl
theorem payFinesLaid : laidOutB Tryz.prog = true := by kernel_rfl
theorem payFinesReads : ∀ t ∈ Tryz.f7.params.toList, Tryz.prog.readableRec t = true ∧ t < Tryz.prog.types.size := by
 rw [Tryz.params7]
 intro t ht
 simp only [List.mem_cons, List.not_mem_nil, or_false] at ht
 rcases ht with rfl | rfl | rfl
 all_goals exact ⟨by kernel_rfl, of_decide_eq_true (by kernel_rfl)⟩
theorem payFinesLifted (os : Os) (started : os.Started) (H : Type) (enc : TypeId × Value → H) :
  ReturnsInHanded {} Tryz.checked os 7 .any (Rows.payFinesSpec.pre6 enc Tryz.prog Tryz.f7 Rows.payFinesRow.domain false) (Rows.payFinesSpec.post enc Tryz.prog Tryz.f7 false true false false) := by
 refine returnsInHanded_of_change (C := Tryz.checked) payFinesOwn started (by kernel_rfl) Tryz.func7
  (ChangeSpec.witness6 (enc := enc) (C := Tryz.checked) false ⟨#[], #[.agg #[.slice none 0 0, .slice none 0 0, .int .u8 0, .int .u8 0], .agg #[.int .u8 0, .int .u8 0, .int .u8 0, .int .u16 0, .int .u32 0], .agg #[.int .u8 0, .int .u8 0, .int .u8 0]], []⟩ 12 (by kernel_rfl) (by kernel_rfl) (by kernel_rfl) (by kernel_rfl)) ?_
 intro W base args ds gs before hval0 hW hcnd _
 have hval : ∀ (j : Nat) t v, Tryz.f7.params[j]? = some t → args[j]? = some v → Value.okWide Tryz.prog W .any base t v := hval0
 have hW' := hW
 obtain ⟨p, q, hA0, hV, rfl, hfz, hnd⟩ := hW
 have hA : DataW.TrodAll enc Tryz.prog W 0 (fun _ => true) true Tryz.f7.params.toList args.toList ds p := hA0
 rw [Tryz.params7] at hA hval
 obtain ⟨v0, vs0, d0, ds0, p0, q0, hargs, rfl, rfl, h0, r0⟩ := trodAll_cons hA
 obtain ⟨v1, vs1, d1, ds1, p1, q1, rfl, rfl, rfl, h1, r1⟩ := trodAll_cons r0
 obtain ⟨v2, vs2, d2, ds2, p2, q2, rfl, rfl, rfl, h2, r2⟩ := trodAll_cons r1
 obtain ⟨rfl, rfl, rfl⟩ := trodAll_nil r2
 obtain rfl : args = #[v0, v1, v2] := by cases args; simp_all
 obtain ⟨rfl, rfl⟩ := trodVars_none hV
 obtain ⟨a0, w0, k0⟩ := opened op75 (hval 0 75 v0 rfl rfl) h0
 obtain ⟨a1, w1, k1⟩ := opened op83 (hval 1 83 v1 rfl rfl) h1
 obtain ⟨a2, w2, k2⟩ := opened op89 (hval 2 89 v2 rfl rfl) h2
 clear hA0 hval0 hA hval
 refine Calls.mono (says_of (P := Tryz.prog) (f := 7) (x := f7 a0 a1 a2) (s7 a0 a1 a2) fun r hr => (wk7 w0 w1 w2 hr).mono fun m w' v hv => RV_bool.2 hv) ?_
 intro e W' ⟨he, hb⟩
 exact ⟨_, he, law_post (tb := 4) hW' payFinesLaid payFinesReads rfl rfl Tryz.underlying4 ⟨rfl, rfl, rfl⟩ hb⟩

theorem payFinesOver : Rows.payFinesRow.holds Tryz.pinned (OpenSpec.ofChange Rows.payFinesSpec) :=
 OpenClaim.holds_of_wide 7 Tryz.f7 rfl rfl rfl rfl rfl rfl rfl ⟨rfl, rfl, rfl, rfl, rfl⟩ rfl rfl rfl rfl rfl (by kernel_rfl) Tryz.func7 (by kernel_rfl)
  (of_decide_eq_true (by kernel_rfl)) (by unfold Func.isWrapper; first | (rw [if_pos (by decide +kernel)]; kernel_rfl) | (rw [if_neg (by decide +kernel)]; exact ⟨rfl, rfl⟩))
  (fun os started H enc _ => payFinesLifted os started H enc)
theorem payFines_holds : Rows.PayFinesSaid := payFinesOver
#print axioms payFines_holds
end Go.Proofs.YtkmbkaoolacofaaGreat
