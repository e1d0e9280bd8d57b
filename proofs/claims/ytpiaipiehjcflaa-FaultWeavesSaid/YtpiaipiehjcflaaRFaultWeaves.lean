/- FaultWeaves: for every input the law returns true, and each argument reads behind the call as it read before. No condition. -/
import Derived.Test.YtpiaipiehjcflaaWeaves
import Derived.Test.YtpiaipiehjcflaaRow
import Derived.Test.YtpiaipiehjcflaaRows
set_option maxRecDepth 100000
namespace Go.Proofs.Ytpiaipiehjcflaa
open Go.ChangeShapes Go.WideShapes Go.ChangeAt Go.RowKit

def ok3 (x : Int) : Prop := (-9223372036854775808 ≤ x ∧ x ≤ 9223372036854775807)
theorem op3 : Opens Try.prog 3 Int ok3 := by
  have h := opens_int Try.underlying3 (show Try.prog.cellsOf 3 = 1 from by kernel_rfl)
  exact h
def ok22 (x : List Int) : Prop := x.length ≤ 9223372036854775807 ∧ ∀ y ∈ x, ok3 y
theorem op22 : Opens Try.prog 22 (List Int) ok22 := by
  have h := opens_slice op3 Try.underlying22 (show Try.prog.cellsOf 22 = 1 from by kernel_rfl) (by decide)
  exact h
def ok24 (x : TieHarness) : Prop := ok3 x.Hooks ∧ ok22 x.Warps
theorem op24 : Opens Try.prog 24 TieHarness ok24 := by
  have h := opens_struct (β := Int × (List Int)) (fun x : TieHarness => (x.Hooks, x.Warps)) rfl rfl (fun _ _ _ _ h => h) (fun b => ⟨⟨b.1, b.2⟩, rfl⟩) Try.underlying24 (show Try.prog.cellsOf 24 = 2 from by kernel_rfl) (opensF_cons (off := 0) (off' := 1) rfl rfl op3 (opensF_one (off := 1) rfl op22))
  exact h
def ok26 (x : Design) : Prop := ok3 x.Hooks ∧ ok22 x.Rows
theorem op26 : Opens Try.prog 26 Design ok26 := by
  have h := opens_struct (β := Int × (List Int)) (fun x : Design => (x.Hooks, x.Rows)) rfl rfl (fun _ _ _ _ h => h) (fun b => ⟨⟨b.1, b.2⟩, rfl⟩) Try.underlying26 (show Try.prog.cellsOf 26 = 2 from by kernel_rfl) (opensF_cons (off := 0) (off' := 1) rfl rfl op3 (opensF_one (off := 1) rfl op22))
  exact h
def ok28 (x : FaultLoom) : Prop := ok24 x.Harness ∧ ok26 x.Design
theorem op28 : Opens Try.prog 28 FaultLoom ok28 := by
  have h := opens_struct (β := TieHarness × Design) (fun x : FaultLoom => (x.Harness, x.Design)) rfl rfl (fun _ _ _ _ h => h) (fun b => ⟨⟨b.1, b.2⟩, rfl⟩) Try.underlying28 (show Try.prog.cellsOf 28 = 4 from by kernel_rfl) (opensF_cons (off := 0) (off' := 2) rfl rfl op24 (opensF_one (off := 2) rfl op26))
  exact h
def ok60 (x : Int) : Prop := (-9223372036854775808 ≤ x ∧ x ≤ 9223372036854775807)
theorem op60 : Opens Try.prog 60 Int ok60 := by
  have h := opens_int Try.underlying60 (show Try.prog.cellsOf 60 = 1 from by kernel_rfl)
  exact h
def ok4 (_ : Bool) : Prop := True
theorem op4 : Opens Try.prog 4 Bool ok4 := by
  have h := opens_bool Try.underlying4 (show Try.prog.cellsOf 4 = 1 from by kernel_rfl)
  exact h
def ok62 (x : FaultDamage) : Prop := ok60 x.Kind ∧ ok3 x.Pick ∧ ok3 x.Hook ∧ ok3 x.Warp ∧ ok4 x.Up
theorem op62 : Opens Try.prog 62 FaultDamage ok62 := by
  have h := opens_struct (β := Int × Int × Int × Int × Bool) (fun x : FaultDamage => (x.Kind, x.Pick, x.Hook, x.Warp, x.Up)) rfl rfl (fun _ _ _ _ h => h) (fun b => ⟨⟨b.1, b.2.1, b.2.2.1, b.2.2.2.1, b.2.2.2.2⟩, rfl⟩) Try.underlying62 (show Try.prog.cellsOf 62 = 5 from by kernel_rfl) (opensF_cons (off := 0) (off' := 1) rfl rfl op60 (opensF_cons (off := 1) (off' := 2) rfl rfl op3 (opensF_cons (off := 2) (off' := 3) rfl rfl op3 (opensF_cons (off := 3) (off' := 4) rfl rfl op3 (opensF_one (off := 4) rfl op4)))))
  exact h
def ok29 (x : List FaultDamage) : Prop := x.length ≤ 9223372036854775807 ∧ ∀ y ∈ x, ok62 y
theorem op29 : Opens Try.prog 29 (List FaultDamage) ok29 := by
  have h := opens_slice op62 Try.underlying29 (show Try.prog.cellsOf 29 = 1 from by kernel_rfl) (by decide)
  exact h

theorem faultWeavesOwn : ownKnob Try.prog.godebug = none := by kernel_rfl
theorem faultWeavesLaid : laidOutB Try.prog = true := by kernel_rfl
theorem faultWeavesReads : ∀ t ∈ Try.f3.params.toList, Try.prog.readableRec t = true ∧ t < Try.prog.types.size := by
  rw [Try.params3]
  intro t ht
  simp only [List.mem_cons, List.not_mem_nil, or_false] at ht
  rcases ht with rfl | rfl | rfl
  all_goals exact ⟨by kernel_rfl, of_decide_eq_true (by kernel_rfl)⟩
theorem faultWeavesLifted (os : Os) (started : os.Started) (H : Type) (enc : TypeId × Value → H) :
    ReturnsInHanded {} Try.checked os 3 .any (Rows.faultWeavesSpec.pre6 enc Try.prog Try.f3 Rows.faultWeavesRow.domain false) (Rows.faultWeavesSpec.post enc Try.prog Try.f3 false true false false) := by
  refine returnsInHanded_of_change (C := Try.checked) faultWeavesOwn started (by kernel_rfl) Try.func3
    (ChangeSpec.witness6 (enc := enc) (C := Try.checked) false ⟨#[], #[.agg #[.int .i64 0, .slice none 0 0, .int .i64 0, .slice none 0 0], .slice none 0 0, .int .i64 0], []⟩ 12 (by kernel_rfl) (by kernel_rfl) (by kernel_rfl) (by kernel_rfl)) ?_
  intro W base args ds gs before hval0 hW hcnd _
  have hval : ∀ (j : Nat) t v, Try.f3.params[j]? = some t → args[j]? = some v → Value.okWide Try.prog W .any base t v := hval0
  have hW' := hW
  obtain ⟨p, q, hA0, hV, rfl, hfz, hnd⟩ := hW
  have hA : DataW.TrodAll enc Try.prog W 0 (fun _ => true) true Try.f3.params.toList args.toList ds p := hA0
  rw [Try.params3] at hA hval
  obtain ⟨v0, vs0, d0, ds0, p0, q0, hargs, rfl, rfl, h0, r0⟩ := trodAll_cons hA
  obtain ⟨v1, vs1, d1, ds1, p1, q1, rfl, rfl, rfl, h1, r1⟩ := trodAll_cons r0
  obtain ⟨v2, vs2, d2, ds2, p2, q2, rfl, rfl, rfl, h2, r2⟩ := trodAll_cons r1
  obtain ⟨rfl, rfl, rfl⟩ := trodAll_nil r2
  obtain rfl : args = #[v0, v1, v2] := by cases args; simp_all
  obtain ⟨rfl, rfl⟩ := trodVars_none hV
  obtain ⟨a0, w0, k0⟩ := opened op28 (hval 0 28 v0 rfl rfl) h0
  obtain ⟨a1, w1, k1⟩ := opened op29 (hval 1 29 v1 rfl rfl) h1
  obtain ⟨a2, w2, k2⟩ := opened op3 (hval 2 3 v2 rfl rfl) h2
  obtain rfl := RV_int.1 w2
  clear hA0 hval0 hA hval
  refine Calls.mono (says_of (P := Try.prog) (f := 3) (x := f3 a0 a1 a2) (s3 a0 a1 a2) fun r hr => (wk3 w0 w1 hr).mono fun m w' v hv => RV_bool.2 hv) ?_
  intro e W' ⟨he, hb⟩
  exact ⟨_, he, law_post (tb := 4) hW' faultWeavesLaid faultWeavesReads rfl rfl Try.underlying4 ⟨rfl, rfl, rfl⟩ hb⟩

theorem faultWeavesOver : Rows.faultWeavesRow.holds Try.pinned (OpenSpec.ofChange Rows.faultWeavesSpec) :=
  OpenClaim.holds_of_wide 3 Try.f3 rfl rfl rfl rfl rfl rfl rfl ⟨rfl, rfl, rfl, rfl, rfl⟩ rfl rfl rfl rfl rfl (by kernel_rfl) Try.func3 (by kernel_rfl)
    (of_decide_eq_true (by kernel_rfl)) (by unfold Func.isWrapper; first | (rw [if_pos (by decide +kernel)]; kernel_rfl) | (rw [if_neg (by decide +kernel)]; exact ⟨rfl, rfl⟩))
    (fun os started H enc _ => faultWeavesLifted os started H enc)
theorem faultWeaves_holds : Rows.FaultWeavesSaid := faultWeavesOver
#print axioms faultWeaves_holds
end Go.Proofs.Ytpiaipiehjcflaa
