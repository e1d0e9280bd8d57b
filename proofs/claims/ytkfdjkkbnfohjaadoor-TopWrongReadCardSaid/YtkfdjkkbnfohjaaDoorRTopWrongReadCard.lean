/- TopWrongRead: for every input the law returns true, and each argument reads behind the call as it read before. No condition. -/
import Derived.Test.YtkfdjkkbnfohjaaDoorLawRD
import Derived.Test.YtkfdjkkbnfohjaaDoorRow
import Derived.Test.YtkfdjkkbnfohjaaDoorCards
import Derived.Test.YtkfdjkkbnfohjaaDoorTie
import Derived.Lay
import Derived.SevenTiedAt
set_option maxRecDepth 100000
namespace Go.Proofs.YtkfdjkkbnfohjaaDoor
open Go.ChangeShapes Go.WideShapes Go.ChangeAt Go.RowKit

def ok5 (_ : UInt8) : Prop := True
theorem op5 : Opens Tryd.prog 5 UInt8 ok5 := by
 have h := opens_u8 Tryd.underlying5 (show Tryd.prog.cellsOf 5 = 1 from by kernel_rfl)
 exact h
def ok47 (x : List UInt8) : Prop := x.length ≤ 9223372036854775807 ∧ ∀ y ∈ x, ok5 y
theorem op47 : Opens Tryd.prog 47 (List UInt8) ok47 := by
 have h := opens_slice op5 Tryd.underlying47 (show Tryd.prog.cellsOf 47 = 1 from by kernel_rfl) (by decide)
 exact h
def ok125 (_ : UInt16) : Prop := True
theorem op125 : Opens Tryd.prog 125 UInt16 ok125 := by
 have h := opens_u16 Tryd.underlying125 (show Tryd.prog.cellsOf 125 = 1 from by kernel_rfl)
 exact h
def ok48 (x : List UInt16) : Prop := x.length ≤ 9223372036854775807 ∧ ∀ y ∈ x, ok125 y
theorem op48 : Opens Tryd.prog 48 (List UInt16) ok48 := by
 have h := opens_slice op125 Tryd.underlying48 (show Tryd.prog.cellsOf 48 = 1 from by kernel_rfl) (by decide)
 exact h
def ok50 (x : Loom) : Prop := ok5 x.Hooks ∧ ok47 x.Warps ∧ ok48 x.Rows ∧ ok47 x.Cards
theorem op50 : Opens Tryd.prog 50 Loom ok50 := by
 have h := opens_struct (β := UInt8 × (List UInt8) × (List UInt16) × (List UInt8)) (fun x : Loom => (x.Hooks, x.Warps, x.Rows, x.Cards)) rfl rfl (fun _ _ _ _ h => h) (fun b => ⟨⟨b.1, b.2.1, b.2.2.1, b.2.2.2⟩, rfl⟩) Tryd.underlying50 (show Tryd.prog.cellsOf 50 = 4 from by kernel_rfl) (opensF_cons (off := 0) (off' := 1) rfl rfl op5 (opensF_cons (off := 1) (off' := 2) rfl rfl op47 (opensF_cons (off := 2) (off' := 3) rfl rfl op48 (opensF_one (off := 3) rfl op47))))
 exact h

theorem topWrongReadOwn : ownKnob Tryd.prog.godebug = none := by kernel_rfl
theorem topWrongReadLaid : laidOutB Tryd.prog = true := by kernel_rfl
theorem topWrongReadReads : ∀ t ∈ Tryd.f5.params.toList, Tryd.prog.readableRec t = true ∧ t < Tryd.prog.types.size := by
 rw [Tryd.params5]
 intro t ht
 simp only [List.mem_cons, List.not_mem_nil, or_false] at ht
 rcases ht with rfl
 all_goals exact ⟨by kernel_rfl, of_decide_eq_true (by kernel_rfl)⟩
theorem topWrongReadLifted (os : Os) (started : os.Started) (H : Type) (enc : TypeId × Value → H) :
  ReturnsInHanded {} Tryd.checked os 5 .any (fun w args => (Rows.topWrongReadSpec.pre enc Tryd.prog Tryd.f5 [] false w args ∧ laidMetH Tryd.prog Rows.topWrongReadRow.laid w) ∧ sizedMet enc Tryd.prog Tryd.f5 (OpenSpec.ofChange Rows.topWrongReadSpec) false w args)
   (Rows.topWrongReadSpec.post enc Tryd.prog Tryd.f5 false true false false) := by
 refine returnsInHanded_of_change_and (C := Tryd.checked) (X := fun w _ => laidMetH Tryd.prog Rows.topWrongReadRow.laid w) (fun _ _ _ hh h => h.of_heap hh) topWrongReadOwn started (by kernel_rfl) Tryd.func5
  (ChangeSpec.witness_shaped (enc := enc) (C := Tryd.checked) (os := os) (X := fun w _ => laidMetH Tryd.prog Rows.topWrongReadRow.laid w) false (World.laidAll Tryd.prog os Rows.topWrongReadRow.laid) #[.agg #[.int .u8 0, .slice none 0 0, .slice none 0 0, .slice none 0 0]] 12 (World.laidAll_os _ _ _)
   (World.shaped_of_ZipB (by kernel_rfl) (by kernel_rfl)) (by kernel_rfl) (by kernel_rfl) (by kernel_rfl)
   (by rw [MakeChecks.laidMetH_plain _ _ _ (by kernel_rfl)]; exact laidMet_laidAll _ (by kernel_rfl) (by kernel_rfl))) ?_
 intro W base args ds gs before hval0 hW _ _ _ _
 have hval : ∀ (j : Nat) t v, Tryd.f5.params[j]? = some t → args[j]? = some v → Value.okWide Tryd.prog W .any base t v := hval0
 have hW' := hW
 obtain ⟨p, q, hA0, hV, rfl, hfz, hnd⟩ := hW
 have hA : DataW.TrodAll enc Tryd.prog W 0 (fun _ => true) true Tryd.f5.params.toList args.toList ds p := hA0
 rw [Tryd.params5] at hA hval
 obtain ⟨v0, vs0, d0, ds0, p0, q0, hargs, rfl, rfl, h0, r0⟩ := trodAll_cons hA
 obtain ⟨rfl, rfl, rfl⟩ := trodAll_nil r0
 obtain rfl : args = #[v0] := by cases args; simp_all
 obtain ⟨rfl, rfl⟩ := trodVars_none hV
 obtain ⟨a0, w0, k0⟩ := opened op50 (hval 0 50 v0 rfl rfl) h0
 clear hA0 hval0 hA hval
 refine Calls.mono (says_of (P := Tryd.prog) (f := 5) (x := f5 a0) (s5 a0 k0) fun r hr => (wk5 w0 hr).mono fun m w' v hv => RV_bool.2 hv) ?_
 intro e W' ⟨he, hb⟩
 exact ⟨_, he, law_post (tb := 4) hW' topWrongReadLaid topWrongReadReads rfl rfl Tryd.underlying4 ⟨rfl, rfl, rfl⟩ hb⟩

theorem topWrongReadOver : Rows.topWrongReadRow.holds Tryd.pinned (OpenSpec.ofChange Rows.topWrongReadSpec) :=
 OpenClaim.holds_of_wide 5 Tryd.f5 rfl rfl rfl rfl rfl rfl rfl ⟨rfl, rfl, rfl, rfl, rfl⟩ rfl rfl rfl rfl rfl (by kernel_rfl) Tryd.func5 (by kernel_rfl)
  (of_decide_eq_true (by kernel_rfl)) (by unfold Func.isWrapper; first | (rw [if_pos (by decide +kernel)]; kernel_rfl) | (rw [if_neg (by decide +kernel)]; exact ⟨rfl, rfl⟩))
  (fun os started H enc _ => topWrongReadLifted os started H enc)
theorem topWrongReadCard_holds : Rows.TopWrongReadCardSaid :=
  Claim7.holds_tied_plain_at .later [] [.data, .pinned] true (true, "1fd20d169d3bff944b616be95333355323a5c60913cf7d00e56042aa8fb84242") false topWrongReadOver (fun _ h => by cases h) (by kernel_rfl) (fun _ h => by cases h) topWrongRead_row_tie rfl ⟨rfl, rfl⟩ (by kernel_rfl) rfl
    (fun f fn hf hfn => by
      obtain rfl : f = 5 := Option.some.inj ((show Tryd.prog.funcNamed "griffe/griffetop.TopWrongRead" = some 5 by kernel_rfl).symm.trans hf) |>.symm
      obtain rfl : fn = Tryd.f5 := (Option.some.inj (Tryd.func5.symm.trans hfn)).symm
      exact ⟨by kernel_rfl, fun j t ht => by
        rw [Tryd.params5] at ht
        have hm : t ∈ [50] := by simpa using Array.mem_of_getElem? ht
        have hall : ([50].all fun u => !Tryd.prog.wantsStandIn u) = true := by kernel_rfl
        exact (show Tryd.prog.wantsStandIn t = false by simpa using List.all_eq_true.1 hall t hm)⟩)
    (by kernel_rfl)
#print axioms topWrongReadCard_holds
end Go.Proofs.YtkfdjkkbnfohjaaDoor
