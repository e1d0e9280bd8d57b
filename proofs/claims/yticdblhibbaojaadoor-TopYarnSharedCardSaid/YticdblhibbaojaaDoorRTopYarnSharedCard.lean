/- TopYarnShared: for every input the law returns true, and each argument reads behind the call as it read before. No condition. -/
import Derived.Test.YticdblhibbaojaaDoorLawYD
import Derived.Test.YticdblhibbaojaaDoorRow
import Derived.Test.YticdblhibbaojaaDoorCards
import Derived.Test.YticdblhibbaojaaDoorTie
import Derived.Lay
import Derived.SevenTiedAt
set_option maxRecDepth 100000
namespace Go.Proofs.YticdblhibbaojaaDoor
open Go.ChangeShapes Go.WideShapes Go.ChangeAt Go.RowKit

def ok5 (_ : UInt8) : Prop := True
theorem op5 : Opens Tryd.prog 5 UInt8 ok5 := by
 have h := opens_u8 Tryd.underlying5 (show Tryd.prog.cellsOf 5 = 1 from by kernel_rfl)
 exact h
def ok26 (x : Vector UInt8 3) : Prop := ∀ i (h : i < 3), ok5 x[i]
theorem op26 : Opens Tryd.prog 26 (Vector UInt8 3) ok26 := by
 have h := opens_array op5 Tryd.underlying26 (show Tryd.prog.cellsOf 26 = 3 from by kernel_rfl)
 exact h
def ok22 (x : List (Vector UInt8 3)) : Prop := x.length ≤ 9223372036854775807 ∧ ∀ y ∈ x, ok26 y
theorem op22 : Opens Tryd.prog 22 (List (Vector UInt8 3)) ok22 := by
 have h := opens_slice op26 Tryd.underlying22 (show Tryd.prog.cellsOf 22 = 1 from by kernel_rfl) (by decide)
 exact h
def ok23 (x : Vector UInt8 5) : Prop := ∀ i (h : i < 5), ok5 x[i]
theorem op23 : Opens Tryd.prog 23 (Vector UInt8 5) ok23 := by
 have h := opens_array op5 Tryd.underlying23 (show Tryd.prog.cellsOf 23 = 5 from by kernel_rfl)
 exact h
def ok24 (x : Vector UInt8 2) : Prop := ∀ i (h : i < 2), ok5 x[i]
theorem op24 : Opens Tryd.prog 24 (Vector UInt8 2) ok24 := by
 have h := opens_array op5 Tryd.underlying24 (show Tryd.prog.cellsOf 24 = 2 from by kernel_rfl)
 exact h

theorem topYarnSharedOwn : ownKnob Tryd.prog.godebug = none := by kernel_rfl
theorem topYarnSharedLaid : laidOutB Tryd.prog = true := by kernel_rfl
theorem topYarnSharedReads : ∀ t ∈ Tryd.f3.params.toList, Tryd.prog.readableRec t = true ∧ t < Tryd.prog.types.size := by
 rw [Tryd.params3]
 intro t ht
 simp only [List.mem_cons, List.not_mem_nil, or_false] at ht
 rcases ht with rfl | rfl | rfl
 all_goals exact ⟨by kernel_rfl, of_decide_eq_true (by kernel_rfl)⟩
theorem tab_of {W : World} (h : laidMetH Tryd.prog Rows.topYarnSharedRow.laid W) : TabF 1 (mAll W) W := by
  rw [MakeChecks.laidMetH_plain _ _ _ (by kernel_rfl)] at h
  obtain ⟨ps, ⟨_, _, _, _, _, q0, _, _, _, _, hrest, _⟩, _, _⟩ := h
  obtain ⟨g, t, cs, fuel, p, q, hg, ht, hv, hd, _, _⟩ := hrest
  obtain rfl := Option.some.inj ((show Tryd.prog.globalNamed "math/bits.deBruijn64tab" = some 1 by kernel_rfl).symm.trans hg)
  obtain rfl := Option.some.inj ((show (Tryd.prog.globals[1]?).map (·.type) = some 141 by kernel_rfl).symm.trans ht)
  obtain ⟨xs, m, _, ex, _, hl, hel⟩ := DataW.trod_array Tryd.underlying141 hd
  have c5 : Tryd.prog.cellsOf 5 = 1 := by kernel_rfl
  have hlen : Lib.deBruijn64tab.length = 64 := by kernel_rfl
  have e3 : (xs.map (·.1)) = Lib.deBruijn64tab.map fun (n : Nat) => (DataW.lit (.int .u8 (n : Int)) : DataW Unit) := (DataW.agg.inj (Prod.mk.inj ex).1).symm
  have cell : ∀ r, r < 64 → W.cell? ⟨1, r, none⟩ = some (.int .u8 (Lib.deBruijn64tab.getD r 0)) := fun r hr => by
    have hE := hel r hr
    rw [c5, Nat.mul_one, List.getElem?_eq_getElem (by omega)] at hE
    obtain ⟨z, e1, e2, _⟩ := DataW.trod_int Tryd.underlying5 hE
    have e4 : (xs.map (·.1))[r]? = (Lib.deBruijn64tab.map fun (n : Nat) => (DataW.lit (.int .u8 (n : Int)) : DataW Unit))[r]? := by rw [e3]
    rw [List.getElem?_map, List.getElem?_map, List.getElem?_eq_getElem (by omega : r < xs.length), List.getElem?_eq_getElem (by omega : r < Lib.deBruijn64tab.length), e2] at e4
    have hz : z = ((Lib.deBruijn64tab.getD r 0 : Nat) : Int) := by
      simp only [Option.map_some, Option.some.injEq, DataW.lit.injEq, Lit.int.injEq, true_and] at e4
      rw [e4, List.getD, List.getElem?_eq_getElem (by omega : r < Lib.deBruijn64tab.length)]; rfl
    rw [World.var?_cell hg hv r, ← hz]
    have h0 : ((cs.toList.drop r).take 1)[0]? = some (.int .u8 z) := by rw [e1]; rfl
    have : cs.toList[r]? = some (.int .u8 z) := by simpa using h0
    simpa using this
  have hb := lt_mAll (cell 63 (by omega))
  exact ⟨hb.1, by omega, cell⟩
theorem topYarnSharedLifted (os : Os) (started : os.Started) (H : Type) (enc : TypeId × Value → H) :
  ReturnsInHanded {} Tryd.checked os 3 .any (fun w args => (Rows.topYarnSharedSpec.pre enc Tryd.prog Tryd.f3 [] false w args ∧ laidMetH Tryd.prog Rows.topYarnSharedRow.laid w) ∧ sizedMet enc Tryd.prog Tryd.f3 (OpenSpec.ofChange Rows.topYarnSharedSpec) false w args)
   (Rows.topYarnSharedSpec.post enc Tryd.prog Tryd.f3 false true false false) := by
 refine returnsInHanded_of_change_and (C := Tryd.checked) (X := fun w _ => laidMetH Tryd.prog Rows.topYarnSharedRow.laid w) (fun _ _ _ hh h => h.of_heap hh) topYarnSharedOwn started (by kernel_rfl) Tryd.func3
  (ChangeSpec.witness_shaped (enc := enc) (C := Tryd.checked) (os := os) (X := fun w _ => laidMetH Tryd.prog Rows.topYarnSharedRow.laid w) false (World.laidAll Tryd.prog os Rows.topYarnSharedRow.laid) #[.slice none 0 0, .agg #[.int .u8 0, .int .u8 0, .int .u8 0, .int .u8 0, .int .u8 0], .agg #[.int .u8 0, .int .u8 0]] 12 (World.laidAll_os _ _ _)
   (World.shaped_of_ZipB (by kernel_rfl) (by kernel_rfl)) (by kernel_rfl) (by kernel_rfl) (by kernel_rfl)
   (by rw [MakeChecks.laidMetH_plain _ _ _ (by kernel_rfl)]; exact laidMet_laidAll _ (by kernel_rfl) (by kernel_rfl))) ?_
 intro W base args ds gs before hval0 hW _ _ hL _
 have hT := tab_of hL
 have hval : ∀ (j : Nat) t v, Tryd.f3.params[j]? = some t → args[j]? = some v → Value.okWide Tryd.prog W .any base t v := hval0
 have hW' := hW
 obtain ⟨p, q, hA0, hV, rfl, hfz, hnd⟩ := hW
 have hA : DataW.TrodAll enc Tryd.prog W 0 (fun _ => true) true Tryd.f3.params.toList args.toList ds p := hA0
 rw [Tryd.params3] at hA hval
 obtain ⟨v0, vs0, d0, ds0, p0, q0, hargs, rfl, rfl, h0, r0⟩ := trodAll_cons hA
 obtain ⟨v1, vs1, d1, ds1, p1, q1, rfl, rfl, rfl, h1, r1⟩ := trodAll_cons r0
 obtain ⟨v2, vs2, d2, ds2, p2, q2, rfl, rfl, rfl, h2, r2⟩ := trodAll_cons r1
 obtain ⟨rfl, rfl, rfl⟩ := trodAll_nil r2
 obtain rfl : args = #[v0, v1, v2] := by cases args; simp_all
 obtain ⟨rfl, rfl⟩ := trodVars_none hV
 obtain ⟨a0, w0, k0⟩ := opened op22 (hval 0 22 v0 rfl rfl) h0
 obtain ⟨a1, w1, k1⟩ := opened op23 (hval 1 23 v1 rfl rfl) h1
 obtain ⟨a2, w2, k2⟩ := opened op24 (hval 2 24 v2 rfl rfl) h2
 clear hA0 hval0 hA hval
 refine Calls.mono (says_of (P := Tryd.prog) (f := 3) (x := f3 a0 a1 a2) (s3 a0 a1 a2) fun r hr => (wk3 w0 w1 w2 hT hr).mono fun m w' v hv => RV_bool.2 hv) ?_
 intro e W' ⟨he, hb⟩
 exact ⟨_, he, law_post (tb := 4) hW' topYarnSharedLaid topYarnSharedReads rfl rfl Tryd.underlying4 ⟨rfl, rfl, rfl⟩ hb⟩

theorem topYarnSharedOver : Rows.topYarnSharedRow.holds Tryd.pinned (OpenSpec.ofChange Rows.topYarnSharedSpec) :=
 OpenClaim.holds_of_wide 3 Tryd.f3 rfl rfl rfl rfl rfl rfl rfl ⟨rfl, rfl, rfl, rfl, rfl⟩ rfl rfl rfl rfl rfl (by kernel_rfl) Tryd.func3 (by kernel_rfl)
  (of_decide_eq_true (by kernel_rfl)) (by unfold Func.isWrapper; first | (rw [if_pos (by decide +kernel)]; kernel_rfl) | (rw [if_neg (by decide +kernel)]; exact ⟨rfl, rfl⟩))
  (fun os started H enc _ => topYarnSharedLifted os started H enc)
theorem topYarnSharedCard_holds : Rows.TopYarnSharedCardSaid :=
  Claim7.holds_tied_plain_at .later [] [.data, .data] true (true, "13d2a42d44f18981348dc39b617eaf67f95712082b9eab91c0eb4e57835c7b35") false topYarnSharedOver (fun _ h => by cases h) (by kernel_rfl) (fun _ h => by cases h) topYarnShared_row_tie rfl ⟨rfl, rfl⟩ (by kernel_rfl) rfl
    (fun f fn hf hfn => by
      obtain rfl : f = 3 := Option.some.inj ((show Tryd.prog.funcNamed "griffe/griffetop.TopYarnShared" = some 3 by kernel_rfl).symm.trans hf) |>.symm
      obtain rfl : fn = Tryd.f3 := (Option.some.inj (Tryd.func3.symm.trans hfn)).symm
      exact ⟨by kernel_rfl, fun j t ht => by
        rw [Tryd.params3] at ht
        have hm : t ∈ [22, 23, 24] := by simpa using Array.mem_of_getElem? ht
        have hall : ([22, 23, 24].all fun u => !Tryd.prog.wantsStandIn u) = true := by kernel_rfl
        exact (show Tryd.prog.wantsStandIn t = false by simpa using List.all_eq_true.1 hall t hm)⟩)
    (by kernel_rfl)
#print axioms topYarnSharedCard_holds
end Go.Proofs.YticdblhibbaojaaDoor
