import Derived.Test.YtnfjhdagbknlbaaCode4
set_option maxRecDepth 8000
set_option maxHeartbeats 4000000
namespace Go.Proofs.Ytnfjhdagbknlbaa
open Go.RowKit
def f93 (x0 : LoomLoomMill) (x1 : List LoomRun) (x2 : Int) : Option (Int) :=
 (idx x1 x2).bind fun y2 =>
 jn (σ := Unit) (fun (_ : Unit) =>
  some ((0 : Int))
  ) fun q7 =>
 Option.bind (α := Bool) (
  (f81 ((0 : Int)) ((w64 ((((x0).orders).length : Int) - (1 : Int)))) (([(y2).Order] : List Int))).bind fun z4 =>
  bif (!z4) then
   some ((!z4))
  else
   (f81 ((0 : Int)) ((w64 (((((x0).LoomMill).Widths).length : Int) - (1 : Int)))) (([(y2).Loom] : List Int))).bind fun d5 =>
   bif (!d5) then
    some ((!d5))
   else
    (f71 (([(y2).From] : List Int))).bind fun d6 =>
    some ((!d6))
  ) fun d3 =>
 bif d3 then
  some ((7 : Int))
 else
  Option.bind (α := Bool) (
   bif (decide (x2 > (0 : Int))) then
    (idx x1 (w64 (x2 - (1 : Int)))).bind fun d4 =>
    some ((decide ((y2).Order ≤ (d4).Order)))
   else
    some (false)
   ) fun i3 =>
  bif i3 then
   some ((4 : Int))
  else
   (idx ((x0).orders) (y2).Order).bind fun i5 =>
   (idx (((x0).LoomMill).Widths) (y2).Loom).bind fun l5 =>
   bif (decide ((i5).Width > l5)) then
    some ((2 : Int))
   else
    Option.bind (α := Bool) (
     (idx ((x0).orders) (y2).Order).bind fun m4 =>
     bif (decide ((y2).From < (m4).Early)) then
      some ((decide ((y2).From < (m4).Early)))
     else
      (f73 x0 y2).bind fun p4 =>
      (idx ((x0).orders) (y2).Order).bind fun o5 =>
      some ((decide (p4 > (o5).Late)))
     ) fun j3 =>
    bif j3 then
     some ((3 : Int))
    else
     q7 ()
theorem en93 : Enters Try.prog 93 := enters_of Try.func93 (by kernel_rfl) rfl
theorem wk93 {gI : Gh} {wI : World} {x0 : LoomLoomMill} {x1 : List LoomRun} {x2 : Int} {up0 : Value} (rp0 : RV gI.m wI x0 up0) {up1 : Value} (rp1 : RV gI.m wI x1 up1) {r : Int} (h : f93 x0 x1 x2 = some r) : Fn Try.prog 93 #[up0, up1, .int .i64 (x2)] gI wI (fun _ _ v => v = .int .i64 (r)) := by
 unfold f93 at h
 refine fn_of_E Try.func93 rfl (Nat.le_of_ble_eq_true rfl) fun g0 hm hfr => ?_
 have rp0 : RV g0.m wI x0 up0 := hm ▸ rp0
 have rp1 : RV g0.m wI x1 up1 := hm ▸ rp1
 show E _ 89 none _ _ _ _ _
 refine E_seq (E_region (EL_do .plain rfl (D_box (g := g0) rfl rp0 fun g1 w1 p1 hs q1 => ?_)))
 have hfr := hfr.ext hs
 have rp1 := rp1.ext hs
 refine EL_at (.int .i64 (0)) rfl rfl ?_
 refine EL_nil (thn_n (E_seq (E_region (EL_mw up1 rfl rfl ?_))))
 refine EL_mw (.int .i64 (x2)) rfl rfl ?_
 obtain ⟨y2, hy2, h⟩ := bsome h
 refine EL_pur (v := ePtr up1 x2 3) (P_indexAddr (α := LoomRun) Try.underlying31 Try.sizeOf76 rfl rp1 rfl hy2) .plain rfl ?_
 have q3 := PT_idx rp1 hy2
 refine EL_do .plain rfl (D_load (g := g1) Try.isAgg76 Try.sizeOf76 rfl q3 fun v4 r4 => ?_)
 refine EL_do .plain rfl (D_allocOc (g := g1) 2007 (⟨0, 0, 0⟩ : LoomRun) Try.zeroValue76 (fun m w => ⟨_, (rep_two rep_int (rep_two rep_int rep_int)), rfl⟩) fun g5 w5 p5 hs b5 cb => ?_)
 have hfr := hfr.stp hs
 have rp1 := rp1.stp hs
 have q1 := q1.stp hs
 have r4 := r4.stp hs
 clear cb
 refine EL_do .plain rfl (D_storeOc (g := g5) (v := v4) Try.sizeOf76 rfl b5 rfl r4 fun g6 w6 hs b6 cb => ?_)
 clear cb
 have hfr := hfr.stp hs
 have rp1 := rp1.stp hs
 have q1 := q1.stp hs
 refine EL_nil (thn_n (E_joinC h (fun (s : Unit) e w => ∃ (g : Gh) , Fr gI wI g w) (fun X380 q7 v8 h => ?_) ?_))
 ·refine E_block ?_
  obtain ⟨d3, hx, h⟩ := bsome h
  refine E_join (fun e w => ∃ (g : Gh) , Fr gI wI g w ∧ e 1 = up1 ∧ RV g.m w (x1 : List LoomRun) up1 ∧ e 2 = .int .i64 (x2) ∧ e 3 = p1 ∧ PT g.m w (x0 : LoomLoomMill) p1 ∧ e 7 = p5 ∧ OB 2007 g w 76 (y2 : LoomRun) p5 ∧ e 12 = .bool (d3)) (fun Q' hQ => ?_) (fun cC mC hR => ?_)
  ·replace h := hx
   clear hx
   refine E_seq (E_region (EL_pur (v := fPtr p1 2) (P_fieldAddr at_96_1 rfl (PT.ptr q1)) .plain rfl ?_))
   have cA := PT_field (part_LoomLoomMill_1).1 q1
   refine EL_do .plain rfl (D_load (g := g6) Try.isAgg25 Try.sizeOf25 rfl cA fun nC dA => ?_)
   refine EL_pur (v := .int .i64 (((x0).orders).length : Int)) (P_len Try.underlying25 rfl dA) .plain rfl ?_
   refine EL_pur (v := .int .i64 ((w64 ((((x0).orders).length : Int) - (1 : Int))))) (P_int rfl rfl rfl) .plain rfl ?_
   refine EL_pur (v := fPtr p5 0) (P_fieldAddr at_76_0 rfl (OB.ptr b6)) .plain rfl ?_
   refine EL_do .plain rfl (D_loadF (g := g6) part_LoomRun_0.1 Try.isAgg3 Try.sizeOf3 rfl b6 fun oC eA => ?_)
   obtain rfl := RV_int.1 eA
   refine EL_do .plain rfl (D_buildSlice (g := g6) 3019 (xs := ([(y2).Order] : List Int)) (vs := [.int .i64 ((y2).Order)]) Try.underlying22 Try.sizeOf3 Try.zeroValue3 rfl rfl (.cons rfl .nil) (RVs.cons (RV_int.2 rfl) RVs.nil) rfl rfl fun gA qC iA hs o407 jA hxt hfl => ?_)
   have hfr := hfr.stp hs
   have rp1 := rp1.stp hs
   have q1 := q1.stp hs
   have b6 := b6.stp hs rfl
   obtain ⟨z4, x8, h⟩ := bsome h
   refine EL_do .plain rfl (D_call (g := gA) (vs := [.int .i64 (0), .int .i64 ((w64 ((((x0).orders).length : Int) - (1 : Int)))), iA]) en81 (.cons rfl (.cons rfl (.cons rfl .nil))) (wk81 jA x8) fun i6 dC rC hs hr => ?_)
   have hfr := hfr.ext hs
   have rp1 := rp1.ext hs
   have q1 := q1.ext hs
   have b6 := b6.ext hs
   subst hr
   refine EL_pur (v := .bool (!z4)) (P_not rfl) .plain rfl ?_
   refine EL_at (.bool (!z4)) rfl rfl ?_
   refine EL_nil (thn_n ?_)
   rcases csome h with ⟨j6, h⟩ | ⟨j6, h⟩
   ·refine E_ct j6 rfl ?_
    refine E_skip ?_
    obtain rfl := sinj h
    exact hQ _ _ ⟨i6, hfr, rfl, rp1, rfl, rfl, q1, rfl, b6, rfl⟩
   ·refine E_cf j6 rfl ?_
    refine E_seq (E_region (EL_pur (v := fPtr p1 0) (P_fieldAddr at_96_0 rfl (PT.ptr q1)) .plain rfl ?_))
    have t7 := PT_field (part_LoomLoomMill_0).1 q1
    refine EL_pur (v := fPtr (fPtr p1 0) 0) (P_fieldAddr at_24_0 rfl (PT.ptr t7)) .plain rfl ?_
    have kA := PT_field (part_LoomMill_0).1 t7
    refine EL_do .plain rfl (D_load (g := i6) Try.isAgg22 Try.sizeOf22 rfl kA fun sC lA => ?_)
    refine EL_pur (v := .int .i64 ((((x0).LoomMill).Widths).length : Int)) (P_len Try.underlying22 rfl lA) .plain rfl ?_
    refine EL_pur (v := .int .i64 ((w64 (((((x0).LoomMill).Widths).length : Int) - (1 : Int))))) (P_int rfl rfl rfl) .plain rfl ?_
    refine EL_pur (v := fPtr p5 1) (P_fieldAddr at_76_1 rfl (OB.ptr b6)) .plain rfl ?_
    refine EL_do .plain rfl (D_loadF (g := i6) part_LoomRun_1.1 Try.isAgg3 Try.sizeOf3 rfl b6 fun tC mA => ?_)
    obtain rfl := RV_int.1 mA
    refine EL_do .plain rfl (D_buildSlice (g := i6) 3029 (xs := ([(y2).Loom] : List Int)) (vs := [.int .i64 ((y2).Loom)]) Try.underlying22 Try.sizeOf3 Try.zeroValue3 rfl rfl (.cons rfl .nil) (RVs.cons (RV_int.2 rfl) RVs.nil) rfl rfl fun nA uC oA hs o416 pA hxt hfl => ?_)
    have hfr := hfr.stp hs
    have rp1 := rp1.stp hs
    have q1 := q1.stp hs
    have b6 := b6.stp hs rfl
    obtain ⟨d5, y8, h⟩ := bsome h
    refine EL_do .plain rfl (D_call (g := nA) (vs := [.int .i64 (0), .int .i64 ((w64 (((((x0).LoomMill).Widths).length : Int) - (1 : Int)))), oA]) en81 (.cons rfl (.cons rfl (.cons rfl .nil))) (wk81 pA y8) fun d7 eC vC hs hr => ?_)
    have hfr := hfr.ext hs
    have rp1 := rp1.ext hs
    have q1 := q1.ext hs
    have b6 := b6.ext hs
    subst hr
    refine EL_pur (v := .bool (!d5)) (P_not rfl) .plain rfl ?_
    refine EL_at (.bool (!d5)) rfl rfl ?_
    refine EL_nil (thn_n ?_)
    rcases csome h with ⟨l6, h⟩ | ⟨l6, h⟩
    ·refine E_ct l6 rfl ?_
     refine E_skip ?_
     obtain rfl := sinj h
     exact hQ _ _ ⟨d7, hfr, rfl, rp1, rfl, rfl, q1, rfl, b6, rfl⟩
    ·refine E_cf l6 rfl ?_
     refine E_region (EL_pur (v := fPtr p5 2) (P_fieldAddr at_76_2 rfl (OB.ptr b6)) .plain rfl ?_)
     refine EL_do .plain rfl (D_loadF (g := d7) part_LoomRun_2.1 Try.isAgg3 Try.sizeOf3 rfl b6 fun xC qA => ?_)
     obtain rfl := RV_int.1 qA
     refine EL_do .plain rfl (D_buildSlice (g := d7) 3034 (xs := ([(y2).From] : List Int)) (vs := [.int .i64 ((y2).From)]) Try.underlying22 Try.sizeOf3 Try.zeroValue3 rfl rfl (.cons rfl .nil) (RVs.cons (RV_int.2 rfl) RVs.nil) rfl rfl fun rA yC sA hs o422 tA hxt hfl => ?_)
     have hfr := hfr.stp hs
     have rp1 := rp1.stp hs
     have q1 := q1.stp hs
     have b6 := b6.stp hs rfl
     obtain ⟨d6, z8, h⟩ := bsome h
     refine EL_do .plain rfl (D_call (g := rA) (vs := [sA]) en71 (.cons rfl .nil) (wk71 tA z8) fun uA iC zC hs hr => ?_)
     have hfr := hfr.ext hs
     have rp1 := rp1.ext hs
     have q1 := q1.ext hs
     have b6 := b6.ext hs
     subst hr
     refine EL_pur (v := .bool (!d6)) (P_not rfl) .plain rfl ?_
     refine EL_at (.bool (!d6)) rfl rfl ?_
     refine EL_nil ?_
     obtain rfl := sinj h
     exact hQ _ _ ⟨uA, hfr, rfl, rp1, rfl, rfl, q1, rfl, b6, rfl⟩
  ·clear hx
   obtain ⟨u7, hfr, v7, b7, q5, c7, o3, t5, z2, u5⟩ := hR
   rcases csome h with ⟨v6, h⟩ | ⟨v6, h⟩
   ·refine E_cond_true (Eq.trans (show ev _ _ = .bool (d3) from u5) (congrArg Value.bool v6)) ?_
    refine E_seq (E_region (EL_at (.int .i64 (7)) rfl rfl ?_))
    refine EL_nil (thn_n (E_ret (blk_r ?_)))
    refine thn_r ?_
    obtain rfl := sinj h
    exact end1 rfl rfl (show _ = .int .i64 (7) from rfl) ⟨_, hfr, rfl⟩
   ·refine E_cond_false (Eq.trans (show ev _ _ = .bool (d3) from u5) (congrArg Value.bool v6)) ?_
    obtain ⟨i3, hx, h⟩ := bsome h
    refine E_join (fun e w => ∃ (g : Gh) , Fr gI wI g w ∧ e 3 = p1 ∧ PT g.m w (x0 : LoomLoomMill) p1 ∧ e 7 = p5 ∧ OB 2007 g w 76 (y2 : LoomRun) p5 ∧ e 37 = .bool (i3)) (fun Q' hQ => ?_) (fun jC aD hR => ?_)
    ·replace h := hx
     clear hx
     rcases csome h with ⟨o0, h⟩ | ⟨o0, h⟩
     ·refine L_loadO (x := .tmp 41) part_LoomRun_0.1 Try.isAgg3 Try.sizeOf3 z2 fun bD vA a9 => ?_
      obtain rfl := RV_int.1 vA
      obtain ⟨d4, j7, h⟩ := bsome h
      have c8 := PT_idx b7 j7
      have xA := PT_field (part_LoomRun_0).1 c8
      refine L_load (x := .tmp 47) Try.isAgg3 Try.sizeOf3 xA fun cD yA d9 => ?_
      obtain rfl := RV_int.1 yA
      refine E_drawL (g := u7) (n := 14) [] [0, 1, 2, 3, 4, 5, 6, 7, 8, 9, 10, 11, 12, 13] rfl mixed (by kernel_rfl) trivial ?_
      refine L_pur (c := .int .i64 (x2)) rfl rfl .plain (fun _ _ hd => P_move q5) ?_
      refine L_pur (c := .bool ((decide (x2 > (0 : Int))))) rfl rfl .plain (fun _ _ hd => P_int rfl rfl rfl) ?_
      refine L_pur (c := .bool ((decide (x2 > (0 : Int))))) rfl rfl .plain (fun _ _ hd => P_move rfl) ?_
      refine L_pur (c := fPtr p5 0) rfl rfl (.yes2 rfl rfl o0) (fun _ _ hd => P_fieldAddr at_76_0 t5 (OB.ptr z2)) ?_
      refine L_ld (c := .int .i64 ((y2).Order)) rfl rfl (.yes2 rfl rfl o0) (fun _ _ h => ⟨h.ch, fun b hb _ => h.below.block b hb⟩) a9 rfl ?_
      refine L_pur (c := up1) rfl rfl (.yes2 rfl rfl o0) (fun _ _ hd => P_move v7) ?_
      refine L_pur (c := .int .i64 (x2)) rfl rfl (.yes2 rfl rfl o0) (fun _ _ hd => P_move q5) ?_
      refine L_pur (c := .int .i64 ((w64 (x2 - (1 : Int))))) rfl rfl (.yes2 rfl rfl o0) (fun _ _ hd => P_int rfl rfl rfl) ?_
      refine L_pur (c := ePtr up1 (w64 (x2 - (1 : Int))) 3) rfl rfl (.yes2 rfl rfl o0) (fun _ _ hd => P_indexAddr (α := LoomRun) Try.underlying31 Try.sizeOf76 rfl b7 rfl j7) ?_
      refine L_pur (c := fPtr (ePtr up1 (w64 (x2 - (1 : Int))) 3) 0) rfl rfl (.yes2 rfl rfl o0) (fun _ _ hd => P_fieldAddr at_76_0 rfl (PT.ptr c8)) ?_
      refine L_ld (c := .int .i64 ((d4).Order)) rfl rfl (.yes2 rfl rfl o0) (fun _ _ h => h.ch) d9 rfl ?_
      refine L_pur (c := .bool ((decide ((y2).Order ≤ (d4).Order)))) rfl rfl (.yes2 rfl rfl o0) (fun _ _ hd => P_int rfl rfl rfl) ?_
      refine L_pur (c := .bool ((decide ((y2).Order ≤ (d4).Order)))) rfl rfl .plain (fun _ _ hd => P_pick (b := (decide (x2 > (0 : Int)))) rfl (pick_t o0 rfl)) ?_
      refine L_pur (c := .bool ((decide ((y2).Order ≤ (d4).Order)))) rfl rfl .plain (fun _ _ hd => P_assign rfl) ?_
      refine L_nil fun zA dD hall => ?_
      have hs := hall.1
      have hfr := hfr.ext hs
      have o3 := o3.ext hs
      have z2 := z2.ext hs
      clear hs hall
      refine EL_nil ?_
      obtain rfl := sinj h
      exact hQ _ _ ⟨zA, hfr, c7, o3, t5, z2, rfl⟩
     ·refine E_drawL (g := u7) (n := 14) [] [0, 1, 2, 3, 4, 5, 6, 7, 8, 9, 10, 11, 12, 13] rfl mixed (by kernel_rfl) trivial ?_
      refine L_pur (c := .int .i64 (x2)) rfl rfl .plain (fun _ _ hd => P_move q5) ?_
      refine L_pur (c := .bool ((decide (x2 > (0 : Int))))) rfl rfl .plain (fun _ _ hd => P_int rfl rfl rfl) ?_
      refine L_pur (c := .bool ((decide (x2 > (0 : Int))))) rfl rfl .plain (fun _ _ hd => P_move rfl) ?_
      refine L_skip rfl (.no2 rfl rfl o0 rfl) ?_
      refine L_skip rfl (.no2 rfl rfl o0 rfl) ?_
      refine L_skip rfl (.no2 rfl rfl o0 rfl) ?_
      refine L_skip rfl (.no2 rfl rfl o0 rfl) ?_
      refine L_skip rfl (.no2 rfl rfl o0 rfl) ?_
      refine L_skip rfl (.no2 rfl rfl o0 rfl) ?_
      refine L_skip rfl (.no2 rfl rfl o0 rfl) ?_
      refine L_skip rfl (.no2 rfl rfl o0 rfl) ?_
      refine L_skip rfl (.no2 rfl rfl o0 rfl) ?_
      refine L_pur (c := .bool false) rfl rfl .plain (fun _ _ hd => P_pick (b := (decide (x2 > (0 : Int)))) rfl (pick_f o0 rfl)) ?_
      refine L_pur (c := .bool false) rfl rfl .plain (fun _ _ hd => P_assign rfl) ?_
      refine L_nil fun aB eD hall => ?_
      have hs := hall.1
      have hfr := hfr.ext hs
      have o3 := o3.ext hs
      have z2 := z2.ext hs
      clear hs hall
      refine EL_nil ?_
      obtain rfl := sinj h
      exact hQ _ _ ⟨aB, hfr, c7, o3, t5, z2, rfl⟩
    ·clear hx
     obtain ⟨bB, hfr, z3, j1, u3, u0, x5⟩ := hR
     rcases csome h with ⟨x6, h⟩ | ⟨x6, h⟩
     ·refine E_cond_true (Eq.trans (show ev _ _ = .bool (i3) from x5) (congrArg Value.bool x6)) ?_
      refine E_seq (E_region (EL_at (.int .i64 (4)) rfl rfl ?_))
      refine EL_nil (thn_n (E_ret (blk_r ?_)))
      refine thn_r ?_
      obtain rfl := sinj h
      exact end1 rfl rfl (show _ = .int .i64 (4) from rfl) ⟨_, hfr, rfl⟩
     ·refine E_cond_false (Eq.trans (show ev _ _ = .bool (i3) from x5) (congrArg Value.bool x6)) ?_
      refine E_seq ?_
      have cB := PT_field (part_LoomLoomMill_1).1 j1
      refine L_load (x := .tmp 52) Try.isAgg25 Try.sizeOf25 cB fun e7 e8 e9 => ?_
      refine L_loadO (x := .tmp 54) part_LoomRun_0.1 Try.isAgg3 Try.sizeOf3 u0 fun gD dB g9 => ?_
      obtain rfl := RV_int.1 dB
      obtain ⟨i5, m7, h⟩ := bsome h
      have g8 := PT_idx e8 m7
      have eB := PT_field (part_LoomOrder_0).1 g8
      refine L_load (x := .tmp 57) Try.isAgg3 Try.sizeOf3 eB fun iD iB i9 => ?_
      obtain rfl := RV_int.1 iB
      have i8 := PT_field (part_LoomLoomMill_0).1 j1
      have jB := PT_field (part_LoomMill_0).1 i8
      refine L_load (x := .tmp 60) Try.isAgg22 Try.sizeOf22 jB fun k8 l8 j9 => ?_
      refine L_loadO (x := .tmp 62) part_LoomRun_1.1 Try.isAgg3 Try.sizeOf3 u0 fun jD kB k9 => ?_
      obtain rfl := RV_int.1 kB
      obtain ⟨l5, n7, h⟩ := bsome h
      have lB := PT_idx l8 n7
      refine L_load (x := .tmp 64) Try.isAgg3 Try.sizeOf3 lB fun kD mB l9 => ?_
      obtain rfl := RV_int.1 mB
      refine E_drawL (g := bB) (n := 16) [] [0, 1, 2, 3, 4, 5, 6, 7, 8, 9, 10, 11, 12, 13, 14, 15] rfl mixed (by kernel_rfl) trivial ?_
      refine L_pur (c := fPtr p1 2) rfl rfl .plain (fun _ _ hd => P_fieldAddr at_96_1 z3 (PT.ptr j1)) ?_
      refine L_ld (c := e7) rfl rfl .plain (fun _ _ h => h.ch) e9 rfl ?_
      refine L_pur (c := fPtr p5 0) rfl rfl .plain (fun _ _ hd => P_fieldAddr at_76_0 u3 (OB.ptr u0)) ?_
      refine L_ld (c := .int .i64 ((y2).Order)) rfl rfl .plain (fun _ _ h => ⟨h.ch, fun b hb _ => h.below.block b hb⟩) g9 rfl ?_
      refine L_pur (c := ePtr e7 (y2).Order 5) rfl rfl .plain (fun _ _ hd => P_indexAddr (α := LoomOrder) Try.underlying25 Try.sizeOf82 rfl e8 rfl m7) ?_
      refine L_pur (c := fPtr (ePtr e7 (y2).Order 5) 0) rfl rfl .plain (fun _ _ hd => P_fieldAddr at_82_0 rfl (PT.ptr g8)) ?_
      refine L_ld (c := .int .i64 ((i5).Width)) rfl rfl .plain (fun _ _ h => h.ch) i9 rfl ?_
      refine L_pur (c := fPtr p1 0) rfl rfl .plain (fun _ _ hd => P_fieldAddr at_96_0 z3 (PT.ptr j1)) ?_
      refine L_pur (c := fPtr (fPtr p1 0) 0) rfl rfl .plain (fun _ _ hd => P_fieldAddr at_24_0 rfl (PT.ptr i8)) ?_
      refine L_ld (c := k8) rfl rfl .plain (fun _ _ h => h.ch) j9 rfl ?_
      refine L_pur (c := fPtr p5 1) rfl rfl .plain (fun _ _ hd => P_fieldAddr at_76_1 u3 (OB.ptr u0)) ?_
      refine L_ld (c := .int .i64 ((y2).Loom)) rfl rfl .plain (fun _ _ h => ⟨h.ch, fun b hb _ => h.below.block b hb⟩) k9 rfl ?_
      refine L_pur (c := ePtr k8 (y2).Loom 1) rfl rfl .plain (fun _ _ hd => P_indexAddr (α := Int) Try.underlying22 Try.sizeOf3 rfl l8 rfl n7) ?_
      refine L_ld (c := .int .i64 (l5)) rfl rfl .plain (fun _ _ h => h.ch) l9 rfl ?_
      refine L_pur (c := .bool ((decide ((i5).Width > l5)))) rfl rfl .plain (fun _ _ hd => P_int rfl rfl rfl) ?_
      refine L_pur (c := .bool ((decide ((i5).Width > l5)))) rfl rfl .plain (fun _ _ hd => P_assign rfl) ?_
      refine L_nil fun nB lD hall => ?_
      have hs := hall.1
      have hfr := hfr.ext hs
      have j1 := j1.ext hs
      have u0 := u0.ext hs
      clear hs hall
      refine EL_nil (thn_n ?_)
      rcases csome h with ⟨y6, h⟩ | ⟨y6, h⟩
      ·refine E_ct y6 rfl ?_
       refine E_seq (E_region (EL_at (.int .i64 (2)) rfl rfl ?_))
       refine EL_nil (thn_n (E_ret (blk_r ?_)))
       refine thn_r ?_
       obtain rfl := sinj h
       exact end1 rfl rfl (show _ = .int .i64 (2) from rfl) ⟨_, hfr, rfl⟩
      ·refine E_cf y6 rfl ?_
       obtain ⟨j3, hx, h⟩ := bsome h
       refine E_join (fun e w => ∃ (g : Gh) , Fr gI wI g w ∧ e 67 = .bool (j3)) (fun Q' hQ => ?_) (fun kC mD hR => ?_)
       ·replace h := hx
        clear hx
        refine E_seq (L_loadO (x := .tmp 68) part_LoomRun_2.1 Try.isAgg3 Try.sizeOf3 u0 fun nD oB n9 => ?_)
        obtain rfl := RV_int.1 oB
        have pB := PT_field (part_LoomLoomMill_1).1 j1
        refine L_load (x := .tmp 70) Try.isAgg25 Try.sizeOf25 pB fun g7 m8 o9 => ?_
        refine L_loadO (x := .tmp 72) part_LoomRun_0.1 Try.isAgg3 Try.sizeOf3 u0 fun oD qB p9 => ?_
        obtain rfl := RV_int.1 qB
        obtain ⟨m4, o7, h⟩ := bsome h
        have n8 := PT_idx m8 o7
        have rB := PT_field (part_LoomOrder_3).1 n8
        refine L_load (x := .tmp 75) Try.isAgg3 Try.sizeOf3 rB fun pD sB q9 => ?_
        obtain rfl := RV_int.1 sB
        refine E_drawL (g := nB) (n := 11) [] [0, 1, 2, 3, 4, 5, 6, 7, 8, 9, 10] rfl mixed (by kernel_rfl) trivial ?_
        refine L_pur (c := fPtr p5 2) rfl rfl .plain (fun _ _ hd => P_fieldAddr at_76_2 u3 (OB.ptr u0)) ?_
        refine L_ld (c := .int .i64 ((y2).From)) rfl rfl .plain (fun _ _ h => ⟨h.ch, fun b hb _ => h.below.block b hb⟩) n9 rfl ?_
        refine L_pur (c := fPtr p1 2) rfl rfl .plain (fun _ _ hd => P_fieldAddr at_96_1 z3 (PT.ptr j1)) ?_
        refine L_ld (c := g7) rfl rfl .plain (fun _ _ h => h.ch) o9 rfl ?_
        refine L_pur (c := fPtr p5 0) rfl rfl .plain (fun _ _ hd => P_fieldAddr at_76_0 u3 (OB.ptr u0)) ?_
        refine L_ld (c := .int .i64 ((y2).Order)) rfl rfl .plain (fun _ _ h => ⟨h.ch, fun b hb _ => h.below.block b hb⟩) p9 rfl ?_
        refine L_pur (c := ePtr g7 (y2).Order 5) rfl rfl .plain (fun _ _ hd => P_indexAddr (α := LoomOrder) Try.underlying25 Try.sizeOf82 rfl m8 rfl o7) ?_
        refine L_pur (c := fPtr (ePtr g7 (y2).Order 5) 3) rfl rfl .plain (fun _ _ hd => P_fieldAddr at_82_3 rfl (PT.ptr n8)) ?_
        refine L_ld (c := .int .i64 ((m4).Early)) rfl rfl .plain (fun _ _ h => h.ch) q9 rfl ?_
        refine L_pur (c := .bool ((decide ((y2).From < (m4).Early)))) rfl rfl .plain (fun _ _ hd => P_int rfl rfl rfl) ?_
        refine L_pur (c := .bool ((decide ((y2).From < (m4).Early)))) rfl rfl .plain (fun _ _ hd => P_assign rfl) ?_
        refine L_nil fun o8 qD hall => ?_
        have hs := hall.1
        have hfr := hfr.ext hs
        have j1 := j1.ext hs
        have u0 := u0.ext hs
        clear hs hall
        refine EL_nil (thn_n ?_)
        rcases csome h with ⟨z6, h⟩ | ⟨z6, h⟩
        ·refine E_ct z6 rfl ?_
         refine E_skip ?_
         obtain rfl := sinj h
         exact hQ _ _ ⟨o8, hfr, rfl⟩
        ·refine E_cf z6 rfl ?_
         refine L_load (x := .tmp 3) Try.isAgg96 Try.sizeOf96 j1 fun p8 tB r9 => ?_
         refine L_loadO0 (x := .tmp 7) Try.isAgg76 Try.sizeOf76 u0 fun q8 uB t9 => ?_
         obtain ⟨p4, u9, h⟩ := bsome h
         have vB := PT_field (part_LoomLoomMill_1).1 j1
         refine L_load (x := .tmp 81) Try.isAgg25 Try.sizeOf25 vB fun i7 r8 y9 => ?_
         refine L_loadO (x := .tmp 83) part_LoomRun_0.1 Try.isAgg3 Try.sizeOf3 u0 fun rD xB z9 => ?_
         obtain rfl := RV_int.1 xB
         obtain ⟨o5, p7, h⟩ := bsome h
         have t8 := PT_idx r8 p7
         have yB := PT_field (part_LoomOrder_4).1 t8
         refine L_load (x := .tmp 86) Try.isAgg3 Try.sizeOf3 yB fun sD zB bA => ?_
         obtain rfl := RV_int.1 zB
         refine E_drawL (g := o8) (n := 12) [(2, (fun v g w => v = .int .i64 (p4)))] [0, 1, 2, 3, 4, 5, 6, 7, 8, 9, 10, 11] rfl mixed (by kernel_rfl) (⟨fun _ => up_eq _, trivial⟩) ?_
         refine L_ld (c := p8) rfl rfl .plain (fun _ _ h => h.ch) r9 z3 ?_
         refine L_ld (c := q8) rfl rfl .plain (fun _ _ h => ⟨h.ch, fun b hb _ => h.below.block b hb⟩) t9 u3 ?_
         refine L_do (φ := fun v g w => v = .int .i64 (p4)) rfl rfl .plain (fun g w hd => D_call (g := g) (vs := [p8, q8]) en73 (.cons rfl (.cons rfl .nil)) (wk73 (tB.ext hd.1) (uB.ext hd.1) u9) fun g' w' v hs hr => ⟨g', hs, hr⟩) (fun tD hv => ?_)
         obtain ⟨_, _, _, rfl⟩ := hv
         refine L_pur (c := fPtr p1 2) rfl rfl .plain (fun _ _ hd => P_fieldAddr at_96_1 z3 (PT.ptr j1)) ?_
         refine L_ld (c := i7) rfl rfl .plain (fun _ _ h => h.ch) y9 rfl ?_
         refine L_pur (c := fPtr p5 0) rfl rfl .plain (fun _ _ hd => P_fieldAddr at_76_0 u3 (OB.ptr u0)) ?_
         refine L_ld (c := .int .i64 ((y2).Order)) rfl rfl .plain (fun _ _ h => ⟨h.ch, fun b hb _ => h.below.block b hb⟩) z9 rfl ?_
         refine L_pur (c := ePtr i7 (y2).Order 5) rfl rfl .plain (fun _ _ hd => P_indexAddr (α := LoomOrder) Try.underlying25 Try.sizeOf82 rfl r8 rfl p7) ?_
         refine L_pur (c := fPtr (ePtr i7 (y2).Order 5) 4) rfl rfl .plain (fun _ _ hd => P_fieldAddr at_82_4 rfl (PT.ptr t8)) ?_
         refine L_ld (c := .int .i64 ((o5).Late)) rfl rfl .plain (fun _ _ h => h.ch) bA rfl ?_
         refine L_pur (c := .bool ((decide (p4 > (o5).Late)))) rfl rfl .plain (fun _ _ hd => P_int rfl rfl rfl) ?_
         refine L_pur (c := .bool ((decide (p4 > (o5).Late)))) rfl rfl .plain (fun _ _ hd => P_assign rfl) ?_
         refine L_nil fun aC uD hall => ?_
         have hs := hall.1
         have hfr := hfr.ext hs
         clear hs hall
         refine EL_nil ?_
         obtain rfl := sinj h
         exact hQ _ _ ⟨aC, hfr, rfl⟩
       ·clear hx
        obtain ⟨bC, hfr, c6⟩ := hR
        rcases csome h with ⟨a7, h⟩ | ⟨a7, h⟩
        ·refine E_cond_true (Eq.trans (show ev _ _ = .bool (j3) from c6) (congrArg Value.bool a7)) ?_
         refine E_seq (E_region (EL_at (.int .i64 (3)) rfl rfl ?_))
         refine EL_nil (thn_n (E_ret (blk_r ?_)))
         refine thn_r ?_
         obtain rfl := sinj h
         exact end1 rfl rfl (show _ = .int .i64 (3) from rfl) ⟨_, hfr, rfl⟩
        ·refine E_cond_false (Eq.trans (show ev _ _ = .bool (j3) from c6) (congrArg Value.bool a7)) ?_
         exact E_skip (blk_n (thn_n (v8 () _ _ ⟨bC, hfr⟩ h)))
 ·rintro _ lC vD ⟨xD, hfr⟩ h
  refine E_seq (E_region (EL_at (.int .i64 (0)) rfl rfl ?_))
  refine EL_nil (thn_n (E_ret ?_))
  obtain rfl := sinj h
  exact end1 rfl rfl (show _ = .int .i64 (0) from rfl) ⟨_, hfr, rfl⟩
def f94 (x0 : LoomLoomMill) (x1 : List LoomRun) : Option (Int) :=
 (mks 1 (false : Bool) (((x1).length : Int))).bind fun y2 =>
 Option.bind (α := (List Bool)) (
  lp (σ := (List Bool) × Int) (fun q8 (p5, u0) =>
   bif (decide (u0 < ((((x0).LoomMill).Widths).length : Int))) then
    Option.bind (α := (List Bool)) (
     (f68 x1 u0).bind fun o3 =>
     lp (σ := (List Bool) × Int) (fun r8 (u3, o0) =>
      jn (σ := Unit) (fun (_ : Unit) =>
       Option.bind (α := (List Bool)) (
        (idx o3 o0).bind fun p7 =>
        (idx x1 p7).bind fun z3 =>
        (idx o3 o0).bind fun q5 =>
        (idx o3 (w64 (o0 - (1 : Int)))).bind fun j6 =>
        (idx x1 j6).bind fun t8 =>
        (f69 x0 t8 ((z3).Order)).bind fun l5 =>
        (idx u3 q5).bind fun tA =>
        some ((List.set u3 (Int.toNat q5) ((decide ((z3).From < l5)))))
        ) fun d4 =>
       r8 (d4, (w64 (o0 + (1 : Int))))
       ) fun v8 =>
      bif (decide (o0 < ((o3).length : Int))) then
       v8 ()
      else
       some (u3)
      ) big (p5, (1 : Int))
     ) fun m4 =>
    q8 (m4, (w64 (u0 + (1 : Int))))
   else
    some (p5)
   ) big (y2, (0 : Int))
  ) fun t5 =>
 (f103 t5 true).bind fun l6 =>
 some (l6)
theorem en94 : Enters Try.prog 94 := enters_of Try.func94 (by kernel_rfl) rfl
theorem wk94 {gI : Gh} {wI : World} {x0 : LoomLoomMill} {x1 : List LoomRun} {up0 : Value} (rp0 : RV gI.m wI x0 up0) {up1 : Value} (rp1 : RV gI.m wI x1 up1) {r : Int} (h : f94 x0 x1 = some r) : Fn Try.prog 94 #[up0, up1] gI wI (fun _ _ v => v = .int .i64 (r)) := by
 unfold f94 at h
 refine fn_of_E Try.func94 rfl (Nat.le_of_ble_eq_true rfl) fun g0 hm hfr => ?_
 have rp0 : RV g0.m wI x0 up0 := hm ▸ rp0
 have rp1 : RV g0.m wI x1 up1 := hm ▸ rp1
 show E _ 60 none _ _ _ _ _
 refine E_seq (E_region (EL_do .plain rfl (D_box (g := g0) rfl rp0 fun g1 w1 p1 hs q1 => ?_)))
 have hfr := hfr.ext hs
 have rp1 := rp1.ext hs
 refine EL_at (.int .i64 (0)) rfl rfl ?_
 refine EL_nil (thn_n (E_seq (E_region (EL_mw up1 rfl rfl ?_))))
 refine EL_pur (v := .int .i64 ((x1).length : Int)) (P_len Try.underlying31 rfl rp1) .plain rfl ?_
 obtain ⟨y2, hy2, h⟩ := bsome h
 refine EL_do .plain rfl (D_makeSliceM (g := g1) 9012 (false : Bool) rfl Try.underlying101 info_4 rfl (fun _ _ => rfl) rfl rfl hy2 fun g3 w3 v3 hs b3 => ?_)
 have hfr := hfr.stp hs
 have rp1 := rp1.stp hs
 have q1 := q1.stp hs
 refine EL_at v3 rfl rfl ?_
 refine EL_nil (thn_n ?_)
 obtain ⟨t5, hx, h⟩ := bsome h
 refine E_join (fun e w => ∃ (g : Gh) , Fr gI wI g w ∧ e 5 = v3 ∧ OM 9012 g w 4 (t5 : List Bool) v3) (fun Q' hQ => ?_) (fun vB eC hR => ?_)
 ·replace h := hx
  clear hx
  refine E_seq (E_region (EL_pur (v := fPtr p1 0) (P_fieldAddr at_96_0 rfl (PT.ptr q1)) .plain rfl ?_))
  have x8 := PT_field (part_LoomLoomMill_0).1 q1
  refine EL_pur (v := fPtr (fPtr p1 0) 0) (P_fieldAddr at_24_0 rfl (PT.ptr x8)) .plain rfl ?_
  have uA := PT_field (part_LoomMill_0).1 x8
  refine EL_do .plain rfl (D_load (g := g3) Try.isAgg22 Try.sizeOf22 rfl uA fun iC vA => ?_)
  refine EL_pur (v := .int .i64 ((((x0).LoomMill).Widths).length : Int)) (P_len Try.underlying22 rfl vA) .plain rfl ?_
  refine EL_mw (.int .i64 (0)) rfl rfl ?_
  refine EL_nil (thn_n (E_block ?_))
  refine E_lp h (fun (s : (List Bool) × Int) e w => ∃ (g : Gh) , Fr gI wI g w ∧ e 1 = up1 ∧ RV g.m w (x1 : List LoomRun) up1 ∧ e 2 = p1 ∧ PT g.m w (x0 : LoomLoomMill) p1 ∧ e 5 = v3 ∧ OM 9012 g w 4 (s.1 : List Bool) v3 ∧ e 16 = .int .i64 (((((x0).LoomMill).Widths).length : Int)) ∧ e 17 = .int .i64 (s.2)) ⟨g3, hfr, rfl, rp1, rfl, q1, rfl, b3, rfl, rfl⟩ (fun X284 q8 gA => ?_)
  rintro ⟨p5, u0⟩ xB jC ⟨y8, hfr, y6, p4, z8, u5, z6, z4, c6, o5⟩ h
  refine E_seq (E_region (EL_pur (v := .bool ((decide (u0 < ((((x0).LoomMill).Widths).length : Int))))) (P_int o5 c6 rfl) .plain rfl ?_))
  refine EL_nil (thn_n (E_seq ?_))
  rcases csome h with ⟨v6, h⟩ | ⟨v6, h⟩
  ·refine E_ct v6 rfl ?_
   refine E_skip (thn_n ?_)
   obtain ⟨m4, hx, h⟩ := bsome h
   refine E_join (fun e w => ∃ (g : Gh) , Fr gI wI g w ∧ e 1 = up1 ∧ RV g.m w (x1 : List LoomRun) up1 ∧ e 2 = p1 ∧ PT g.m w (x0 : LoomLoomMill) p1 ∧ e 5 = v3 ∧ OM 9012 g w 4 (m4 : List Bool) v3 ∧ e 16 = .int .i64 (((((x0).LoomMill).Widths).length : Int)) ∧ e 17 = .int .i64 (u0)) (fun Q' hQ => ?_) (fun yB kC hR => ?_)
   ·replace h := hx
    clear hx
    refine E_block ?_
    refine E_seq (E_region (EL_mv o5 rfl ?_))
    refine EL_at (.int .i64 (u0)) rfl rfl ?_
    refine EL_nil (thn_n (E_seq (E_region (EL_mv y6 rfl ?_))))
    refine EL_mw (.int .i64 (u0)) rfl rfl ?_
    obtain ⟨o3, iA, h⟩ := bsome h
    refine EL_do .plain rfl (D_call (g := y8) (vs := [up1, .int .i64 (u0)]) en68 (.cons rfl (.cons rfl .nil)) (wk68 p4 iA) fun xA zB j3 hs hr => ?_)
    have hfr := hfr.ext hs
    have p4 := p4.ext hs
    have u5 := u5.ext hs
    have z4 := z4.ext hs
    have yA := hr
    refine EL_at j3 rfl rfl ?_
    refine EL_nil (thn_n (E_seq (E_region (EL_at (.int .i64 (1)) rfl rfl ?_))))
    refine EL_nil (thn_n (E_block ?_))
    refine E_lp h (fun (s : (List Bool) × Int) e w => ∃ (g : Gh) , Fr gI wI g w ∧ e 1 = up1 ∧ RV g.m w (x1 : List LoomRun) up1 ∧ e 2 = p1 ∧ PT g.m w (x0 : LoomLoomMill) p1 ∧ e 5 = v3 ∧ OM 9012 g w 4 (s.1 : List Bool) v3 ∧ e 7 = j3 ∧ RV g.m w (o3 : List Int) j3 ∧ e 8 = .int .i64 (s.2) ∧ e 16 = .int .i64 (((((x0).LoomMill).Widths).length : Int)) ∧ e 17 = .int .i64 (u0)) ⟨xA, hfr, y6, p4, z8, u5, z6, z4, rfl, yA, rfl, c6, o5⟩ (fun X424 r8 jA => ?_)
    rintro ⟨u3, o0⟩ aC lC ⟨a9, hfr, a7, b7, c7, d7, e7, g7, i7, j7, m7, d6, i6⟩ h
    refine E_joinC h (fun (s : Unit) e w => ∃ (g : Gh) , Fr gI wI g w ∧ e 1 = up1 ∧ RV g.m w (x1 : List LoomRun) up1 ∧ e 2 = p1 ∧ PT g.m w (x0 : LoomLoomMill) p1 ∧ e 5 = v3 ∧ OM 9012 g w 4 (u3 : List Bool) v3 ∧ e 7 = j3 ∧ RV g.m w (o3 : List Int) j3 ∧ e 8 = .int .i64 (o0) ∧ e 16 = .int .i64 (((((x0).LoomMill).Widths).length : Int)) ∧ e 17 = .int .i64 (u0)) (fun X427 v8 kA h => ?_) ?_
    ·refine E_seq (E_region (EL_mv m7 rfl ?_))
     refine EL_mv i7 rfl ?_
     refine EL_pur (v := .int .i64 ((o3).length : Int)) (P_len Try.underlying22 rfl j7) .plain rfl ?_
     refine EL_in (.bool ((decide (o0 < ((o3).length : Int))))) rfl rfl rfl rfl ?_
     refine EL_nil (thn_n ?_)
     rcases csome h with ⟨x6, h⟩ | ⟨x6, h⟩
     ·refine E_ct x6 rfl ?_
      exact E_skip (thn_n (kA () _ _ ⟨a9, hfr, a7, b7, c7, d7, e7, g7, i7, j7, m7, d6, i6⟩ h))
     ·refine E_cf x6 rfl ?_
      refine E_exit ?_
      refine thn_e ?_
      refine thn_e ?_
      refine blk_hit ?_
      refine blk_n ?_
      obtain rfl := sinj h
      exact hQ _ _ ⟨a9, hfr, a7, b7, c7, d7, e7, g7, d6, i6⟩
    ·rintro _ bC mC ⟨q7, hfr, x5, z2, n7, d3, o7, i3, d5, j1, i5, k8, l8⟩ h
     obtain ⟨d4, hx, h⟩ := bsome h
     refine E_join (fun e w => ∃ (g : Gh) , Fr gI wI g w ∧ e 1 = up1 ∧ RV g.m w (x1 : List LoomRun) up1 ∧ e 2 = p1 ∧ PT g.m w (x0 : LoomLoomMill) p1 ∧ e 5 = v3 ∧ OM 9012 g w 4 (d4 : List Bool) v3 ∧ e 7 = j3 ∧ RV g.m w (o3 : List Int) j3 ∧ e 8 = .int .i64 (o0) ∧ e 16 = .int .i64 (((((x0).LoomMill).Widths).length : Int)) ∧ e 17 = .int .i64 (u0)) (fun Q' hQ => ?_) (fun cC nC hR => ?_)
     ·replace h := hx
      clear hx
      refine E_block ?_
      refine E_seq (E_region (EL_mv x5 rfl ?_))
      refine EL_mv d5 rfl ?_
      refine EL_mv i5 rfl ?_
      obtain ⟨p7, u7, h⟩ := bsome h
      refine EL_pur (v := ePtr j3 o0 1) (P_indexAddr (α := Int) Try.underlying22 Try.sizeOf3 rfl j1 rfl u7) .plain rfl ?_
      have zA := PT_idx j1 u7
      refine EL_do .plain rfl (D_load (g := q7) Try.isAgg3 Try.sizeOf3 rfl zA fun oC aB => ?_)
      obtain rfl := RV_int.1 aB
      obtain ⟨z3, v7, h⟩ := bsome h
      refine EL_pur (v := ePtr up1 p7 3) (P_indexAddr (α := LoomRun) Try.underlying31 Try.sizeOf76 rfl z2 rfl v7) .plain rfl ?_
      have bB := PT_idx z2 v7
      refine EL_do .plain rfl (D_load (g := q7) Try.isAgg76 Try.sizeOf76 rfl bB fun cB t7 => ?_)
      refine EL_do .plain rfl (D_allocOc (g := q7) 2009 (⟨0, 0, 0⟩ : LoomRun) Try.zeroValue76 (fun m w => ⟨_, (rep_two rep_int (rep_two rep_int rep_int)), rfl⟩) fun dB qC d9 hs b499 cb => ?_)
      have hfr := hfr.stp hs
      have z2 := z2.stp hs
      have d3 := d3.stp hs
      have i3 := i3.stp hs rfl
      have j1 := j1.stp hs
      have t7 := t7.stp hs
      clear cb
      refine EL_do .plain rfl (D_storeOc (g := dB) (v := cB) Try.sizeOf76 rfl b499 rfl t7 fun eB rC hs b500 cb => ?_)
      clear cb
      have hfr := hfr.stp hs
      have z2 := z2.stp hs
      have d3 := d3.stp hs
      have i3 := i3.stp hs rfl
      have j1 := j1.stp hs
      refine EL_nil (thn_n ?_)
      obtain ⟨q5, c8, h⟩ := bsome h
      have iB := PT_idx j1 c8
      refine L_load (x := .tmp 39) Try.isAgg3 Try.sizeOf3 iB fun sC jB lA => ?_
      obtain rfl := RV_int.1 jB
      refine L_loadO (x := .tmp 41) part_LoomRun_2.1 Try.isAgg3 Try.sizeOf3 b500 fun tC kB mA => ?_
      obtain rfl := RV_int.1 kB
      refine L_load (x := .tmp 2) Try.isAgg96 Try.sizeOf96 d3 fun e9 lB nA => ?_
      obtain ⟨j6, e8, h⟩ := bsome h
      have mB := PT_idx j1 e8
      refine L_load (x := .tmp 48) Try.isAgg3 Try.sizeOf3 mB fun uC nB oA => ?_
      obtain rfl := RV_int.1 nB
      obtain ⟨t8, g8, h⟩ := bsome h
      have oB := PT_idx z2 g8
      refine L_load (x := .tmp 50) Try.isAgg76 Try.sizeOf76 oB fun g9 pB pA => ?_
      refine L_loadO (x := .tmp 52) part_LoomRun_0.1 Try.isAgg3 Try.sizeOf3 b500 fun vC qB qA => ?_
      obtain rfl := RV_int.1 qB
      obtain ⟨l5, rA, h⟩ := bsome h
      obtain ⟨tA, i8, h⟩ := bsome h
      refine E_drawL (g := eB) (n := 21) [(18, (fun v g w => v = .int .i64 (l5)))] [0, 1, 2, 3, 4, 5, 6, 7, 8, 9, 10, 11, 12, 13, 14, 15, 16, 17, 18, 19, 20] rfl mixed (by kernel_rfl) (⟨fun _ => up_eq _, trivial⟩) ?_
      refine L_pur (c := v3) rfl rfl .plain (fun _ _ hd => P_move o7) ?_
      refine L_pur (c := j3) rfl rfl .plain (fun _ _ hd => P_move d5) ?_
      refine L_pur (c := .int .i64 (o0)) rfl rfl .plain (fun _ _ hd => P_move i5) ?_
      refine L_pur (c := ePtr j3 o0 1) rfl rfl .plain (fun _ _ hd => P_indexAddr (α := Int) Try.underlying22 Try.sizeOf3 rfl j1 rfl c8) ?_
      refine L_ld (c := .int .i64 (q5)) rfl rfl .plain (fun _ _ h => h.ch) lA rfl ?_
      refine L_pur (c := fPtr d9 2) rfl rfl .plain (fun _ _ hd => P_fieldAddr at_76_2 rfl (OB.ptr b500)) ?_
      refine L_ld (c := .int .i64 ((z3).From)) rfl rfl .plain (fun _ _ h => ⟨h.ch, fun b hb _ => h.below.block b hb⟩) mA rfl ?_
      refine L_ld (c := e9) rfl rfl .plain (fun _ _ h => h.ch) nA n7 ?_
      refine L_pur (c := up1) rfl rfl .plain (fun _ _ hd => P_move x5) ?_
      refine L_pur (c := j3) rfl rfl .plain (fun _ _ hd => P_move d5) ?_
      refine L_pur (c := .int .i64 (o0)) rfl rfl .plain (fun _ _ hd => P_move i5) ?_
      refine L_pur (c := .int .i64 ((w64 (o0 - (1 : Int))))) rfl rfl .plain (fun _ _ hd => P_int rfl rfl rfl) ?_
      refine L_pur (c := ePtr j3 (w64 (o0 - (1 : Int))) 1) rfl rfl .plain (fun _ _ hd => P_indexAddr (α := Int) Try.underlying22 Try.sizeOf3 rfl j1 rfl e8) ?_
      refine L_ld (c := .int .i64 (j6)) rfl rfl .plain (fun _ _ h => h.ch) oA rfl ?_
      refine L_pur (c := ePtr up1 j6 3) rfl rfl .plain (fun _ _ hd => P_indexAddr (α := LoomRun) Try.underlying31 Try.sizeOf76 rfl z2 rfl g8) ?_
      refine L_ld (c := g9) rfl rfl .plain (fun _ _ h => h.ch) pA rfl ?_
      refine L_pur (c := fPtr d9 0) rfl rfl .plain (fun _ _ hd => P_fieldAddr at_76_0 rfl (OB.ptr b500)) ?_
      refine L_ld (c := .int .i64 ((z3).Order)) rfl rfl .plain (fun _ _ h => ⟨h.ch, fun b hb _ => h.below.block b hb⟩) qA rfl ?_
      refine L_do (φ := fun v g w => v = .int .i64 (l5)) rfl rfl .plain (fun g w hd => D_call (g := g) (vs := [e9, g9, .int .i64 ((z3).Order)]) en69 (.cons rfl (.cons rfl (.cons rfl .nil))) (wk69 (lB.ext hd.1) (pB.ext hd.1) rA) fun g' w' v hs hr => ⟨g', hs, hr⟩) (fun xC hv => ?_)
      obtain ⟨_, _, _, rfl⟩ := hv
      refine L_pur (c := .bool ((decide ((z3).From < l5)))) rfl rfl .plain (fun _ _ hd => P_int rfl rfl rfl) ?_
      refine L_pur (c := ePtr v3 q5 1) rfl rfl .plain (fun _ _ hd => P_indexAddrM (α := Bool) Try.underlying101 Try.sizeOf4 rfl i3 rfl i8) ?_
      refine L_nil fun rB yC hall => ?_
      have hs := hall.1
      have hfr := hfr.ext hs
      have z2 := z2.ext hs
      have d3 := d3.ext hs
      have i3 := i3.ext hs
      have j1 := j1.ext hs
      clear hs hall
      refine EL_do .plain rfl (D_storeM (g := rB) (α := Bool) (a' := ((decide ((z3).From < l5)))) Try.sizeOf4 rfl i3 i8 rfl (RV_bool.2 rfl) fun sB zC hs b555 => ?_)
      have hfr := hfr.stp hs
      have z2 := z2.stp hs
      have d3 := d3.stp hs
      have j1 := j1.stp hs
      refine EL_nil (blk_n ?_)
      obtain rfl := sinj h
      exact hQ _ _ ⟨sB, hfr, x5, z2, n7, d3, o7, b555, d5, j1, i5, k8, l8⟩
     ·clear hx
      obtain ⟨tB, hfr, i9, j9, k9, l9, n9, o9, p9, q9, r9, m8, n8⟩ := hR
      refine E_region (EL_mv r9 rfl ?_)
      refine EL_in (.int .i64 ((w64 (o0 + (1 : Int))))) rfl rfl rfl rfl ?_
      refine EL_at (.int .i64 ((w64 (o0 + (1 : Int))))) rfl rfl ?_
      exact EL_nil (thn_n (jA (d4, (w64 (o0 + (1 : Int)))) _ _ ⟨tB, hfr, i9, j9, k9, l9, n9, o9, p9, q9, rfl, m8, n8⟩ h))
   ·clear hx
    obtain ⟨uB, hfr, t9, u9, y9, z9, bA, cA, o8, p8⟩ := hR
    refine E_region (EL_in (.int .i64 ((w64 (u0 + (1 : Int))))) p8 rfl rfl rfl ?_)
    refine EL_mw (.int .i64 ((w64 (u0 + (1 : Int))))) rfl rfl ?_
    exact EL_nil (thn_n (gA (m4, (w64 (u0 + (1 : Int)))) _ _ ⟨uB, hfr, t9, u9, y9, z9, bA, cA, o8, rfl⟩ h))
  ·refine E_cf v6 rfl ?_
   refine E_exit ?_
   refine thn_e ?_
   refine thn_e ?_
   refine blk_hit ?_
   obtain rfl := sinj h
   exact hQ _ _ ⟨y8, hfr, z6, z4⟩
 ·clear hx
  obtain ⟨aD, hfr, dA, eA⟩ := hR
  refine E_seq (E_region (EL_mv dA rfl ?_))
  obtain ⟨gp559, hs, rp559⟩ := OM.pub eA
  have hfr := hfr.stp hs
  obtain ⟨l6, sA, h⟩ := bsome h
  refine EL_do .plain rfl (D_call (g := gp559) (vs := [v3, .bool true]) en103 (.cons rfl (.cons rfl .nil)) (wk103 rp559 sA) fun bD dC cD hs hr => ?_)
  have hfr := hfr.ext hs
  subst hr
  refine EL_at (.int .i64 (l6)) rfl rfl ?_
  refine EL_nil (thn_n (E_ret ?_))
  obtain rfl := sinj h
  exact end1 rfl rfl (show _ = .int .i64 (l6) from rfl) ⟨_, hfr, rfl⟩
def f70 (x0 : LoomRun) : Option (Bool) :=
 (f71 (([(x0).From] : List Int))).bind fun y6 =>
 some ((!y6))
theorem en70 : Enters Try.prog 70 := enters_of Try.func70 (by kernel_rfl) rfl
theorem wk70 {gI : Gh} {wI : World} {x0 : LoomRun} {up0 : Value} (rp0 : RV gI.m wI x0 up0) {r : Bool} (h : f70 x0 = some r) : Fn Try.prog 70 #[up0] gI wI (fun _ _ v => v = .bool (r)) := by
 unfold f70 at h
 refine fn_of_E Try.func70 rfl (Nat.le_of_ble_eq_true rfl) fun g0 hm hfr => ?_
 have rp0 : RV g0.m wI x0 up0 := hm ▸ rp0
 show E _ 8 none _ _ _ _ _
 refine E_seq (E_region (EL_do .plain rfl (D_box (g := g0) rfl rp0 fun g1 w1 p1 hs q1 => ?_)))
 have hfr := hfr.ext hs
 refine EL_at (.bool false) rfl rfl ?_
 refine EL_nil (thn_n (E_seq (E_region (EL_pur (v := fPtr p1 2) (P_fieldAddr at_76_2 rfl (PT.ptr q1)) .plain rfl ?_))))
 have q2 := PT_field (part_LoomRun_2).1 q1
 refine EL_do .plain rfl (D_load (g := g1) Try.isAgg3 Try.sizeOf3 rfl q2 fun v3 r3 => ?_)
 obtain rfl := RV_int.1 r3
 refine EL_do .plain rfl (D_buildSlice (g := g1) 3005 (xs := ([(x0).From] : List Int)) (vs := [.int .i64 ((x0).From)]) Try.underlying22 Try.sizeOf3 Try.zeroValue3 rfl rfl (.cons rfl .nil) (RVs.cons (RV_int.2 rfl) RVs.nil) rfl rfl fun g4 w4 v4 hs o4 r4 hxt hfl => ?_)
 have hfr := hfr.stp hs
 obtain ⟨y6, o0, h⟩ := bsome h
 refine EL_do .plain rfl (D_call (g := g4) (vs := [v4]) en71 (.cons rfl .nil) (wk71 r4 o0) fun g5 w5_ v5 hs hr => ?_)
 have hfr := hfr.ext hs
 subst hr
 refine EL_pur (v := .bool (!y6)) (P_not rfl) .plain rfl ?_
 refine EL_at (.bool (!y6)) rfl rfl ?_
 refine EL_nil (thn_n (E_ret ?_))
 obtain rfl := sinj h
 exact end1 rfl rfl (show _ = .bool (!y6) from rfl) ⟨_, hfr, rfl⟩
def f78 (x0 : LoomLoomMill) (x1 : List LoomRun) : Option (Int × Int) :=
 jn (σ := Unit) (fun (_ : Unit) =>
  jn (σ := Unit) (fun (_ : Unit) =>
   jn (σ := Unit) (fun (_ : Unit) =>
    some ((0 : Int), (0 : Int))
    ) fun i6 =>
   (f94 x0 x1).bind fun u0 =>
   bif (decide (u0 ≥ (0 : Int))) then
    some (u0, (6 : Int))
   else
    i6 ()
   ) fun j6 =>
  lp (σ := Int) (fun l6 o0 =>
   bif (decide (o0 < ((x1).length : Int))) then
    jn (σ := Unit) (fun (_ : Unit) =>
     l6 ((w64 (o0 + (1 : Int))))
     ) fun v6 =>
    (f93 x0 x1 o0).bind fun j1 =>
    bif (j1 != (0 : Int)) then
     some (o0, j1)
    else
     v6 ()
   else
    j6 ()
   ) big ((0 : Int))
  ) fun k5 =>
 bif (decide (((x1).length : Int) > (((x0).orders).length : Int))) then
  some ((0 : Int), (5 : Int))
 else
  k5 ()
theorem en78 : Enters Try.prog 78 := enters_of Try.func78 (by kernel_rfl) rfl
theorem wk78 {gI : Gh} {wI : World} {x0 : LoomLoomMill} {x1 : List LoomRun} {up0 : Value} (rp0 : RV gI.m wI x0 up0) {up1 : Value} (rp1 : RV gI.m wI x1 up1) {r : Int × Int} (h : f78 x0 x1 = some r) : Fn Try.prog 78 #[up0, up1] gI wI (fun m w v => ∃ y0 y1, v = .tuple #[y0, y1] ∧ y0 = .int .i64 (r.1) ∧ y1 = .int .i64 (r.2)) := by
 unfold f78 at h
 refine fn_of_E Try.func78 rfl (Nat.le_of_ble_eq_true rfl) fun g0 hm hfr => ?_
 have rp0 : RV g0.m wI x0 up0 := hm ▸ rp0
 have rp1 : RV g0.m wI x1 up1 := hm ▸ rp1
 show E _ 35 none _ _ _ _ _
 refine E_seq (E_region (EL_do .plain rfl (D_box (g := g0) rfl rp0 fun g1 w1 p1 hs q1 => ?_)))
 have hfr := hfr.ext hs
 have rp1 := rp1.ext hs
 refine EL_at (.int .i64 (0)) rfl rfl ?_
 refine EL_at (.int .i64 (0)) rfl rfl ?_
 refine EL_nil (thn_n (E_joinC h (fun (s : Unit) e w => ∃ (g : Gh) , Fr gI wI g w ∧ e 1 = up1 ∧ RV g.m w (x1 : List LoomRun) up1 ∧ e 2 = p1 ∧ PT g.m w (x0 : LoomLoomMill) p1) (fun X5 k5 hk5 h => ?_) ?_))
 ·refine E_seq (E_region (EL_mw up1 rfl rfl ?_))
  refine EL_pur (v := .int .i64 ((x1).length : Int)) (P_len Try.underlying31 rfl rp1) .plain rfl ?_
  refine EL_pur (v := fPtr p1 2) (P_fieldAddr at_96_1 rfl (PT.ptr q1)) .plain rfl ?_
  have q6 := PT_field (part_LoomLoomMill_1).1 q1
  refine EL_do .plain rfl (D_load (g := g1) Try.isAgg25 Try.sizeOf25 rfl q6 fun v7 r7 => ?_)
  refine EL_pur (v := .int .i64 (((x0).orders).length : Int)) (P_len Try.underlying25 rfl r7) .plain rfl ?_
  refine EL_pur (v := .bool ((decide (((x1).length : Int) > (((x0).orders).length : Int))))) (P_int rfl rfl rfl) .plain rfl ?_
  refine EL_nil (thn_n ?_)
  rcases csome h with ⟨hc8, h⟩ | ⟨hc8, h⟩
  ·refine E_ct hc8 rfl ?_
   refine E_seq (E_region (EL_at (.int .i64 (0)) rfl rfl ?_))
   refine EL_at (.int .i64 (5)) rfl rfl ?_
   refine EL_nil (thn_n (E_ret (thn_r ?_)))
   obtain rfl := sinj h
   exact end2 rfl rfl (show _ = .int .i64 (0) from rfl) (show _ = .int .i64 (5) from rfl) ⟨_, hfr, _, _, rfl, rfl, rfl⟩
  ·refine E_cf hc8 rfl ?_
   exact E_skip (thn_n (hk5 () _ _ ⟨g1, hfr, rfl, rp1, rfl, q1⟩ h))
 ·rintro _ k8 w9 ⟨g9, hfr, p4, z4, y6, z6⟩ h
  refine E_joinC h (fun (s : Unit) e w => ∃ (g : Gh) , Fr gI wI g w ∧ e 1 = up1 ∧ RV g.m w (x1 : List LoomRun) up1 ∧ e 2 = p1 ∧ PT g.m w (x0 : LoomLoomMill) p1) (fun X23 j6 a7 h => ?_) ?_
  ·refine E_seq (E_region (EL_mv p4 rfl ?_))
   refine EL_pur (v := .int .i64 ((x1).length : Int)) (P_len Try.underlying31 rfl z4) .plain rfl ?_
   refine EL_mw (.int .i64 (0)) rfl rfl ?_
   refine EL_nil (thn_n (E_block ?_))
   refine E_lp h (fun (s : Int) e w => ∃ (g : Gh) , Fr gI wI g w ∧ e 1 = up1 ∧ RV g.m w (x1 : List LoomRun) up1 ∧ e 2 = p1 ∧ PT g.m w (x0 : LoomLoomMill) p1 ∧ e 16 = .int .i64 (((x1).length : Int)) ∧ e 17 = .int .i64 (s)) ⟨g9, hfr, p4, z4, y6, z6, rfl, rfl⟩ (fun X24 l6 b7 => ?_)
   rintro o0 t7 l8 ⟨d5, hfr, j3, z2, o3, d3, u3, i3⟩ h
   refine E_seq (E_region (EL_in (.bool ((decide (o0 < ((x1).length : Int))))) i3 u3 rfl rfl ?_))
   refine EL_nil (thn_n (E_seq ?_))
   rcases csome h with ⟨z3, h⟩ | ⟨z3, h⟩
   ·refine E_ct z3 rfl ?_
    refine E_skip (thn_n (E_joinC h (fun (s : Unit) e w => ∃ (g : Gh) , Fr gI wI g w ∧ e 1 = up1 ∧ RV g.m w (x1 : List LoomRun) up1 ∧ e 2 = p1 ∧ PT g.m w (x0 : LoomLoomMill) p1 ∧ e 16 = .int .i64 (((x1).length : Int)) ∧ e 17 = .int .i64 (o0)) (fun X31 v6 c7 h => ?_) ?_))
    ·refine E_block ?_
     refine E_seq (E_region (EL_mv i3 rfl ?_))
     refine EL_at (.int .i64 (o0)) rfl rfl ?_
     refine EL_nil (thn_n (E_seq (E_region (EL_do .plain rfl (D_load (g := d5) Try.isAgg96 Try.sizeOf96 o3 d3 fun i7 j7 => ?_)))))
     refine EL_mv j3 rfl ?_
     refine EL_mw (.int .i64 (o0)) rfl rfl ?_
     obtain ⟨j1, d7, h⟩ := bsome h
     refine EL_do .plain rfl (D_call (g := d5) (vs := [i7, up1, .int .i64 (o0)]) en93 (.cons rfl (.cons rfl (.cons rfl .nil))) (wk93 j7 z2 d7) fun m7 u7 m8 hs hr => ?_)
     have hfr := hfr.ext hs
     have z2 := z2.ext hs
     have d3 := d3.ext hs
     subst hr
     refine EL_at (.int .i64 (j1)) rfl rfl ?_
     refine EL_nil (thn_n (E_seq (E_region (EL_mw (.int .i64 (j1)) rfl rfl ?_))))
     refine EL_in (.bool ((j1 != (0 : Int)))) rfl rfl rfl rfl ?_
     refine EL_nil (thn_n ?_)
     rcases csome h with ⟨d4, h⟩ | ⟨d4, h⟩
     ·refine E_ct d4 rfl ?_
      refine E_seq (E_region (EL_mw (.int .i64 (o0)) rfl rfl ?_))
      refine EL_mw (.int .i64 (j1)) rfl rfl ?_
      refine EL_at (.int .i64 (o0)) rfl rfl ?_
      refine EL_at (.int .i64 (j1)) rfl rfl ?_
      refine EL_nil (thn_n (E_ret (blk_r ?_)))
      refine thn_r ?_
      refine thn_r ?_
      refine blk_r ?_
      refine thn_r ?_
      obtain rfl := sinj h
      exact end2 rfl rfl (show _ = .int .i64 (o0) from rfl) (show _ = .int .i64 (j1) from rfl) ⟨_, hfr, _, _, rfl, rfl, rfl⟩
     ·refine E_cf d4 rfl ?_
      exact E_skip (blk_n (thn_n (c7 () _ _ ⟨m7, hfr, j3, z2, o3, d3, u3, i3⟩ h)))
    ·rintro _ c8 n8 ⟨n7, hfr, o5, p5, q5, t5, i5, l5⟩ h
     refine E_region (EL_in (.int .i64 ((w64 (o0 + (1 : Int))))) l5 rfl rfl rfl ?_)
     refine EL_mw (.int .i64 ((w64 (o0 + (1 : Int))))) rfl rfl ?_
     exact EL_nil (thn_n (b7 ((w64 (o0 + (1 : Int)))) _ _ ⟨n7, hfr, o5, p5, q5, t5, i5, rfl⟩ h))
   ·refine E_cf z3 rfl ?_
    refine E_exit ?_
    refine thn_e ?_
    refine thn_e ?_
    refine blk_hit ?_
    exact thn_n (a7 () _ _ ⟨d5, hfr, j3, z2, o3, d3⟩ h)
  ·rintro _ e8 o8 ⟨x6, hfr, u5, x5, c6, d6⟩ h
   refine E_joinC h (fun (s : Unit) e w => ∃ (g : Gh) , Fr gI wI g w) (fun X42 i6 e7 h => ?_) ?_
   ·refine E_seq (E_region (EL_do .plain rfl (D_load (g := x6) Try.isAgg96 Try.sizeOf96 c6 d6 fun o7 p7 => ?_)))
    refine EL_mv u5 rfl ?_
    obtain ⟨u0, g7, h⟩ := bsome h
    refine EL_do .plain rfl (D_call (g := x6) (vs := [o7, up1]) en94 (.cons rfl (.cons rfl .nil)) (wk94 p7 x5 g7) fun q7 g8 p8 hs hr => ?_)
    have hfr := hfr.ext hs
    subst hr
    refine EL_at (.int .i64 (u0)) rfl rfl ?_
    refine EL_nil (thn_n (E_seq (E_region (EL_mw (.int .i64 (u0)) rfl rfl ?_))))
    refine EL_in (.bool ((decide (u0 ≥ (0 : Int))))) rfl rfl rfl rfl ?_
    refine EL_nil (thn_n ?_)
    rcases csome h with ⟨m4, h⟩ | ⟨m4, h⟩
    ·refine E_ct m4 rfl ?_
     refine E_seq (E_region (EL_mw (.int .i64 (u0)) rfl rfl ?_))
     refine EL_at (.int .i64 (u0)) rfl rfl ?_
     refine EL_at (.int .i64 (6)) rfl rfl ?_
     refine EL_nil (thn_n (E_ret (thn_r ?_)))
     obtain rfl := sinj h
     exact end2 rfl rfl (show _ = .int .i64 (u0) from rfl) (show _ = .int .i64 (6) from rfl) ⟨_, hfr, _, _, rfl, rfl, rfl⟩
    ·refine E_cf m4 rfl ?_
     exact E_skip (thn_n (e7 () _ _ ⟨q7, hfr⟩ h))
   ·rintro _ i8 q8 ⟨r8, hfr⟩ h
    refine E_seq (E_region (EL_at (.int .i64 (0)) rfl rfl ?_))
    refine EL_at (.int .i64 (0)) rfl rfl ?_
    refine EL_nil (thn_n (E_ret ?_))
    obtain rfl := sinj h
    exact end2 rfl rfl (show _ = .int .i64 (0) from rfl) (show _ = .int .i64 (0) from rfl) ⟨_, hfr, _, _, rfl, rfl, rfl⟩
def f79 (x0 : LoomOrder) : Option (Bool) :=
 (f80 x0).bind fun y4 =>
 some ((!y4))
theorem en79 : Enters Try.prog 79 := enters_of Try.func79 (by kernel_rfl) rfl
theorem wk79 {gI : Gh} {wI : World} {x0 : LoomOrder} {up0 : Value} (rp0 : RV gI.m wI x0 up0) {r : Bool} (h : f79 x0 = some r) : Fn Try.prog 79 #[up0] gI wI (fun _ _ v => v = .bool (r)) := by
 unfold f79 at h
 refine fn_of_E Try.func79 rfl (Nat.le_of_ble_eq_true rfl) fun g0 hm hfr => ?_
 have rp0 : RV g0.m wI x0 up0 := hm ▸ rp0
 show E _ 6 none _ _ _ _ _
 refine E_seq (E_region (EL_do .plain rfl (D_box (g := g0) rfl rp0 fun g1 w1 p1 hs q1 => ?_)))
 have hfr := hfr.ext hs
 refine EL_at (.bool false) rfl rfl ?_
 refine EL_nil (thn_n (E_seq (E_region (EL_do .plain rfl (D_load (g := g1) Try.isAgg82 Try.sizeOf82 rfl q1 fun v2 r2 => ?_)))))
 obtain ⟨y4, o0, h⟩ := bsome h
 refine EL_do .plain rfl (D_call (g := g1) (vs := [v2]) en80 (.cons rfl .nil) (wk80 r2 o0) fun g3 w3_ v3 hs hr => ?_)
 have hfr := hfr.ext hs
 subst hr
 refine EL_pur (v := .bool (!y4)) (P_not rfl) .plain rfl ?_
 refine EL_at (.bool (!y4)) rfl rfl ?_
 refine EL_nil (thn_n (E_ret ?_))
 obtain rfl := sinj h
 exact end1 rfl rfl (show _ = .bool (!y4) from rfl) ⟨_, hfr, rfl⟩
def f50 (x0 : LoomMill) (x1 : List LoomOrder) : Option (LoomLoomMill × Int) :=
 jn (σ := LoomLoomMill) (fun l6 =>
  some ((⟨x0, x1⟩ : LoomLoomMill), (0 : Int))
  ) fun v7 =>
 Option.bind (α := Bool) (
  bif (decide ((((x0).Widths).length : Int) > (3 : Int))) then
   some ((decide ((((x0).Widths).length : Int) > (3 : Int))))
  else
   some ((decide (((x1).length : Int) > (7 : Int))))
  ) fun j3 =>
 bif j3 then
  some ((⟨⟨[], 0⟩, []⟩ : LoomLoomMill), (5 : Int))
 else
  Option.bind (α := Bool) (
   bif ((((x0).Widths).length : Int) == (0 : Int)) then
    some (((((x0).Widths).length : Int) == (0 : Int)))
   else
    (f81 ((1 : Int)) ((100 : Int)) ((x0).Widths)).bind fun d4 =>
    bif (!d4) then
     some ((!d4))
    else
     (f81 ((0 : Int)) ((20 : Int)) (([(x0).Change] : List Int))).bind fun m4 =>
     bif (!m4) then
      some ((!m4))
     else
      (f82 x1 ((fun a0 => f79 a0))).bind fun v6 =>
      some (v6)
   ) fun d3 =>
  bif d3 then
   some ((⟨⟨[], 0⟩, []⟩ : LoomLoomMill), (2 : Int))
  else
   v7 ((⟨⟨[], 0⟩, []⟩ : LoomLoomMill))
theorem en50 : Enters Try.prog 50 := enters_of Try.func50 (by kernel_rfl) rfl
theorem wk50 {gI : Gh} {wI : World} {x0 : LoomMill} {x1 : List LoomOrder} {up0 : Value} (rp0 : RV gI.m wI x0 up0) {up1 : Value} (rp1 : RV gI.m wI x1 up1) {r : LoomLoomMill × Int} (h : f50 x0 x1 = some r) : Fn Try.prog 50 #[up0, up1] gI wI (fun m w v => ∃ y0 y1, v = .tuple #[y0, y1] ∧ RV m w (r.1) y0 ∧ y1 = .int .i64 (r.2)) := by
 unfold f50 at h
 refine fn_of_E Try.func50 rfl (Nat.le_of_ble_eq_true rfl) fun g0 hm hfr => ?_
 have rp0 : RV g0.m wI x0 up0 := hm ▸ rp0
 have rp1 : RV g0.m wI x1 up1 := hm ▸ rp1
 show E _ 37 none _ _ _ _ _
 refine E_seq (E_region (EL_do .plain rfl (D_box (g := g0) rfl rp0 fun g1 w1 p1 hs q1 => ?_)))
 have hfr := hfr.ext hs
 have rp1 := rp1.ext hs
 refine EL_do .plain rfl (D_allocOc (g := g1) 2004 (⟨⟨[], 0⟩, []⟩ : LoomLoomMill) Try.zeroValue96 (fun m w => ⟨_, (rep_two (rep_two rep_nil rep_int) rep_nil), rfl⟩) fun g2 w2 p2 hs b2 cb => ?_)
 have hfr := hfr.stp hs
 have rp1 := rp1.stp hs
 have q1 := q1.stp hs
 have x6 : OSF 2004 60400 0 g2 w2 3 96 ([] : List Int) p2 := cb.osf (by rfl)
 have y6 : OSF 2004 60402 2 g2 w2 82 96 ([] : List LoomOrder) p2 := cb.osf (by rfl)
 clear cb
 refine EL_at (.int .i64 (0)) rfl rfl ?_
 refine EL_nil (thn_n (E_seq (E_region (EL_at (.func (.func 79) #[] #[]) rfl rfl ?_))))
 refine EL_nil (thn_n (E_joinC h (fun (s : LoomLoomMill) e w => ∃ (g : Gh) , Fr gI wI g w ∧ e 1 = up1 ∧ RV g.m w (x1 : List LoomOrder) up1 ∧ e 2 = p1 ∧ PT g.m w (x0 : LoomMill) p1 ∧ e 4 = p2 ∧ OB 2004 g w 96 (s : LoomLoomMill) p2 ∧ OSF 2004 60400 0 g w 3 96 (((s).LoomMill).Widths) p2 ∧ OSF 2004 60402 2 g w 82 96 ((s).orders) p2) (fun X51 v7 p8 h => ?_) ?_))
 ·refine E_block ?_
  obtain ⟨j3, hx, h⟩ := bsome h
  refine E_join (fun e w => ∃ (g : Gh) , Fr gI wI g w ∧ e 1 = up1 ∧ RV g.m w (x1 : List LoomOrder) up1 ∧ e 2 = p1 ∧ PT g.m w (x0 : LoomMill) p1 ∧ e 4 = p2 ∧ OB 2004 g w 96 ((⟨⟨[], 0⟩, []⟩ : LoomLoomMill) : LoomLoomMill) p2 ∧ OSF 2004 60400 0 g w 3 96 ((((⟨⟨[], 0⟩, []⟩ : LoomLoomMill)).LoomMill).Widths) p2 ∧ OSF 2004 60402 2 g w 82 96 (((⟨⟨[], 0⟩, []⟩ : LoomLoomMill)).orders) p2 ∧ e 6 = .func (.func 79) #[] #[] ∧ e 7 = .bool (j3)) (fun Q' hQ => ?_) (fun cA y8 hR => ?_)
  ·replace h := hx
   clear hx
   refine E_seq (E_region (EL_pur (v := fPtr p1 0) (P_fieldAddr at_24_0 rfl (PT.ptr q1)) .plain rfl ?_))
   have z8 := PT_field (part_LoomMill_0).1 q1
   refine EL_do .plain rfl (D_load (g := g2) Try.isAgg22 Try.sizeOf22 rfl z8 fun mA a9 => ?_)
   refine EL_pur (v := .int .i64 (((x0).Widths).length : Int)) (P_len Try.underlying22 rfl a9) .plain rfl ?_
   refine EL_pur (v := .bool ((decide ((((x0).Widths).length : Int) > (3 : Int))))) (P_int rfl rfl rfl) .plain rfl ?_
   refine EL_pur (v := .bool ((decide ((((x0).Widths).length : Int) > (3 : Int))))) (P_assign rfl) .plain rfl ?_
   refine EL_nil (thn_n ?_)
   rcases csome h with ⟨i5, h⟩ | ⟨i5, h⟩
   ·refine E_ct i5 rfl ?_
    refine E_skip ?_
    obtain rfl := sinj h
    exact hQ _ _ ⟨g2, hfr, rfl, rp1, rfl, q1, rfl, b2, x6, y6, rfl, rfl⟩
   ·refine E_cf i5 rfl ?_
    refine E_region (EL_mw up1 rfl rfl ?_)
    refine EL_pur (v := .int .i64 ((x1).length : Int)) (P_len Try.underlying25 rfl rp1) .plain rfl ?_
    refine EL_in (.bool ((decide (((x1).length : Int) > (7 : Int))))) rfl rfl rfl rfl ?_
    refine EL_at (.bool ((decide (((x1).length : Int) > (7 : Int))))) rfl rfl ?_
    refine EL_nil ?_
    obtain rfl := sinj h
    exact hQ _ _ ⟨g2, hfr, rfl, rp1, rfl, q1, rfl, b2, x6, y6, rfl, rfl⟩
  ·clear hx
   obtain ⟨u3, hfr, o3, u0, z2, o0, i3, j1, u4_0_58, u4_2_58, m7, i6⟩ := hR
   rcases csome h with ⟨l5, h⟩ | ⟨l5, h⟩
   ·refine E_cond_true (Eq.trans (show ev _ _ = .bool (j3) from i6) (congrArg Value.bool l5)) ?_
    refine E_seq (E_region ?_)
    have c8 : RV u3.m y8 (⟨⟨[], 0⟩, []⟩ : LoomLoomMill) (.agg (setCh [[.slice none 0 0, .int .i64 0], [.slice none 0 0]] []).flatten.toArray) := RV_build rfl (rep_pair ((rep_two rep_nil rep_int)) (rep_last (rep_nil)))
    generalize o5 : (Value.agg (setCh [[.slice none 0 0, .int .i64 0], [.slice none 0 0]] []).flatten.toArray) = e8 at c8
    refine EL_pur (v := e8) (o5 ▸ P_build (vs := []) [[.slice none 0 0, .int .i64 0], [.slice none 0 0]] lay_96 rfl rfl .nil trivial) .plain rfl ?_
    refine EL_do .plain rfl (D_storeOc (g := u3) (v := e8) Try.sizeOf96 i3 j1 rfl c8 fun g8 i8 hs b61 cb => ?_)
    have t9 : OSF 2004 60400 0 g8 i8 3 96 ([] : List Int) p2 := cb.osf (by rw [← o5]; rfl)
    have u9 : OSF 2004 60402 2 g8 i8 82 96 ([] : List LoomOrder) p2 := cb.osf (by rw [← o5]; rfl)
    clear cb
    have hfr := hfr.stp hs
    refine EL_at (.int .i64 (5)) rfl rfl ?_
    refine EL_nil (thn_n (E_ret (blk_r ?_)))
    refine thn_r ?_
    obtain rfl := sinj h
    obtain ⟨ad62, cv62, hp62, q8, cr62⟩ := ob_read Try.isAgg96 Try.sizeOf96 b61
    exact endm_ct rfl rfl ((show _ = p2 from i3).trans hp62) q8 (show _ = .int .i64 (5) from rfl) ⟨_, hfr, _, _, rfl, cr62, rfl⟩
   ·refine E_cond_false (Eq.trans (show ev _ _ = .bool (j3) from i6) (congrArg Value.bool l5)) ?_
    obtain ⟨d3, hx, h⟩ := bsome h
    refine E_join (fun e w => ∃ (g : Gh) , Fr gI wI g w ∧ e 1 = up1 ∧ RV g.m w (x1 : List LoomOrder) up1 ∧ e 2 = p1 ∧ PT g.m w (x0 : LoomMill) p1 ∧ e 4 = p2 ∧ OB 2004 g w 96 ((⟨⟨[], 0⟩, []⟩ : LoomLoomMill) : LoomLoomMill) p2 ∧ OSF 2004 60400 0 g w 3 96 ((((⟨⟨[], 0⟩, []⟩ : LoomLoomMill)).LoomMill).Widths) p2 ∧ OSF 2004 60402 2 g w 82 96 (((⟨⟨[], 0⟩, []⟩ : LoomLoomMill)).orders) p2 ∧ e 16 = .bool (d3)) (fun Q' hQ => ?_) (fun dA d9 hR => ?_)
    ·replace h := hx
     clear hx
     refine E_seq (E_region (EL_pur (v := fPtr p1 0) (P_fieldAddr at_24_0 z2 (PT.ptr o0)) .plain rfl ?_))
     have e9 := PT_field (part_LoomMill_0).1 o0
     refine EL_do .plain rfl (D_load (g := u3) Try.isAgg22 Try.sizeOf22 rfl e9 fun nA g9 => ?_)
     refine EL_pur (v := .int .i64 (((x0).Widths).length : Int)) (P_len Try.underlying22 rfl g9) .plain rfl ?_
     refine EL_in (.bool (((((x0).Widths).length : Int) == (0 : Int)))) rfl rfl rfl rfl ?_
     refine EL_at (.bool (((((x0).Widths).length : Int) == (0 : Int)))) rfl rfl ?_
     refine EL_nil (thn_n ?_)
     rcases csome h with ⟨p5, h⟩ | ⟨p5, h⟩
     ·refine E_ct p5 rfl ?_
      refine E_skip ?_
      obtain rfl := sinj h
      exact hQ _ _ ⟨u3, hfr, o3, u0, z2, o0, i3, j1, u4_0_58, u4_2_58, rfl⟩
     ·refine E_cf p5 rfl ?_
      refine E_seq (E_region (EL_pur (v := fPtr p1 0) (P_fieldAddr at_24_0 z2 (PT.ptr o0)) .plain rfl ?_))
      have i9 := PT_field (part_LoomMill_0).1 o0
      refine EL_do .plain rfl (D_load (g := u3) Try.isAgg22 Try.sizeOf22 rfl i9 fun j9 k9 => ?_)
      obtain ⟨d4, r8, h⟩ := bsome h
      refine EL_do .plain rfl (D_call (g := u3) (vs := [.int .i64 (1), .int .i64 (100), j9]) en81 (.cons rfl (.cons rfl (.cons rfl .nil))) (wk81 k9 r8) fun z6 eA oA hs hr => ?_)
      have hfr := hfr.ext hs
      have u0 := u0.ext hs
      have o0 := o0.ext hs
      have u4_0_58 := u4_0_58.ext hs
      have u4_2_58 := u4_2_58.ext hs
      have j1 := j1.ext hs
      subst hr
      refine EL_pur (v := .bool (!d4)) (P_not rfl) .plain rfl ?_
      refine EL_at (.bool (!d4)) rfl rfl ?_
      refine EL_nil (thn_n ?_)
      rcases csome h with ⟨q5, h⟩ | ⟨q5, h⟩
      ·refine E_ct q5 rfl ?_
       refine E_skip ?_
       obtain rfl := sinj h
       exact hQ _ _ ⟨z6, hfr, o3, u0, z2, o0, i3, j1, u4_0_58, u4_2_58, rfl⟩
      ·refine E_cf q5 rfl ?_
       refine E_seq (E_region (EL_pur (v := fPtr p1 1) (P_fieldAddr at_24_1 z2 (PT.ptr o0)) .plain rfl ?_))
       have l9 := PT_field (part_LoomMill_1).1 o0
       refine EL_do .plain rfl (D_load (g := z6) Try.isAgg3 Try.sizeOf3 rfl l9 fun pA n9 => ?_)
       obtain rfl := RV_int.1 n9
       refine EL_do .plain rfl (D_buildSlice (g := z6) 3027 (xs := ([(x0).Change] : List Int)) (vs := [.int .i64 ((x0).Change)]) Try.underlying22 Try.sizeOf3 Try.zeroValue3 rfl rfl (.cons rfl .nil) (RVs.cons (RV_int.2 rfl) RVs.nil) rfl rfl fun o9 qA p9 hs o89 q9 hxt hfl => ?_)
       have hfr := hfr.stp hs
       have u0 := u0.stp hs
       have o0 := o0.stp hs
       have u4_0_58 := u4_0_58.stp hs rfl
       have u4_2_58 := u4_2_58.stp hs rfl
       have j1 := j1.stp hs rfl
       obtain ⟨m4, t8, h⟩ := bsome h
       refine EL_do .plain rfl (D_call (g := o9) (vs := [.int .i64 (0), .int .i64 (20), p9]) en81 (.cons rfl (.cons rfl (.cons rfl .nil))) (wk81 q9 t8) fun k8 gA rA hs hr => ?_)
       have hfr := hfr.ext hs
       have u0 := u0.ext hs
       have o0 := o0.ext hs
       have u4_0_58 := u4_0_58.ext hs
       have u4_2_58 := u4_2_58.ext hs
       have j1 := j1.ext hs
       subst hr
       refine EL_pur (v := .bool (!m4)) (P_not rfl) .plain rfl ?_
       refine EL_at (.bool (!m4)) rfl rfl ?_
       refine EL_nil (thn_n ?_)
       rcases csome h with ⟨t5, h⟩ | ⟨t5, h⟩
       ·refine E_ct t5 rfl ?_
        refine E_skip ?_
        obtain rfl := sinj h
        exact hQ _ _ ⟨k8, hfr, o3, u0, z2, o0, i3, j1, u4_0_58, u4_2_58, rfl⟩
       ·refine E_cf t5 rfl ?_
        refine E_region (EL_mv o3 rfl ?_)
        refine EL_mv m7 rfl ?_
        obtain ⟨v6, v8, h⟩ := bsome h
        refine EL_do .plain rfl (D_call (g := k8) (vs := [up1, .func (.func 79) #[] #[]]) en82 (.cons rfl (.cons rfl .nil)) (wk82 u0 ⟨79, #[], #[], rfl, en79, fun g' w' hch a0 b0 r hu0 hr => by exact Fn.mono (wk79 hu0  hr) fun _ _ _ h => RV_bool.2 h⟩ v8) fun r9 iA sA hs hr => ?_)
        have hfr := hfr.ext hs
        have u0 := u0.ext hs
        have o0 := o0.ext hs
        have u4_0_58 := u4_0_58.ext hs
        have u4_2_58 := u4_2_58.ext hs
        have j1 := j1.ext hs
        subst hr
        refine EL_at (.bool (v6)) rfl rfl ?_
        refine EL_nil ?_
        obtain rfl := sinj h
        exact hQ _ _ ⟨r9, hfr, o3, u0, z2, o0, i3, j1, u4_0_58, u4_2_58, rfl⟩
    ·clear hx
     obtain ⟨a7, hfr, n7, o7, p7, q7, z3, j6, u4_0_95, u4_2_95, p4⟩ := hR
     rcases csome h with ⟨u5, h⟩ | ⟨u5, h⟩
     ·refine E_cond_true (Eq.trans (show ev _ _ = .bool (d3) from p4) (congrArg Value.bool u5)) ?_
      refine E_seq (E_region ?_)
      have l8 : RV a7.m d9 (⟨⟨[], 0⟩, []⟩ : LoomLoomMill) (.agg (setCh [[.slice none 0 0, .int .i64 0], [.slice none 0 0]] []).flatten.toArray) := RV_build rfl (rep_pair ((rep_two rep_nil rep_int)) (rep_last (rep_nil)))
      generalize x5 : (Value.agg (setCh [[.slice none 0 0, .int .i64 0], [.slice none 0 0]] []).flatten.toArray) = m8 at l8
      refine EL_pur (v := m8) (x5 ▸ P_build (vs := []) [[.slice none 0 0, .int .i64 0], [.slice none 0 0]] lay_96 rfl rfl .nil trivial) .plain rfl ?_
      refine EL_do .plain rfl (D_storeOc (g := a7) (v := m8) Try.sizeOf96 z3 j6 rfl l8 fun n8 o8 hs b98 cb => ?_)
      have y9 : OSF 2004 60400 0 n8 o8 3 96 ([] : List Int) p2 := cb.osf (by rw [← x5]; rfl)
      have z9 : OSF 2004 60402 2 n8 o8 82 96 ([] : List LoomOrder) p2 := cb.osf (by rw [← x5]; rfl)
      clear cb
      have hfr := hfr.stp hs
      refine EL_at (.int .i64 (2)) rfl rfl ?_
      refine EL_nil (thn_n (E_ret (blk_r ?_)))
      refine thn_r ?_
      obtain rfl := sinj h
      obtain ⟨ad99, cv99, hp99, x8, cr99⟩ := ob_read Try.isAgg96 Try.sizeOf96 b98
      exact endm_ct rfl rfl ((show _ = p2 from z3).trans hp99) x8 (show _ = .int .i64 (2) from rfl) ⟨_, hfr, _, _, rfl, cr99, rfl⟩
     ·refine E_cond_false (Eq.trans (show ev _ _ = .bool (d3) from p4) (congrArg Value.bool u5)) ?_
      exact E_skip (blk_n (thn_n (p8 ((⟨⟨[], 0⟩, []⟩ : LoomLoomMill)) _ _ ⟨a7, hfr, n7, o7, p7, q7, z3, j6, u4_0_95, u4_2_95⟩ h)))
 ·rintro l6 bA jA ⟨c6, hfr, b7, z4, c7, d7, d5, e7, u4_0_100, u4_2_100⟩ h
  refine E_seq (E_region (EL_do .plain rfl (D_load (g := c6) Try.isAgg24 Try.sizeOf24 c7 d7 fun d6 g7 => ?_)))
  refine EL_mv b7 rfl ?_
  have i7 : RV c6.m _ (⟨x0, x1⟩ : LoomLoomMill) (.agg (setCh [[.slice none 0 0, .int .i64 0], [.slice none 0 0]] [(0, d6), (1, up1)]).flatten.toArray) := RV_build rfl (rep_pair (RV.cells g7) (rep_last (RV.cells z4)))
  generalize t7 : (Value.agg (setCh [[.slice none 0 0, .int .i64 0], [.slice none 0 0]] [(0, d6), (1, up1)]).flatten.toArray) = j7 at i7
  refine EL_pur (v := j7) (t7 ▸ P_build (vs := [(0, d6), (1, up1)]) [[.slice none 0 0, .int .i64 0], [.slice none 0 0]] lay_96 rfl rfl (.cons rfl (.cons rfl .nil)) ⟨⟨_, rfl, cells_size g7⟩, ⟨⟨_, rfl, cells_size z4⟩, trivial⟩⟩) .plain rfl ?_
  refine EL_do .plain rfl (D_storeOc (g := c6) (v := j7) Try.sizeOf96 d5 e7 rfl i7 fun kA lA hs b103 cb => ?_)
  clear cb
  have hfr := hfr.stp hs
  refine EL_at (.int .i64 (0)) rfl rfl ?_
  refine EL_nil (thn_n (E_ret ?_))
  obtain rfl := sinj h
  obtain ⟨ad104, cv104, hp104, u7, cr104⟩ := ob_read Try.isAgg96 Try.sizeOf96 b103
  exact endm_ct rfl rfl ((show _ = p2 from d5).trans hp104) u7 (show _ = .int .i64 (0) from rfl) ⟨_, hfr, _, _, rfl, cr104, rfl⟩
def f65 (x0 : LoomMill) (x1 : List LoomOrder) (x2 : List LoomRun) (x3 : LoomStop) : Option (LoomStill × Int) :=
 (f50 x0 x1).bind fun y6 =>
 Option.bind (α := Int) (
  bif (y6.2 == (0 : Int)) then
   (f78 (y6.1) x2).bind fun d4 =>
   some (d4.2)
  else
   some (y6.2)
  ) fun z2 =>
 jn (σ := LoomStill) (fun i7 =>
  some ((⟨y6.1, x3⟩ : LoomStill), (0 : Int))
  ) fun r8 =>
 bif (z2 != (0 : Int)) then
  some ((⟨⟨⟨[], 0⟩, []⟩, ⟨0, ⟨0, 0⟩⟩⟩ : LoomStill), z2)
 else
  (f81 ((0 : Int)) ((w64 ((((x0).Widths).length : Int) - (1 : Int)))) (([(x3).Loom] : List Int))).bind fun y81 =>
  bif (!y81) then
   some ((⟨⟨⟨[], 0⟩, []⟩, ⟨0, ⟨0, 0⟩⟩⟩ : LoomStill), (7 : Int))
  else
   Option.bind (α := Bool) (
    (f71 (([((x3).Days).Low, ((x3).Days).High] : List Int))).bind fun y110 =>
    bif (!y110) then
     some ((!y110))
    else
     some ((decide (((x3).Days).Low > ((x3).Days).High)))
    ) fun o3 =>
   bif o3 then
    some ((⟨⟨⟨[], 0⟩, []⟩, ⟨0, ⟨0, 0⟩⟩⟩ : LoomStill), (2 : Int))
   else
    r8 ((⟨⟨⟨[], 0⟩, []⟩, ⟨0, ⟨0, 0⟩⟩⟩ : LoomStill))
theorem en65 : Enters Try.prog 65 := enters_of Try.func65 (by kernel_rfl) rfl
theorem wk65 {gI : Gh} {wI : World} {x0 : LoomMill} {x1 : List LoomOrder} {x2 : List LoomRun} {x3 : LoomStop} {up0 : Value} (rp0 : RV gI.m wI x0 up0) {up1 : Value} (rp1 : RV gI.m wI x1 up1) {up2 : Value} (rp2 : RV gI.m wI x2 up2) {up3 : Value} (rp3 : RV gI.m wI x3 up3) {r : LoomStill × Int} (h : f65 x0 x1 x2 x3 = some r) : Fn Try.prog 65 #[up0, up1, up2, up3] gI wI (fun m w v => ∃ y0 y1, v = .tuple #[y0, y1] ∧ RV m w (r.1) y0 ∧ y1 = .int .i64 (r.2)) := by
 unfold f65 at h
 refine fn_of_E Try.func65 rfl (Nat.le_of_ble_eq_true rfl) fun g0 hm hfr => ?_
 have rp0 : RV g0.m wI x0 up0 := hm ▸ rp0
 have rp1 : RV g0.m wI x1 up1 := hm ▸ rp1
 have rp2 : RV g0.m wI x2 up2 := hm ▸ rp2
 have rp3 : RV g0.m wI x3 up3 := hm ▸ rp3
 show E _ 62 none _ _ _ _ _
 refine E_seq (E_region (EL_do .plain rfl (D_box (g := g0) rfl rp0 fun g1 w1 p1 hs q1 => ?_)))
 have hfr := hfr.ext hs
 have rp1 := rp1.ext hs
 have rp2 := rp2.ext hs
 have rp3 := rp3.ext hs
 refine EL_do .plain rfl (D_box (g := g1) rfl rp3 fun g2 w2 p2 hs q2 => ?_)
 have hfr := hfr.ext hs
 have rp1 := rp1.ext hs
 have rp2 := rp2.ext hs
 have q1 := q1.ext hs
 refine EL_do .plain rfl (D_allocOc (g := g2) 2008 (⟨⟨⟨[], 0⟩, []⟩, ⟨0, ⟨0, 0⟩⟩⟩ : LoomStill) Try.zeroValue113 (fun m w => ⟨_, (rep_two (rep_two (rep_two rep_nil rep_int) rep_nil) (rep_two rep_int (rep_two rep_int rep_int))), rfl⟩) fun g3 w3 p3 hs b3 cb => ?_)
 have hfr := hfr.stp hs
 have rp1 := rp1.stp hs
 have rp2 := rp2.stp hs
 have q1 := q1.stp hs
 have q2 := q2.stp hs
 have i3 : OSF 2008 60800 0 g3 w3 3 113 ([] : List Int) p3 := cb.osf (by rfl)
 have j3 : OSF 2008 60802 2 g3 w3 82 113 ([] : List LoomOrder) p3 := cb.osf (by rfl)
 clear cb
 refine EL_at (.int .i64 (0)) rfl rfl ?_
 refine EL_nil (thn_n (E_seq (E_region (EL_do .plain rfl (D_load (g := g3) Try.isAgg24 Try.sizeOf24 rfl q1 fun v4 r4 => ?_)))))
 refine EL_mw up1 rfl rfl ?_
 obtain ⟨y6, t9, h⟩ := bsome h
 refine EL_do .plain rfl (D_call (g := g3) (vs := [v4, up1]) en50 (.cons rfl (.cons rfl .nil)) (wk50 r4 rp1 t9) fun g5 w5_ v5 hs hr => ?_)
 have hfr := hfr.ext hs
 have rp2 := rp2.ext hs
 have q1 := q1.ext hs
 have q2 := q2.ext hs
 have i3 := i3.ext hs
 have j3 := j3.ext hs
 have b3 := b3.ext hs
 obtain ⟨u5, tA, rfl, x5, rfl⟩ := hr
 refine EL_mw (.tuple #[u5, .int .i64 (y6.2)]) rfl rfl ?_
 refine EL_pur (v := u5) (P_extract rfl rfl) .plain rfl ?_
 refine EL_pur (v := .int .i64 (y6.2)) (P_extract rfl rfl) .plain rfl ?_
 refine EL_do .plain rfl (D_allocOc (g := g5) 2010 (⟨⟨[], 0⟩, []⟩ : LoomLoomMill) Try.zeroValue96 (fun m w => ⟨_, (rep_two (rep_two rep_nil rep_int) rep_nil), rfl⟩) fun g7 w7 p7 hs b7 cb => ?_)
 have hfr := hfr.stp hs
 have rp2 := rp2.stp hs
 have q1 := q1.stp hs
 have q2 := q2.stp hs
 have i3 := i3.stp hs rfl
 have j3 := j3.stp hs rfl
 have b3 := b3.stp hs rfl
 have x5 := x5.stp hs
 have uA : OSF 2010 61000 0 g7 w7 3 96 ([] : List Int) p7 := cb.osf (by rfl)
 have vA : OSF 2010 61002 2 g7 w7 82 96 ([] : List LoomOrder) p7 := cb.osf (by rfl)
 clear cb
 refine EL_do .plain rfl (D_storeOc (g := g7) (v := u5) Try.sizeOf96 rfl b7 rfl x5 fun g8 w8 hs b8 cb => ?_)
 clear cb
 have hfr := hfr.stp hs
 have rp2 := rp2.stp hs
 have q1 := q1.stp hs
 have q2 := q2.stp hs
 have i3 := i3.stp hs rfl
 have j3 := j3.stp hs rfl
 have b3 := b3.stp hs rfl
 refine EL_at (.int .i64 (y6.2)) rfl rfl ?_
 refine EL_nil (thn_n ?_)
 obtain ⟨z2, hx, h⟩ := bsome h
 refine E_join (fun e w => ∃ (g : Gh) , Fr gI wI g w ∧ e 4 = p1 ∧ PT g.m w (x0 : LoomMill) p1 ∧ e 7 = p2 ∧ PT g.m w (x3 : LoomStop) p2 ∧ e 8 = p3 ∧ OB 2008 g w 113 ((⟨⟨⟨[], 0⟩, []⟩, ⟨0, ⟨0, 0⟩⟩⟩ : LoomStill) : LoomStill) p3 ∧ OSF 2008 60800 0 g w 3 113 (((((⟨⟨⟨[], 0⟩, []⟩, ⟨0, ⟨0, 0⟩⟩⟩ : LoomStill)).mill).LoomMill).Widths) p3 ∧ OSF 2008 60802 2 g w 82 113 ((((⟨⟨⟨[], 0⟩, []⟩, ⟨0, ⟨0, 0⟩⟩⟩ : LoomStill)).mill).orders) p3 ∧ e 9 = .int .i64 (z2) ∧ e 10 = p7 ∧ OB 2010 g w 96 (y6.1 : LoomLoomMill) p7) (fun Q' hQ => ?_) (fun xA pB hR => ?_)
 ·replace h := hx
  clear hx
  refine E_seq (E_region (EL_mw (.int .i64 (y6.2)) rfl rfl ?_))
  refine EL_in (.bool ((y6.2 == (0 : Int)))) rfl rfl rfl rfl ?_
  refine EL_nil (thn_n ?_)
  rcases csome h with ⟨c6, h⟩ | ⟨c6, h⟩
  ·refine E_ct c6 rfl ?_
   refine E_region (EL_do .plain rfl (D_loadO (g := g8) Try.isAgg96 Try.sizeOf96 rfl b8 fun u9 y9 => ?_))
   refine EL_mw up2 rfl rfl ?_
   obtain ⟨d4, t8, h⟩ := bsome h
   refine EL_do .plain rfl (D_call (g := g8) (vs := [u9, up2]) en78 (.cons rfl (.cons rfl .nil)) (wk78 y9 rp2 t8) fun z9 yA qB hs hr => ?_)
   have hfr := hfr.ext hs
   have q1 := q1.ext hs
   have q2 := q2.ext hs
   have i3 := i3.ext hs
   have j3 := j3.ext hs
   have b3 := b3.ext hs
   have b8 := b8.ext hs
   obtain ⟨oA, pA, rfl, rfl, rfl⟩ := hr
   refine EL_mw (.tuple #[.int .i64 (d4.1), .int .i64 (d4.2)]) rfl rfl ?_
   refine EL_pur (v := .int .i64 (d4.1)) (P_extract rfl rfl) .plain rfl ?_
   refine EL_pur (v := .int .i64 (d4.2)) (P_extract rfl rfl) .plain rfl ?_
   refine EL_at (.int .i64 (d4.2)) rfl rfl ?_
   refine EL_nil ?_
   obtain rfl := sinj h
   exact hQ _ _ ⟨z9, hfr, rfl, q1, rfl, q2, rfl, b3, i3, j3, rfl, rfl, b8⟩
  ·refine E_cf c6 rfl ?_
   refine E_skip ?_
   obtain rfl := sinj h
   exact hQ _ _ ⟨g8, hfr, rfl, q1, rfl, q2, rfl, b3, i3, j3, rfl, rfl, b8⟩
 ·clear hx
  obtain ⟨o5, hfr, m8, x6, u3, o0, d3, u0, u8_0_17, u8_2_17, z6, p5, j1⟩ := hR
  refine E_joinC h (fun (s : LoomStill) e w => ∃ (g : Gh) , Fr gI wI g w ∧ e 7 = p2 ∧ PT g.m w (x3 : LoomStop) p2 ∧ e 8 = p3 ∧ OB 2008 g w 113 (s : LoomStill) p3 ∧ OSF 2008 60800 0 g w 3 113 ((((s).mill).LoomMill).Widths) p3 ∧ OSF 2008 60802 2 g w 82 113 (((s).mill).orders) p3 ∧ e 10 = p7 ∧ OB 2010 g w 96 (y6.1 : LoomLoomMill) p7) (fun X70 r8 v8 h => ?_) ?_
  ·refine E_block ?_
   refine E_seq (E_region (EL_mv z6 rfl ?_))
   refine EL_in (.bool ((z2 != (0 : Int)))) rfl rfl rfl rfl ?_
   refine EL_at (.bool ((z2 != (0 : Int)))) rfl rfl ?_
   refine EL_nil (thn_n ?_)
   rcases csome h with ⟨d6, h⟩ | ⟨d6, h⟩
   ·refine E_ct d6 rfl ?_
    refine E_seq (E_region (EL_do .plain rfl (D_loadO (g := o5) Try.isAgg113 Try.sizeOf113 d3 u0 fun bA cA => ?_)))
    refine EL_mv z6 rfl ?_
    refine EL_do .plain rfl (D_storeOc (g := o5) (v := bA) Try.sizeOf113 d3 u0 rfl cA fun rB sB hs b73 cb => ?_)
    clear cb
    have hfr := hfr.stp hs
    refine EL_at (.int .i64 (z2)) rfl rfl ?_
    refine EL_nil (thn_n (E_ret (blk_r ?_)))
    refine thn_r ?_
    obtain rfl := sinj h
    obtain ⟨ad74, cv74, hp74, x8, cr74⟩ := ob_read Try.isAgg113 Try.sizeOf113 b73
    exact endm_ct rfl rfl ((show _ = p3 from d3).trans hp74) x8 (show _ = .int .i64 (z2) from rfl) ⟨_, hfr, _, _, rfl, cr74, rfl⟩
   ·refine E_cf d6 rfl ?_
    refine E_seq (E_region (EL_pur (v := fPtr p1 0) (P_fieldAddr at_24_0 m8 (PT.ptr x6)) .plain rfl ?_))
    have dA := PT_field (part_LoomMill_0).1 x6
    refine EL_do .plain rfl (D_load (g := o5) Try.isAgg22 Try.sizeOf22 rfl dA fun tB eA => ?_)
    refine EL_pur (v := .int .i64 (((x0).Widths).length : Int)) (P_len Try.underlying22 rfl eA) .plain rfl ?_
    refine EL_pur (v := .int .i64 ((w64 ((((x0).Widths).length : Int) - (1 : Int))))) (P_int rfl rfl rfl) .plain rfl ?_
    refine EL_pur (v := fPtr p2 0) (P_fieldAddr at_54_0 u3 (PT.ptr o0)) .plain rfl ?_
    have gA := PT_field (part_LoomStop_0).1 o0
    refine EL_do .plain rfl (D_load (g := o5) Try.isAgg3 Try.sizeOf3 rfl gA fun uB iA => ?_)
    obtain rfl := RV_int.1 iA
    refine EL_do .plain rfl (D_buildSlice (g := o5) 3037 (xs := ([(x3).Loom] : List Int)) (vs := [.int .i64 ((x3).Loom)]) Try.underlying22 Try.sizeOf3 Try.zeroValue3 rfl rfl (.cons rfl .nil) (RVs.cons (RV_int.2 rfl) RVs.nil) rfl rfl fun jA vB kA hs o79 lA hxt hfl => ?_)
    have hfr := hfr.stp hs
    have o0 := o0.stp hs
    have u8_0_17 := u8_0_17.stp hs rfl
    have u8_2_17 := u8_2_17.stp hs rfl
    have u0 := u0.stp hs rfl
    have j1 := j1.stp hs rfl
    obtain ⟨y81, y8, h⟩ := bsome h
    refine EL_do .plain rfl (D_call (g := jA) (vs := [.int .i64 (0), .int .i64 ((w64 ((((x0).Widths).length : Int) - (1 : Int)))), kA]) en81 (.cons rfl (.cons rfl (.cons rfl .nil))) (wk81 lA y8) fun q5 zA xB hs hr => ?_)
    have hfr := hfr.ext hs
    have o0 := o0.ext hs
    have u8_0_17 := u8_0_17.ext hs
    have u8_2_17 := u8_2_17.ext hs
    have u0 := u0.ext hs
    have j1 := j1.ext hs
    subst hr
    refine EL_pur (v := .bool (!y81)) (P_not rfl) .plain rfl ?_
    refine EL_at (.bool (!y81)) rfl rfl ?_
    refine EL_nil (thn_n ?_)
    rcases csome h with ⟨i6, h⟩ | ⟨i6, h⟩
    ·refine E_ct i6 rfl ?_
     refine E_seq (E_region (EL_do .plain rfl (D_loadO (g := q5) Try.isAgg113 Try.sizeOf113 d3 u0 fun mA nA => ?_)))
     refine EL_do .plain rfl (D_storeOc (g := q5) (v := mA) Try.sizeOf113 d3 u0 rfl nA fun yB zB hs b84 cb => ?_)
     clear cb
     have hfr := hfr.stp hs
     refine EL_at (.int .i64 (7)) rfl rfl ?_
     refine EL_nil (thn_n (E_ret (blk_r ?_)))
     refine thn_r ?_
     obtain rfl := sinj h
     obtain ⟨ad85, cv85, hp85, z8, cr85⟩ := ob_read Try.isAgg113 Try.sizeOf113 b84
     exact endm_ct rfl rfl ((show _ = p3 from d3).trans hp85) z8 (show _ = .int .i64 (7) from rfl) ⟨_, hfr, _, _, rfl, cr85, rfl⟩
    ·refine E_cf i6 rfl ?_
     obtain ⟨o3, hx, h⟩ := bsome h
     refine E_join (fun e w => ∃ (g : Gh) , Fr gI wI g w ∧ e 7 = p2 ∧ PT g.m w (x3 : LoomStop) p2 ∧ e 8 = p3 ∧ OB 2008 g w 113 ((⟨⟨⟨[], 0⟩, []⟩, ⟨0, ⟨0, 0⟩⟩⟩ : LoomStill) : LoomStill) p3 ∧ OSF 2008 60800 0 g w 3 113 (((((⟨⟨⟨[], 0⟩, []⟩, ⟨0, ⟨0, 0⟩⟩⟩ : LoomStill)).mill).LoomMill).Widths) p3 ∧ OSF 2008 60802 2 g w 82 113 ((((⟨⟨⟨[], 0⟩, []⟩, ⟨0, ⟨0, 0⟩⟩⟩ : LoomStill)).mill).orders) p3 ∧ e 10 = p7 ∧ OB 2010 g w 96 (y6.1 : LoomLoomMill) p7 ∧ e 41 = .bool (o3)) (fun Q' hQ => ?_) (fun qA aB hR => ?_)
     ·replace h := hx
      clear hx
      refine E_seq (E_region (EL_pur (v := fPtr p2 1) (P_fieldAddr at_54_1 u3 (PT.ptr o0)) .plain rfl ?_))
      have j7 := PT_field (part_LoomStop_1).1 o0
      refine EL_pur (v := fPtr (fPtr p2 1) 0) (P_fieldAddr at_48_0 rfl (PT.ptr j7)) .plain rfl ?_
      have a9 := PT_field (part_Span_0).1 j7
      refine EL_do .plain rfl (D_load (g := q5) Try.isAgg3 Try.sizeOf3 rfl a9 fun bB d9 => ?_)
      obtain rfl := RV_int.1 d9
      refine EL_pur (v := fPtr p2 1) (P_fieldAddr at_54_1 u3 (PT.ptr o0)) .plain rfl ?_
      have m7 := PT_field (part_LoomStop_1).1 o0
      refine EL_pur (v := fPtr (fPtr p2 1) 1) (P_fieldAddr at_48_1 rfl (PT.ptr m7)) .plain rfl ?_
      have e9 := PT_field (part_Span_1).1 m7
      refine EL_do .plain rfl (D_load (g := q5) Try.isAgg3 Try.sizeOf3 rfl e9 fun cB g9 => ?_)
      obtain rfl := RV_int.1 g9
      refine EL_do .plain rfl (D_buildSlice (g := q5) 3048 (xs := ([((x3).Days).Low, ((x3).Days).High] : List Int)) (vs := [.int .i64 (((x3).Days).Low), .int .i64 (((x3).Days).High)]) Try.underlying22 Try.sizeOf3 Try.zeroValue3 rfl rfl (.cons rfl (.cons rfl .nil)) (RVs.cons (RV_int.2 rfl) (RVs.cons (RV_int.2 rfl) RVs.nil)) rfl rfl fun i9 dB j9 hs o108 k9 hxt hfl => ?_)
      have hfr := hfr.stp hs
      have o0 := o0.stp hs
      have u8_0_17 := u8_0_17.stp hs rfl
      have u8_2_17 := u8_2_17.stp hs rfl
      have u0 := u0.stp hs rfl
      have j1 := j1.stp hs rfl
      obtain ⟨y110, n8, h⟩ := bsome h
      refine EL_do .plain rfl (D_call (g := i9) (vs := [j9]) en71 (.cons rfl .nil) (wk71 k9 n8) fun z4 rA eB hs hr => ?_)
      have hfr := hfr.ext hs
      have o0 := o0.ext hs
      have u8_0_17 := u8_0_17.ext hs
      have u8_2_17 := u8_2_17.ext hs
      have u0 := u0.ext hs
      have j1 := j1.ext hs
      subst hr
      refine EL_pur (v := .bool (!y110)) (P_not rfl) .plain rfl ?_
      refine EL_at (.bool (!y110)) rfl rfl ?_
      refine EL_nil (thn_n ?_)
      rcases csome h with ⟨d5, h⟩ | ⟨d5, h⟩
      ·refine E_ct d5 rfl ?_
       refine E_skip ?_
       obtain rfl := sinj h
       exact hQ _ _ ⟨z4, hfr, u3, o0, d3, u0, u8_0_17, u8_2_17, p5, j1, rfl⟩
      ·refine E_cf d5 rfl ?_
       refine E_region (EL_pur (v := fPtr p2 1) (P_fieldAddr at_54_1 u3 (PT.ptr o0)) .plain rfl ?_)
       have n7 := PT_field (part_LoomStop_1).1 o0
       refine EL_pur (v := fPtr (fPtr p2 1) 0) (P_fieldAddr at_48_0 rfl (PT.ptr n7)) .plain rfl ?_
       have l9 := PT_field (part_Span_0).1 n7
       refine EL_do .plain rfl (D_load (g := z4) Try.isAgg3 Try.sizeOf3 rfl l9 fun iB n9 => ?_)
       obtain rfl := RV_int.1 n9
       refine EL_pur (v := fPtr p2 1) (P_fieldAddr at_54_1 u3 (PT.ptr o0)) .plain rfl ?_
       have o7 := PT_field (part_LoomStop_1).1 o0
       refine EL_pur (v := fPtr (fPtr p2 1) 1) (P_fieldAddr at_48_1 rfl (PT.ptr o7)) .plain rfl ?_
       have o9 := PT_field (part_Span_1).1 o7
       refine EL_do .plain rfl (D_load (g := z4) Try.isAgg3 Try.sizeOf3 rfl o9 fun jB p9 => ?_)
       obtain rfl := RV_int.1 p9
       refine EL_in (.bool ((decide (((x3).Days).Low > ((x3).Days).High)))) rfl rfl rfl rfl ?_
       refine EL_at (.bool ((decide (((x3).Days).Low > ((x3).Days).High)))) rfl rfl ?_
       refine EL_nil ?_
       obtain rfl := sinj h
       exact hQ _ _ ⟨z4, hfr, u3, o0, d3, u0, u8_0_17, u8_2_17, p5, j1, rfl⟩
     ·clear hx
      obtain ⟨j6, hfr, q7, t7, z3, m4, u8_0_118, u8_2_118, a7, c7, p4⟩ := hR
      rcases csome h with ⟨i5, h⟩ | ⟨i5, h⟩
      ·refine E_cond_true (Eq.trans (show ev _ _ = .bool (o3) from p4) (congrArg Value.bool i5)) ?_
       refine E_seq (E_region (EL_do .plain rfl (D_loadO (g := j6) Try.isAgg113 Try.sizeOf113 z3 m4 fun q9 r9 => ?_)))
       refine EL_do .plain rfl (D_storeOc (g := j6) (v := q9) Try.sizeOf113 z3 m4 rfl r9 fun kB lB hs b121 cb => ?_)
       clear cb
       have hfr := hfr.stp hs
       refine EL_at (.int .i64 (2)) rfl rfl ?_
       refine EL_nil (thn_n (E_ret (blk_r ?_)))
       refine thn_r ?_
       obtain rfl := sinj h
       obtain ⟨ad122, cv122, hp122, o8, cr122⟩ := ob_read Try.isAgg113 Try.sizeOf113 b121
       exact endm_ct rfl rfl ((show _ = p3 from z3).trans hp122) o8 (show _ = .int .i64 (2) from rfl) ⟨_, hfr, _, _, rfl, cr122, rfl⟩
      ·refine E_cond_false (Eq.trans (show ev _ _ = .bool (o3) from p4) (congrArg Value.bool i5)) ?_
       exact E_skip (blk_n (thn_n (v8 ((⟨⟨⟨[], 0⟩, []⟩, ⟨0, ⟨0, 0⟩⟩⟩ : LoomStill)) _ _ ⟨j6, hfr, q7, t7, z3, m4, u8_0_118, u8_2_118, a7, c7⟩ h)))
  ·rintro i7 sA mB ⟨l5, hfr, u7, v7, t5, c8, u8_0_123, u8_2_123, d7, e7⟩ h
   refine E_seq (E_region (EL_do .plain rfl (D_loadO (g := l5) Try.isAgg96 Try.sizeOf96 d7 e7 fun l6 e8 => ?_)))
   refine EL_do .plain rfl (D_load (g := l5) Try.isAgg54 Try.sizeOf54 u7 v7 fun v6 i8 => ?_)
   have k8 : RV l5.m _ (⟨y6.1, x3⟩ : LoomStill) (.agg (setCh [[.slice none 0 0, .int .i64 0, .slice none 0 0], [.int .i64 0, .int .i64 0, .int .i64 0]] [(0, l6), (1, v6)]).flatten.toArray) := RV_build rfl (rep_pair (RV.cells e8) (rep_last (RV.cells i8)))
   generalize p8 : (Value.agg (setCh [[.slice none 0 0, .int .i64 0, .slice none 0 0], [.int .i64 0, .int .i64 0, .int .i64 0]] [(0, l6), (1, v6)]).flatten.toArray) = l8 at k8
   refine EL_pur (v := l8) (p8 ▸ P_build (vs := [(0, l6), (1, v6)]) [[.slice none 0 0, .int .i64 0, .slice none 0 0], [.int .i64 0, .int .i64 0, .int .i64 0]] lay_113 rfl rfl (.cons rfl (.cons rfl .nil)) ⟨⟨_, rfl, cells_size e8⟩, ⟨⟨_, rfl, cells_size i8⟩, trivial⟩⟩) .plain rfl ?_
   refine EL_do .plain rfl (D_storeOc (g := l5) (v := l8) Try.sizeOf113 t5 c8 rfl k8 fun nB oB hs b127 cb => ?_)
   clear cb
   have hfr := hfr.stp hs
   refine EL_at (.int .i64 (0)) rfl rfl ?_
   refine EL_nil (thn_n (E_ret ?_))
   obtain rfl := sinj h
   obtain ⟨ad128, cv128, hp128, q8, cr128⟩ := ob_read Try.isAgg113 Try.sizeOf113 b127
   exact endm_ct rfl rfl ((show _ = p3 from t5).trans hp128) q8 (show _ = .int .i64 (0) from rfl) ⟨_, hfr, _, _, rfl, cr128, rfl⟩
def f17 (x0 : LoomMill) (x1 : List LoomOrder) : Option ((List LoomRun) × Int) :=
 (f50 x0 x1).bind fun y4 =>
 jn (σ := (List LoomRun)) (fun d6 =>
  jn (σ := (List LoomRun)) (fun q7 =>
   jn (σ := (List LoomRun)) (fun l6 =>
    some (l6, (0 : Int))
    ) fun e8 =>
   lp (σ := (List LoomRun) × (List (Int × LoomRun)) × Int) (fun g8 (d3, v6, o0) =>
    bif (decide (o0 < ((x1).length : Int))) then
     jn (σ := (List LoomRun) × (List (Int × LoomRun))) (fun (l5, o5) =>
      g8 (l5, o5, (w64 (o0 + (1 : Int))))
      ) fun i8 =>
     jn (σ := (List LoomRun) × (List (Int × LoomRun))) (fun (x6, i3) =>
      (apnd 24 x6 (([((mget i3 o0).getD (⟨0, 0, 0⟩ : LoomRun))] : List LoomRun))).bind fun y137 =>
      i8 (y137, i3)
      ) fun l8 =>
     (f54 (y4.1) o0 v6).bind fun q5 =>
     bif (!q5.1) then
      some ([], (9 : Int))
     else
      l8 (d3, q5.2)
    else
     e8 (d3)
    ) big (q7, ([] : List (Int × LoomRun)), (0 : Int))
   ) fun mA =>
  (f52 (y4.1)).bind fun x5 =>
  (f51 (y4.1) x5 (([] : List (Int × LoomRun)))).bind fun d5 =>
  (f53 (y4.1)).bind fun y6 =>
  (idx d5 y6).bind fun z6 =>
  bif (!z6) then
   some ([], (9 : Int))
  else
   mA (d6)
  ) fun k8 =>
 bif (y4.2 != (0 : Int)) then
  some ([], y4.2)
 else
  k8 ([])
theorem en17 : Enters Try.prog 17 := enters_of Try.func17 (by kernel_rfl) rfl
theorem wk17 {gI : Gh} {wI : World} {x0 : LoomMill} {x1 : List LoomOrder} {up0 : Value} (rp0 : RV gI.m wI x0 up0) {up1 : Value} (rp1 : RV gI.m wI x1 up1) {r : (List LoomRun) × Int} (h : f17 x0 x1 = some r) : Fn Try.prog 17 #[up0, up1] gI wI (fun m w v => ∃ y0 y1, v = .tuple #[y0, y1] ∧ RV m w (r.1) y0 ∧ y1 = .int .i64 (r.2)) := by
 unfold f17 at h
 refine fn_of_E Try.func17 rfl (Nat.le_of_ble_eq_true rfl) fun g0 hm hfr => ?_
 have rp0 : RV g0.m wI x0 up0 := hm ▸ rp0
 have rp1 : RV g0.m wI x1 up1 := hm ▸ rp1
 show E _ 47 none _ _ _ _ _
 refine E_seq (E_region (EL_do .plain rfl (D_box (g := g0) rfl rp0 fun g1 w1 p1 hs q1 => ?_)))
 have hfr := hfr.ext hs
 have rp1 := rp1.ext hs
 refine EL_at (.slice none 0 0) rfl rfl ?_
 refine EL_at (.int .i64 (0)) rfl rfl ?_
 refine EL_nil (thn_n (E_seq (E_region (EL_do .plain rfl (D_load (g := g1) Try.isAgg24 Try.sizeOf24 rfl q1 fun v2 r2 => ?_)))))
 refine EL_mw up1 rfl rfl ?_
 obtain ⟨y4, lB, h⟩ := bsome h
 refine EL_do .plain rfl (D_call (g := g1) (vs := [v2, up1]) en50 (.cons rfl (.cons rfl .nil)) (wk50 r2 rp1 lB) fun g3 w3_ v3 hs hr => ?_)
 have hfr := hfr.ext hs
 have rp1 := rp1.ext hs
 obtain ⟨j7, cC, rfl, m7, rfl⟩ := hr
 refine EL_mw (.tuple #[j7, .int .i64 (y4.2)]) rfl rfl ?_
 refine EL_pur (v := j7) (P_extract rfl rfl) .plain rfl ?_
 refine EL_pur (v := .int .i64 (y4.2)) (P_extract rfl rfl) .plain rfl ?_
 refine EL_do .plain rfl (D_allocOc (g := g3) 2006 (⟨⟨[], 0⟩, []⟩ : LoomLoomMill) Try.zeroValue96 (fun m w => ⟨_, (rep_two (rep_two rep_nil rep_int) rep_nil), rfl⟩) fun g5 w5 p5 hs b5 cb => ?_)
 have hfr := hfr.stp hs
 have rp1 := rp1.stp hs
 have m7 := m7.stp hs
 have dC : OSF 2006 60600 0 g5 w5 3 96 ([] : List Int) p5 := cb.osf (by rfl)
 have eC : OSF 2006 60602 2 g5 w5 82 96 ([] : List LoomOrder) p5 := cb.osf (by rfl)
 clear cb
 refine EL_do .plain rfl (D_storeOc (g := g5) (v := j7) Try.sizeOf96 rfl b5 rfl m7 fun g6 w6 hs b6 cb => ?_)
 clear cb
 have hfr := hfr.stp hs
 have rp1 := rp1.stp hs
 refine EL_at (.int .i64 (y4.2)) rfl rfl ?_
 refine EL_nil (thn_n (E_joinC h (fun (s : (List LoomRun)) e w => ∃ (g : Gh) (v4 : Value), Fr gI wI g w ∧ e 1 = up1 ∧ RV g.m w (x1 : List LoomOrder) up1 ∧ e 4 = v4 ∧ RV g.m w (s : List LoomRun) v4 ∧ OS 1004 g w 76 (s : List LoomRun) v4 ∧ e 6 = p5 ∧ OB 2006 g w 96 (y4.1 : LoomLoomMill) p5) (fun X8 k8 mB h => ?_) ?_))
 ·refine E_seq (E_region (EL_mw (.int .i64 (y4.2)) rfl rfl ?_))
  refine EL_in (.bool ((y4.2 != (0 : Int)))) rfl rfl rfl rfl ?_
  refine EL_nil (thn_n ?_)
  rcases csome h with ⟨m8, h⟩ | ⟨m8, h⟩
  ·refine E_ct m8 rfl ?_
   refine E_seq (E_region (EL_mw (.int .i64 (y4.2)) rfl rfl ?_))
   refine EL_at (.slice none 0 0) rfl rfl ?_
   refine EL_at (.int .i64 (y4.2)) rfl rfl ?_
   refine EL_nil (thn_n (E_ret (thn_r ?_)))
   obtain rfl := sinj h
   exact end2 rfl rfl (show _ = .slice none 0 0 from rfl) (show _ = .int .i64 (y4.2) from rfl) ⟨_, hfr, _, _, rfl, RV_nil, rfl⟩
  ·refine E_cf m8 rfl ?_
   exact E_skip (thn_n (mB ([]) _ _ ⟨g6, (.slice none 0 0), hfr, rfl, rp1, rfl, RV_nil, OS.nil, rfl, b6⟩ h))
 ·rintro d6 iC uC ⟨nB, l9, hfr, n9, o3, o9, u3, z3, i5, u0⟩ h
  refine E_seq (E_region (EL_do .plain rfl (D_makeMap (g := nB) (Value.int .i64) LoomRun 8018 fun oB vC z2 hs m11 => ?_)))
  have hfr := hfr.stp hs
  have o3 := o3.stp hs
  have u3 := u3.stp hs
  have z3 := z3.stp hs rfl
  have u0 := u0.stp hs rfl
  refine EL_at z2 rfl rfl ?_
  refine EL_nil (thn_n (E_joinC h (fun (s : (List LoomRun)) e w => ∃ (g : Gh) (v4 : Value), Fr gI wI g w ∧ e 1 = up1 ∧ RV g.m w (x1 : List LoomOrder) up1 ∧ e 4 = v4 ∧ RV g.m w (s : List LoomRun) v4 ∧ OS 1004 g w 76 (s : List LoomRun) v4 ∧ e 6 = p5 ∧ OB 2006 g w 96 (y4.1 : LoomLoomMill) p5 ∧ e 7 = z2 ∧ MP (Value.int .i64) 8018 g w (([] : List (Int × LoomRun)) : List (Int × LoomRun)) z2) (fun X41 mA qA h => ?_) ?_))
  ·refine E_seq (L_loadO0 (x := .tmp 6) Try.isAgg96 Try.sizeOf96 u0 fun nA pB rA => ?_)
   refine L_loadO0 (x := .tmp 6) Try.isAgg96 Try.sizeOf96 u0 fun oA qB sA => ?_
   obtain ⟨x5, tA, h⟩ := bsome h
   obtain ⟨d5, uA, h⟩ := bsome h
   refine L_loadO0 (x := .tmp 6) Try.isAgg96 Try.sizeOf96 u0 fun pA rB vA => ?_
   obtain ⟨y6, xA, h⟩ := bsome h
   obtain ⟨z6, n7, h⟩ := bsome h
   refine E_drawL (g := oB) (n := 10) [(2, (fun v g w => RV g.m w x5 v)), (4, (fun v g w => RV g.m w d5 v)), (6, (fun v g w => v = .int .i64 (y6))), (8, (fun v _ _ => v = .bool (z6)))] [0, 1, 2, 3, 4, 5, 6, 7, 8, 9] rfl mixed (by kernel_rfl) (⟨fun _ => up_rv, fun _ => up_rv, fun _ => up_eq _, fun _ => up_eq _, trivial⟩) ?_
   refine L_ld (c := nA) rfl rfl .plain (fun _ _ h => ⟨h.ch, fun b hb _ => h.below.block b hb⟩) rA i5 ?_
   refine L_ld (c := oA) rfl rfl .plain (fun _ _ h => ⟨h.ch, fun b hb _ => h.below.block b hb⟩) sA i5 ?_
   refine L_do (φ := fun v g w => RV g.m w x5 v) rfl rfl .plain (fun g w hd => D_call (g := g) (vs := [oA]) en52 (.cons rfl .nil) (wk52 (qB.ext hd.1) tA) fun g' w' v hs hr => ⟨g', hs, hr⟩) (fun n8 hv => ?_)
   obtain ⟨_, _, _, rq44⟩ := hv
   refine L_pur (c := z2) rfl rfl .plain (fun _ _ hd => P_move rfl) ?_
   refine L_do (φ := fun v g w => RV g.m w d5 v) rfl rfl .plain (fun g w hd => D_call (g := g) (vs := [nA, n8, z2]) en51 (.cons rfl (.cons rfl (.cons rfl .nil))) (wk51 (pB.ext hd.1) (word (A := fun g w => RV g.m w x5 n8) 2 rfl rfl (deps_of hd)) (m11.ext hd.1).r uA) fun g' w' v hs hr => ⟨g', hs, hr⟩) (fun a7 hv => ?_)
   obtain ⟨_, _, _, rq46⟩ := hv
   refine L_ld (c := pA) rfl rfl .plain (fun _ _ h => ⟨h.ch, fun b hb _ => h.below.block b hb⟩) vA i5 ?_
   refine L_do (φ := fun v g w => v = .int .i64 (y6)) rfl rfl .plain (fun g w hd => D_call (g := g) (vs := [pA]) en53 (.cons rfl .nil) (wk53 (rB.ext hd.1) xA) fun g' w' v hs hr => ⟨g', hs, hr⟩) (fun xC hv => ?_)
   obtain ⟨_, _, _, rfl⟩ := hv
   refine L_pur (c := ePtr a7 y6 1) rfl rfl .plain (fun _ _ hd => P_indexAddr (α := Bool) Try.underlying101 Try.sizeOf4 rfl (word (A := fun g w => RV g.m w d5 a7) 4 rfl rfl (deps_of hd)) rfl n7) ?_
   refine L_do (φ := (fun v _ _ => v = .bool (z6))) rfl rfl .plain (fun g w hd => D_load (g := g) Try.isAgg4 Try.sizeOf4 rfl (PT_idx (word (A := fun g w => RV g.m w d5 a7) 4 rfl rfl (hop 7 rfl rfl (deps_of hd))) n7) fun v r => ⟨g, Ext.refl g w, RV_bool.1 r⟩) (fun yC hv => ?_)
   obtain ⟨_, _, _, rfl⟩ := hv
   refine L_pur (c := .bool (!z6)) rfl rfl .plain (fun _ _ hd => P_not rfl) ?_
   refine L_nil fun sB zC hall => ?_
   have hs := hall.1
   have hfr := hfr.ext hs
   have o3 := o3.ext hs
   have u3 := u3.ext hs
   have z3 := z3.ext hs
   have u0 := u0.ext hs
   have m11 := m11.ext hs
   have aD := (word_all (A := fun g w => RV g.m w x5 n8) 2 rfl hall)
   have bD := (word_all (A := fun g w => RV g.m w d5 a7) 4 rfl hall)
   have cD := (PT_idx (word_all (A := fun g w => RV g.m w d5 a7) 4 rfl hall) n7)
   clear hs hall
   refine EL_nil (thn_n ?_)
   rcases csome h with ⟨o7, h⟩ | ⟨o7, h⟩
   ·refine E_ct o7 rfl ?_
    refine E_seq (E_region (EL_at (.slice none 0 0) rfl rfl ?_))
    refine EL_at (.int .i64 (9)) rfl rfl ?_
    refine EL_nil (thn_n (E_ret (thn_r ?_)))
    obtain rfl := sinj h
    exact end2 rfl rfl (show _ = .slice none 0 0 from rfl) (show _ = .int .i64 (9) from rfl) ⟨_, hfr, _, _, rfl, RV_nil, rfl⟩
   ·refine E_cf o7 rfl ?_
    exact E_skip (thn_n (qA (d6) _ _ ⟨sB, (l9), hfr, n9, o3, o9, u3, z3, i5, u0, rfl, m11⟩ h))
  ·rintro q7 jC dD ⟨tB, p9, hfr, q9, r9, t9, u9, y9, z9, bA, cA, dA⟩ h
   refine E_joinC h (fun (s : (List LoomRun)) e w => ∃ (g : Gh) (v4 : Value), Fr gI wI g w ∧ e 4 = v4 ∧ RV g.m w (s : List LoomRun) v4 ∧ OS 1004 g w 76 (s : List LoomRun) v4) (fun X105 e8 eA h => ?_) ?_
   ·refine E_seq (E_region (EL_mv q9 rfl ?_))
    refine EL_pur (v := .int .i64 ((x1).length : Int)) (P_len Try.underlying25 rfl r9) .plain rfl ?_
    refine EL_mw (.int .i64 (0)) rfl rfl ?_
    refine EL_nil (thn_n (E_block ?_))
    refine E_lp h (fun (s : (List LoomRun) × (List (Int × LoomRun)) × Int) e w => ∃ (g : Gh) (v4 : Value), Fr gI wI g w ∧ e 4 = v4 ∧ RV g.m w (s.1 : List LoomRun) v4 ∧ OS 1004 g w 76 (s.1 : List LoomRun) v4 ∧ e 6 = p5 ∧ OB 2006 g w 96 (y4.1 : LoomLoomMill) p5 ∧ e 7 = z2 ∧ MP (Value.int .i64) 8018 g w (s.2.1 : List (Int × LoomRun)) z2 ∧ e 30 = .int .i64 (((x1).length : Int)) ∧ e 31 = .int .i64 (s.2.2)) ⟨tB, (p9), hfr, t9, u9, y9, z9, bA, cA, dA, rfl, rfl⟩ (fun X106 g8 gA => ?_)
    rintro ⟨d3, v6, o0⟩ xB kC ⟨p7, b7, hfr, c7, d4, m4, d7, p4, e7, o8, c6, z4⟩ h
    refine E_seq (E_region (EL_in (.bool ((decide (o0 < ((x1).length : Int))))) z4 c6 rfl rfl ?_))
    refine EL_nil (thn_n (E_seq ?_))
    rcases csome h with ⟨i6, h⟩ | ⟨i6, h⟩
    ·refine E_ct i6 rfl ?_
     refine E_skip (thn_n (E_joinC h (fun (s : (List LoomRun) × (List (Int × LoomRun))) e w => ∃ (g : Gh) (v4 : Value), Fr gI wI g w ∧ e 4 = v4 ∧ RV g.m w (s.1 : List LoomRun) v4 ∧ OS 1004 g w 76 (s.1 : List LoomRun) v4 ∧ e 6 = p5 ∧ OB 2006 g w 96 (y4.1 : LoomLoomMill) p5 ∧ e 7 = z2 ∧ MP (Value.int .i64) 8018 g w (s.2 : List (Int × LoomRun)) z2 ∧ e 30 = .int .i64 (((x1).length : Int)) ∧ e 31 = .int .i64 (o0)) (fun X123 i8 iA h => ?_) ?_))
     ·refine E_block ?_
      refine E_seq (E_region (EL_mv z4 rfl ?_))
      refine EL_at (.int .i64 (o0)) rfl rfl ?_
      refine EL_nil (thn_n (E_joinC h (fun (s : (List LoomRun) × (List (Int × LoomRun))) e w => ∃ (g : Gh) (v4 : Value), Fr gI wI g w ∧ e 4 = v4 ∧ RV g.m w (s.1 : List LoomRun) v4 ∧ OS 1004 g w 76 (s.1 : List LoomRun) v4 ∧ e 6 = p5 ∧ OB 2006 g w 96 (y4.1 : LoomLoomMill) p5 ∧ e 7 = z2 ∧ MP (Value.int .i64) 8018 g w (s.2 : List (Int × LoomRun)) z2 ∧ e 8 = .int .i64 (o0) ∧ e 30 = .int .i64 (((x1).length : Int)) ∧ e 31 = .int .i64 (o0)) (fun X128 l8 jA h => ?_) ?_))
      ·refine E_seq (E_region (EL_do .plain rfl (D_loadO (g := p7) Try.isAgg96 Try.sizeOf96 d7 p4 fun yA zA => ?_)))
       refine EL_mw (.int .i64 (o0)) rfl rfl ?_
       refine EL_mv e7 rfl ?_
       obtain ⟨q5, kA, h⟩ := bsome h
       refine EL_do .plain rfl (D_callM (g := p7) (i := 8018) (vs := [yA, .int .i64 (o0), z2]) en54 (.cons rfl (.cons rfl (.cons rfl .nil))) (wk54 zA o8 kA) fun aB yB lC hs hr => ?_)
       obtain ⟨hrv, b130⟩ := hr
       have hfr := hfr.stp hs
       have d4 := d4.stp hs
       have m4 := m4.stp hs rfl
       have p4 := p4.stp hs rfl
       subst hrv
       refine EL_pur (v := .bool (!q5.1)) (P_not rfl) .plain rfl ?_
       refine EL_nil (thn_n ?_)
       rcases csome h with ⟨j6, h⟩ | ⟨j6, h⟩
       ·refine E_ct j6 rfl ?_
        refine E_seq (E_region (EL_at (.slice none 0 0) rfl rfl ?_))
        refine EL_at (.int .i64 (9)) rfl rfl ?_
        refine EL_nil (thn_n (E_ret (thn_r ?_)))
        refine blk_r ?_
        refine thn_r ?_
        refine thn_r ?_
        refine blk_r ?_
        refine thn_r ?_
        obtain rfl := sinj h
        exact end2 rfl rfl (show _ = .slice none 0 0 from rfl) (show _ = .int .i64 (9) from rfl) ⟨_, hfr, _, _, rfl, RV_nil, rfl⟩
       ·refine E_cf j6 rfl ?_
        exact E_skip (thn_n (jA (d3, q5.2) _ _ ⟨aB, (b7), hfr, c7, d4, m4, d7, p4, e7, b130, rfl, c6, z4⟩ h))
      ·rintro ⟨x6, i3⟩ zB mC ⟨p8, uB, hfr, q8, t5, u5, r8, j3, g7, j1, t8, t7, u7⟩ h
       refine E_region (EL_mv q8 rfl ?_)
       refine EL_mv g7 rfl ?_
       refine EL_mv t8 rfl ?_
       refine EL_do .plain rfl (D_lookup (g := p8) (z0 := (⟨0, 0, 0⟩ : LoomRun)) Try.underlying100 key_3 Try.zeroValue76 (fun m w => ⟨_, (rep_two rep_int (rep_two rep_int rep_int)), rfl⟩) rfl j1 rfl fun bB cB => ?_)
       refine EL_do .plain rfl (D_buildSlice (g := p8) 3043 (xs := ([((mget i3 o0).getD (⟨0, 0, 0⟩ : LoomRun))] : List LoomRun)) (vs := [bB]) Try.underlying31 Try.sizeOf76 Try.zeroValue76 rfl rfl (.cons rfl .nil) (RVs.cons cB RVs.nil) rfl rfl fun dB nC oC hs o135 eB hxt hfl => ?_)
       have hfr := hfr.stp hs
       have t5 := t5.stp hs
       have u5 := u5.stp hs rfl
       have j3 := j3.stp hs rfl
       have j1 := j1.stp hs rfl
       obtain ⟨y137, lA, h⟩ := bsome h
       refine EL_do .plain rfl (D_append (g := dB) (i := 1004) Try.underlying31 info_76 rfl rfl u5 t5 rfl eB lA fun iB qC v8 hs o136 jB _ => ?_)
       have hfr := hfr.stp hs
       have j3 := j3.stp hs rfl
       have j1 := j1.stp hs rfl
       refine EL_at v8 rfl rfl ?_
       exact EL_nil (blk_n (thn_n (iA (y137, i3) _ _ ⟨iB, (v8), hfr, rfl, jB, o136, r8, j3, g7, j1, t7, u7⟩ h)))
     ·rintro ⟨l5, o5⟩ aC rC ⟨kB, x8, hfr, y8, z8, a9, d9, e9, g9, i9, v7, c8⟩ h
      refine E_region (EL_in (.int .i64 ((w64 (o0 + (1 : Int))))) c8 rfl rfl rfl ?_)
      refine EL_mw (.int .i64 ((w64 (o0 + (1 : Int))))) rfl rfl ?_
      exact EL_nil (thn_n (gA (l5, o5, (w64 (o0 + (1 : Int)))) _ _ ⟨kB, (x8), hfr, y8, z8, a9, d9, e9, g9, i9, v7, rfl⟩ h))
    ·refine E_cf i6 rfl ?_
     refine E_exit ?_
     refine thn_e ?_
     refine thn_e ?_
     refine blk_hit ?_
     exact thn_n (eA (d3) _ _ ⟨p7, (b7), hfr, c7, d4, m4⟩ h)
   ·rintro l6 bC sC ⟨tC, i7, hfr, j9, k9, vB⟩ h
    refine E_seq (E_region (EL_mv j9 rfl ?_))
    refine EL_at i7 rfl rfl ?_
    refine EL_at (.int .i64 (0)) rfl rfl ?_
    refine EL_nil (thn_n (E_ret ?_))
    obtain rfl := sinj h
    exact end2 rfl rfl (show _ = i7 from rfl) (show _ = .int .i64 (0) from rfl) ⟨_, hfr, _, _, rfl, k9, rfl⟩
def f23 (x0 : LoomMill) (x1 : List LoomOrder) : Option ((List Int) × Int) :=
 (f50 x0 x1).bind fun y4 =>
 jn (σ := Unit) (fun (_ : Unit) =>
  (f52 (y4.1)).bind fun z2 =>
  (f51 (y4.1) z2 ([])).bind fun d3 =>
  (f55 (((x1).length : Int)) ((fun a0 => f56 a0 d3))).bind fun j1 =>
  jn (σ := Unit) (fun (_ : Unit) =>
   some (j1.1, (0 : Int))
   ) fun o5 =>
  bif (!j1.2) then
   some ([], (7 : Int))
  else
   o5 ()
  ) fun k8 =>
 bif (y4.2 != (0 : Int)) then
  some ([], y4.2)
 else
  k8 ()
theorem en23 : Enters Try.prog 23 := enters_of Try.func23 (by kernel_rfl) rfl
theorem wk23 {gI : Gh} {wI : World} {x0 : LoomMill} {x1 : List LoomOrder} {up0 : Value} (rp0 : RV gI.m wI x0 up0) {up1 : Value} (rp1 : RV gI.m wI x1 up1) {r : (List Int) × Int} (h : f23 x0 x1 = some r) : Fn Try.prog 23 #[up0, up1] gI wI (fun m w v => ∃ y0 y1, v = .tuple #[y0, y1] ∧ RV m w (r.1) y0 ∧ y1 = .int .i64 (r.2)) := by
 unfold f23 at h
 refine fn_of_E Try.func23 rfl (Nat.le_of_ble_eq_true rfl) fun g0 hm hfr => ?_
 have rp0 : RV g0.m wI x0 up0 := hm ▸ rp0
 have rp1 : RV g0.m wI x1 up1 := hm ▸ rp1
 show E _ 34 none _ _ _ _ _
 refine E_seq (E_region (EL_do .plain rfl (D_box (g := g0) rfl rp0 fun g1 w1 p1 hs q1 => ?_)))
 have hfr := hfr.ext hs
 have rp1 := rp1.ext hs
 refine EL_at (.slice none 0 0) rfl rfl ?_
 refine EL_at (.int .i64 (0)) rfl rfl ?_
 refine EL_nil (thn_n (E_seq (E_region (EL_do .plain rfl (D_load (g := g1) Try.isAgg24 Try.sizeOf24 rfl q1 fun v2 r2 => ?_)))))
 refine EL_mw up1 rfl rfl ?_
 obtain ⟨y4, l6, h⟩ := bsome h
 refine EL_do .plain rfl (D_call (g := g1) (vs := [v2, up1]) en50 (.cons rfl (.cons rfl .nil)) (wk50 r2 rp1 l6) fun g3 w3_ v3 hs hr => ?_)
 have hfr := hfr.ext hs
 have rp1 := rp1.ext hs
 obtain ⟨j3, e7, rfl, o3, rfl⟩ := hr
 refine EL_mw (.tuple #[j3, .int .i64 (y4.2)]) rfl rfl ?_
 refine EL_pur (v := j3) (P_extract rfl rfl) .plain rfl ?_
 refine EL_pur (v := .int .i64 (y4.2)) (P_extract rfl rfl) .plain rfl ?_
 refine EL_do .plain rfl (D_allocOc (g := g3) 2006 (⟨⟨[], 0⟩, []⟩ : LoomLoomMill) Try.zeroValue96 (fun m w => ⟨_, (rep_two (rep_two rep_nil rep_int) rep_nil), rfl⟩) fun g5 w5 p5 hs b5 cb => ?_)
 have hfr := hfr.stp hs
 have rp1 := rp1.stp hs
 have o3 := o3.stp hs
 have g7 : OSF 2006 60600 0 g5 w5 3 96 ([] : List Int) p5 := cb.osf (by rfl)
 have i7 : OSF 2006 60602 2 g5 w5 82 96 ([] : List LoomOrder) p5 := cb.osf (by rfl)
 clear cb
 refine EL_do .plain rfl (D_storeOc (g := g5) (v := j3) Try.sizeOf96 rfl b5 rfl o3 fun g6 w6 hs b6 cb => ?_)
 clear cb
 have hfr := hfr.stp hs
 have rp1 := rp1.stp hs
 refine EL_at (.int .i64 (y4.2)) rfl rfl ?_
 refine EL_nil (thn_n (E_joinC h (fun (s : Unit) e w => ∃ (g : Gh) , Fr gI wI g w ∧ e 1 = up1 ∧ RV g.m w (x1 : List LoomOrder) up1 ∧ e 6 = p5 ∧ OB 2006 g w 96 (y4.1 : LoomLoomMill) p5) (fun X8 k8 v6 h => ?_) ?_))
 ·refine E_seq (E_region (EL_mw (.int .i64 (y4.2)) rfl rfl ?_))
  refine EL_in (.bool ((y4.2 != (0 : Int)))) rfl rfl rfl rfl ?_
  refine EL_nil (thn_n ?_)
  rcases csome h with ⟨m4, h⟩ | ⟨m4, h⟩
  ·refine E_ct m4 rfl ?_
   refine E_seq (E_region (EL_mw (.int .i64 (y4.2)) rfl rfl ?_))
   refine EL_at (.slice none 0 0) rfl rfl ?_
   refine EL_at (.int .i64 (y4.2)) rfl rfl ?_
   refine EL_nil (thn_n (E_ret (thn_r ?_)))
   obtain rfl := sinj h
   exact end2 rfl rfl (show _ = .slice none 0 0 from rfl) (show _ = .int .i64 (y4.2) from rfl) ⟨_, hfr, _, _, rfl, RV_nil, rfl⟩
  ·refine E_cf m4 rfl ?_
   exact E_skip (thn_n (v6 () _ _ ⟨g6, hfr, rfl, rp1, rfl, b6⟩ h))
 ·rintro _ j7 o7 ⟨x6, hfr, z4, o0, z3, d4⟩ h
  refine E_seq (L_loadO0 (x := .tmp 6) Try.isAgg96 Try.sizeOf96 d4 fun q5 y6 x5 => ?_)
  refine L_loadO0 (x := .tmp 6) Try.isAgg96 Try.sizeOf96 d4 fun t5 z6 hl12 => ?_
  obtain ⟨z2, c6, h⟩ := bsome h
  obtain ⟨d3, d6, h⟩ := bsome h
  refine E_drawL (g := x6) (n := 5) [(2, (fun v g w => RV g.m w z2 v)), (3, (fun v g w => RV g.m w d3 v)), (4, (fun v g w => OB 2008 g w 101 ([] : List Bool) v))] [0, 1, 2, 3, 4] rfl mixed (by kernel_rfl) (⟨fun _ => up_rv, fun _ => up_rv, fun _ => up_ob, trivial⟩) ?_
  refine L_ld (c := q5) rfl rfl .plain (fun _ _ h => ⟨h.ch, fun b hb _ => h.below.block b hb⟩) x5 z3 ?_
  refine L_ld (c := t5) rfl rfl .plain (fun _ _ h => ⟨h.ch, fun b hb _ => h.below.block b hb⟩) hl12 z3 ?_
  refine L_do (φ := fun v g w => RV g.m w z2 v) rfl rfl .plain (fun g w hd => D_call (g := g) (vs := [t5]) en52 (.cons rfl .nil) (wk52 (z6.ext hd.1) c6) fun g' w' v hs hr => ⟨g', hs, hr⟩) (fun p4 hv => ?_)
  obtain ⟨_, _, _, rq13⟩ := hv
  refine L_do (φ := fun v g w => RV g.m w d3 v) rfl rfl .plain (fun g w hd => D_call (g := g) (vs := [q5, p4, .map none]) en51 (.cons rfl (.cons rfl (.cons rfl .nil))) (wk51 (y6.ext hd.1) (word (A := fun g w => RV g.m w z2 p4) 2 rfl rfl (deps_of hd)) MR.nil d6) fun g' w' v hs hr => ⟨g', hs, hr⟩) (fun u5 hv => ?_)
  obtain ⟨_, _, _, rq15⟩ := hv
  refine L_do (φ := fun v g w => OB 2008 g w 101 ([] : List Bool) v) rfl rfl .plain (fun g w hd => D_allocX (g := g) 2008 ([] : List Bool) Try.zeroValue101 (fun m w => ⟨_, rep_nil, rfl⟩) fun g' w' v hs b => ⟨g', hs, b⟩) (fun i3 hv => ?_)
  clear hv
  refine L_nil fun a7 p7 hall => ?_
  have hs := hall.1
  have hfr := hfr.ext hs
  have o0 := o0.ext hs
  have q7 := (word_all (A := fun g w => RV g.m w z2 p4) 2 rfl hall)
  have b7 := (word_all (A := fun g w => RV g.m w d3 u5) 3 rfl hall)
  have b25 := (word_all (A := fun g w => OB 2008 g w 101 ([] : List Bool) i3) 4 rfl hall)
  clear hs hall
  refine EL_do .plain rfl (D_storeOc (g := a7) (v := u5) Try.sizeOf101 rfl b25 rfl b7 fun t7 u7 hs b26 cb => ?_)
  clear cb
  have hfr := hfr.stp hs
  have o0 := o0.stp hs
  obtain ⟨gp26, hs, qp26⟩ := OB.pub b26
  have hfr := hfr.stp hs
  have o0 := o0.stp hs
  refine EL_nil (thn_n (E_seq (E_region (EL_mv z4 rfl ?_))))
  refine EL_pur (v := .int .i64 ((x1).length : Int)) (P_len Try.underlying25 rfl o0) .plain rfl ?_
  refine EL_pur (v := (.func (.func 56) #[] #[i3])) (P_makeFunc (capf_0_1 (show ev _ _ = i3 from rfl))) .plain rfl ?_
  obtain ⟨j1, i6, h⟩ := bsome h
  refine EL_do .plain rfl (D_call (g := gp26) (vs := [.int .i64 ((x1).length : Int), (.func (.func 56) #[] #[i3])]) en55 (.cons rfl (.cons rfl .nil)) (wk55 ⟨56, #[], #[i3], rfl, en56, fun g' w' hch a0 b0 r hu0 hr => by obtain rfl := RV_int.1 hu0; exact Fn.mono (wk56  (qp26.ch hch) hr) fun _ _ _ h => RV_bool.2 h⟩ i6) fun c7 m7 v7 hs hr => ?_)
  have hfr := hfr.ext hs
  obtain ⟨u0, d7, rfl, d5, rfl⟩ := hr
  refine EL_mw (.tuple #[u0, .bool (j1.2)]) rfl rfl ?_
  refine EL_pur (v := u0) (P_extract rfl rfl) .plain rfl ?_
  refine EL_pur (v := .bool (j1.2)) (P_extract rfl rfl) .plain rfl ?_
  refine EL_at u0 rfl rfl ?_
  refine EL_at (.bool (j1.2)) rfl rfl ?_
  refine EL_nil (thn_n (E_joinC h (fun (s : Unit) e w => ∃ (g : Gh) , Fr gI wI g w ∧ e 9 = u0 ∧ RV g.m w (j1.1 : List Int) u0) (fun X30 o5 j6 h => ?_) ?_))
  ·refine E_seq (E_region (EL_mw (.bool (j1.2)) rfl rfl ?_))
   refine EL_pur (v := .bool (!j1.2)) (P_not rfl) .plain rfl ?_
   refine EL_nil (thn_n ?_)
   rcases csome h with ⟨u3, h⟩ | ⟨u3, h⟩
   ·refine E_ct u3 rfl ?_
    refine E_seq (E_region (EL_at (.slice none 0 0) rfl rfl ?_))
    refine EL_at (.int .i64 (7)) rfl rfl ?_
    refine EL_nil (thn_n (E_ret (thn_r ?_)))
    obtain rfl := sinj h
    exact end2 rfl rfl (show _ = .slice none 0 0 from rfl) (show _ = .int .i64 (7) from rfl) ⟨_, hfr, _, _, rfl, RV_nil, rfl⟩
   ·refine E_cf u3 rfl ?_
    exact E_skip (thn_n (j6 () _ _ ⟨c7, hfr, rfl, d5⟩ h))
  ·rintro _ n7 c8 ⟨e8, hfr, i5, l5⟩ h
   refine E_seq (E_region (EL_mv i5 rfl ?_))
   refine EL_at u0 rfl rfl ?_
   refine EL_at (.int .i64 (0)) rfl rfl ?_
   refine EL_nil (thn_n (E_ret ?_))
   obtain rfl := sinj h
   exact end2 rfl rfl (show _ = u0 from rfl) (show _ = .int .i64 (0) from rfl) ⟨_, hfr, _, _, rfl, l5, rfl⟩
def f24 (x0 : LoomMill) (x1 : List LoomOrder) : Option ((List Int) × Int) :=
 (f50 x0 x1).bind fun y4 =>
 jn (σ := Unit) (fun (_ : Unit) =>
  (f52 (y4.1)).bind fun z2 =>
  (f51 (y4.1) z2 ([])).bind fun i3 =>
  (f55 (((x1).length : Int)) ((fun a0 => f57 a0 i3 (y4.1)))).bind fun j3 =>
  some (j3.1, (0 : Int))
  ) fun k8 =>
 bif (y4.2 != (0 : Int)) then
  some ([], y4.2)
 else
  k8 ()
theorem en24 : Enters Try.prog 24 := enters_of Try.func24 (by kernel_rfl) rfl
theorem wk24 {gI : Gh} {wI : World} {x0 : LoomMill} {x1 : List LoomOrder} {up0 : Value} (rp0 : RV gI.m wI x0 up0) {up1 : Value} (rp1 : RV gI.m wI x1 up1) {r : (List Int) × Int} (h : f24 x0 x1 = some r) : Fn Try.prog 24 #[up0, up1] gI wI (fun m w v => ∃ y0 y1, v = .tuple #[y0, y1] ∧ RV m w (r.1) y0 ∧ y1 = .int .i64 (r.2)) := by
 unfold f24 at h
 refine fn_of_E Try.func24 rfl (Nat.le_of_ble_eq_true rfl) fun g0 hm hfr => ?_
 have rp0 : RV g0.m wI x0 up0 := hm ▸ rp0
 have rp1 : RV g0.m wI x1 up1 := hm ▸ rp1
 show E _ 32 none _ _ _ _ _
 refine E_seq (E_region (EL_do .plain rfl (D_box (g := g0) rfl rp0 fun g1 w1 p1 hs q1 => ?_)))
 have hfr := hfr.ext hs
 have rp1 := rp1.ext hs
 refine EL_at (.slice none 0 0) rfl rfl ?_
 refine EL_at (.int .i64 (0)) rfl rfl ?_
 refine EL_nil (thn_n (E_seq (E_region (EL_do .plain rfl (D_load (g := g1) Try.isAgg24 Try.sizeOf24 rfl q1 fun v2 r2 => ?_)))))
 refine EL_mw up1 rfl rfl ?_
 obtain ⟨y4, x5, h⟩ := bsome h
 refine EL_do .plain rfl (D_call (g := g1) (vs := [v2, up1]) en50 (.cons rfl (.cons rfl .nil)) (wk50 r2 rp1 x5) fun g3 w3_ v3 hs hr => ?_)
 have hfr := hfr.ext hs
 have rp1 := rp1.ext hs
 obtain ⟨u3, y6, rfl, z3, rfl⟩ := hr
 refine EL_mw (.tuple #[u3, .int .i64 (y4.2)]) rfl rfl ?_
 refine EL_pur (v := u3) (P_extract rfl rfl) .plain rfl ?_
 refine EL_pur (v := .int .i64 (y4.2)) (P_extract rfl rfl) .plain rfl ?_
 refine EL_do .plain rfl (D_allocOc (g := g3) 2006 (⟨⟨[], 0⟩, []⟩ : LoomLoomMill) Try.zeroValue96 (fun m w => ⟨_, (rep_two (rep_two rep_nil rep_int) rep_nil), rfl⟩) fun g5 w5 p5 hs b5 cb => ?_)
 have hfr := hfr.stp hs
 have rp1 := rp1.stp hs
 have z3 := z3.stp hs
 have z6 : OSF 2006 60600 0 g5 w5 3 96 ([] : List Int) p5 := cb.osf (by rfl)
 have a7 : OSF 2006 60602 2 g5 w5 82 96 ([] : List LoomOrder) p5 := cb.osf (by rfl)
 clear cb
 refine EL_do .plain rfl (D_storeOc (g := g5) (v := u3) Try.sizeOf96 rfl b5 rfl z3 fun g6 w6 hs b6 cb => ?_)
 clear cb
 have hfr := hfr.stp hs
 have rp1 := rp1.stp hs
 obtain ⟨gp6, hs, qp6⟩ := OB.pub b6
 have hfr := hfr.stp hs
 have rp1 := rp1.stp hs
 refine EL_at (.int .i64 (y4.2)) rfl rfl ?_
 refine EL_nil (thn_n (E_joinC h (fun (s : Unit) e w => ∃ (g : Gh) , Fr gI wI g w ∧ e 1 = up1 ∧ RV g.m w (x1 : List LoomOrder) up1 ∧ e 6 = p5 ∧ PT g.m w (y4.1 : LoomLoomMill) p5) (fun X8 k8 c6 h => ?_) ?_))
 ·refine E_seq (E_region (EL_mw (.int .i64 (y4.2)) rfl rfl ?_))
  refine EL_in (.bool ((y4.2 != (0 : Int)))) rfl rfl rfl rfl ?_
  refine EL_nil (thn_n ?_)
  rcases csome h with ⟨d4, h⟩ | ⟨d4, h⟩
  ·refine E_ct d4 rfl ?_
   refine E_seq (E_region (EL_mw (.int .i64 (y4.2)) rfl rfl ?_))
   refine EL_at (.slice none 0 0) rfl rfl ?_
   refine EL_at (.int .i64 (y4.2)) rfl rfl ?_
   refine EL_nil (thn_n (E_ret (thn_r ?_)))
   obtain rfl := sinj h
   exact end2 rfl rfl (show _ = .slice none 0 0 from rfl) (show _ = .int .i64 (y4.2) from rfl) ⟨_, hfr, _, _, rfl, RV_nil, rfl⟩
  ·refine E_cf d4 rfl ?_
   exact E_skip (thn_n (c6 () _ _ ⟨gp6, hfr, rfl, rp1, rfl, qp6⟩ h))
 ·rintro _ b7 d7 ⟨d6, hfr, p4, u0, d3, o0⟩ h
  refine E_seq (L_load (x := .tmp 6) Try.isAgg96 Try.sizeOf96 o0 fun d5 i6 o5 => ?_)
  refine L_load (x := .tmp 6) Try.isAgg96 Try.sizeOf96 o0 fun i5 j6 hl12 => ?_
  obtain ⟨z2, q5, h⟩ := bsome h
  obtain ⟨i3, t5, h⟩ := bsome h
  refine E_drawL (g := d6) (n := 5) [(2, (fun v g w => RV g.m w z2 v)), (3, (fun v g w => RV g.m w i3 v)), (4, (fun v g w => OB 2008 g w 101 ([] : List Bool) v))] [0, 1, 2, 3, 4] rfl mixed (by kernel_rfl) (⟨fun _ => up_rv, fun _ => up_rv, fun _ => up_ob, trivial⟩) ?_
  refine L_ld (c := d5) rfl rfl .plain (fun _ _ h => h.ch) o5 d3 ?_
  refine L_ld (c := i5) rfl rfl .plain (fun _ _ h => h.ch) hl12 d3 ?_
  refine L_do (φ := fun v g w => RV g.m w z2 v) rfl rfl .plain (fun g w hd => D_call (g := g) (vs := [i5]) en52 (.cons rfl .nil) (wk52 (j6.ext hd.1) q5) fun g' w' v hs hr => ⟨g', hs, hr⟩) (fun m4 hv => ?_)
  obtain ⟨_, _, _, rq13⟩ := hv
  refine L_do (φ := fun v g w => RV g.m w i3 v) rfl rfl .plain (fun g w hd => D_call (g := g) (vs := [d5, m4, .map none]) en51 (.cons rfl (.cons rfl (.cons rfl .nil))) (wk51 (i6.ext hd.1) (word (A := fun g w => RV g.m w z2 m4) 2 rfl rfl (deps_of hd)) MR.nil t5) fun g' w' v hs hr => ⟨g', hs, hr⟩) (fun l5 hv => ?_)
  obtain ⟨_, _, _, rq15⟩ := hv
  refine L_do (φ := fun v g w => OB 2008 g w 101 ([] : List Bool) v) rfl rfl .plain (fun g w hd => D_allocX (g := g) 2008 ([] : List Bool) Try.zeroValue101 (fun m w => ⟨_, rep_nil, rfl⟩) fun g' w' v hs b => ⟨g', hs, b⟩) (fun o3 hv => ?_)
  clear hv
  refine L_nil fun l6 e7 hall => ?_
  have hs := hall.1
  have hfr := hfr.ext hs
  have u0 := u0.ext hs
  have o0 := o0.ext hs
  have g7 := (word_all (A := fun g w => RV g.m w z2 m4) 2 rfl hall)
  have v6 := (word_all (A := fun g w => RV g.m w i3 l5) 3 rfl hall)
  have b25 := (word_all (A := fun g w => OB 2008 g w 101 ([] : List Bool) o3) 4 rfl hall)
  clear hs hall
  refine EL_do .plain rfl (D_storeOc (g := l6) (v := l5) Try.sizeOf101 rfl b25 rfl v6 fun i7 j7 hs b26 cb => ?_)
  clear cb
  have hfr := hfr.stp hs
  have u0 := u0.stp hs
  have o0 := o0.stp hs
  obtain ⟨gp26, hs, qp26⟩ := OB.pub b26
  have hfr := hfr.stp hs
  have u0 := u0.stp hs
  have o0 := o0.stp hs
  refine EL_nil (thn_n (E_seq (E_region (EL_mv p4 rfl ?_))))
  refine EL_pur (v := .int .i64 ((x1).length : Int)) (P_len Try.underlying25 rfl u0) .plain rfl ?_
  refine EL_pur (v := (.func (.func 57) #[] #[o3, p5])) (P_makeFunc (capf_0_2 (show ev _ _ = o3 from rfl) (show ev _ _ = p5 from d3))) .plain rfl ?_
  obtain ⟨j3, u5, h⟩ := bsome h
  refine EL_do .plain rfl (D_call (g := gp26) (vs := [.int .i64 ((x1).length : Int), (.func (.func 57) #[] #[o3, p5])]) en55 (.cons rfl (.cons rfl .nil)) (wk55 ⟨57, #[], #[o3, p5], rfl, en57, fun g' w' hch a0 b0 r hu0 hr => by obtain rfl := RV_int.1 hu0; exact Fn.mono (wk57  (qp26.ch hch) (o0.ch hch) hr) fun _ _ _ h => RV_bool.2 h⟩ u5) fun m7 c7 n7 hs hr => ?_)
  have hfr := hfr.ext hs
  obtain ⟨j1, x6, rfl, z4, rfl⟩ := hr
  refine EL_mw (.tuple #[j1, .bool (j3.2)]) rfl rfl ?_
  refine EL_pur (v := j1) (P_extract rfl rfl) .plain rfl ?_
  refine EL_pur (v := .bool (j3.2)) (P_extract rfl rfl) .plain rfl ?_
  refine EL_at j1 rfl rfl ?_
  refine EL_at (.bool (j3.2)) rfl rfl ?_
  refine EL_nil (thn_n (E_seq (E_region (EL_mw j1 rfl rfl ?_))))
  refine EL_at j1 rfl rfl ?_
  refine EL_at (.int .i64 (0)) rfl rfl ?_
  refine EL_nil (thn_n (E_ret ?_))
  obtain rfl := sinj h
  exact end2 rfl rfl (show _ = j1 from rfl) (show _ = .int .i64 (0) from rfl) ⟨_, hfr, _, _, rfl, z4, rfl⟩
def f25 (x0 : LoomMill) (x1 : List LoomOrder) : Option ((List Int) × Int) :=
 (f50 x0 x1).bind fun y4 =>
 jn (σ := Unit) (fun (_ : Unit) =>
  (f55 ((((x0).Widths).length : Int)) ((fun a0 => f58 a0 (y4.1)))).bind fun u0 =>
  jn (σ := Unit) (fun (_ : Unit) =>
   some (u0.1, (0 : Int))
   ) fun z4 =>
  bif (!u0.2) then
   some ([], (9 : Int))
  else
   z4 ()
  ) fun k8 =>
 bif (y4.2 != (0 : Int)) then
  some ([], y4.2)
 else
  k8 ()
theorem en25 : Enters Try.prog 25 := enters_of Try.func25 (by kernel_rfl) rfl
theorem wk25 {gI : Gh} {wI : World} {x0 : LoomMill} {x1 : List LoomOrder} {up0 : Value} (rp0 : RV gI.m wI x0 up0) {up1 : Value} (rp1 : RV gI.m wI x1 up1) {r : (List Int) × Int} (h : f25 x0 x1 = some r) : Fn Try.prog 25 #[up0, up1] gI wI (fun m w v => ∃ y0 y1, v = .tuple #[y0, y1] ∧ RV m w (r.1) y0 ∧ y1 = .int .i64 (r.2)) := by
 unfold f25 at h
 refine fn_of_E Try.func25 rfl (Nat.le_of_ble_eq_true rfl) fun g0 hm hfr => ?_
 have rp0 : RV g0.m wI x0 up0 := hm ▸ rp0
 have rp1 : RV g0.m wI x1 up1 := hm ▸ rp1
 show E _ 30 none _ _ _ _ _
 refine E_seq (E_region (EL_do .plain rfl (D_box (g := g0) rfl rp0 fun g1 w1 p1 hs q1 => ?_)))
 have hfr := hfr.ext hs
 have rp1 := rp1.ext hs
 refine EL_at (.slice none 0 0) rfl rfl ?_
 refine EL_at (.int .i64 (0)) rfl rfl ?_
 refine EL_nil (thn_n (E_seq (E_region (EL_do .plain rfl (D_load (g := g1) Try.isAgg24 Try.sizeOf24 rfl q1 fun v2 r2 => ?_)))))
 refine EL_mw up1 rfl rfl ?_
 obtain ⟨y4, o5, h⟩ := bsome h
 refine EL_do .plain rfl (D_call (g := g1) (vs := [v2, up1]) en50 (.cons rfl (.cons rfl .nil)) (wk50 r2 rp1 o5) fun g3 w3_ v3 hs hr => ?_)
 have hfr := hfr.ext hs
 have q1 := q1.ext hs
 obtain ⟨j1, d6, rfl, z2, rfl⟩ := hr
 refine EL_mw (.tuple #[j1, .int .i64 (y4.2)]) rfl rfl ?_
 refine EL_pur (v := j1) (P_extract rfl rfl) .plain rfl ?_
 refine EL_pur (v := .int .i64 (y4.2)) (P_extract rfl rfl) .plain rfl ?_
 refine EL_do .plain rfl (D_allocOc (g := g3) 2006 (⟨⟨[], 0⟩, []⟩ : LoomLoomMill) Try.zeroValue96 (fun m w => ⟨_, (rep_two (rep_two rep_nil rep_int) rep_nil), rfl⟩) fun g5 w5 p5 hs b5 cb => ?_)
 have hfr := hfr.stp hs
 have q1 := q1.stp hs
 have z2 := z2.stp hs
 have i6 : OSF 2006 60600 0 g5 w5 3 96 ([] : List Int) p5 := cb.osf (by rfl)
 have j6 : OSF 2006 60602 2 g5 w5 82 96 ([] : List LoomOrder) p5 := cb.osf (by rfl)
 clear cb
 refine EL_do .plain rfl (D_storeOc (g := g5) (v := j1) Try.sizeOf96 rfl b5 rfl z2 fun g6 w6 hs b6 cb => ?_)
 clear cb
 have hfr := hfr.stp hs
 have q1 := q1.stp hs
 obtain ⟨gp6, hs, qp6⟩ := OB.pub b6
 have hfr := hfr.stp hs
 have q1 := q1.stp hs
 refine EL_at (.int .i64 (y4.2)) rfl rfl ?_
 refine EL_nil (thn_n (E_joinC h (fun (s : Unit) e w => ∃ (g : Gh) , Fr gI wI g w ∧ e 2 = p1 ∧ PT g.m w (x0 : LoomMill) p1 ∧ e 6 = p5 ∧ PT g.m w (y4.1 : LoomLoomMill) p5) (fun X8 k8 q5 h => ?_) ?_))
 ·refine E_seq (E_region (EL_mw (.int .i64 (y4.2)) rfl rfl ?_))
  refine EL_in (.bool ((y4.2 != (0 : Int)))) rfl rfl rfl rfl ?_
  refine EL_nil (thn_n ?_)
  rcases csome h with ⟨j3, h⟩ | ⟨j3, h⟩
  ·refine E_ct j3 rfl ?_
   refine E_seq (E_region (EL_mw (.int .i64 (y4.2)) rfl rfl ?_))
   refine EL_at (.slice none 0 0) rfl rfl ?_
   refine EL_at (.int .i64 (y4.2)) rfl rfl ?_
   refine EL_nil (thn_n (E_ret (thn_r ?_)))
   obtain rfl := sinj h
   exact end2 rfl rfl (show _ = .slice none 0 0 from rfl) (show _ = .int .i64 (y4.2) from rfl) ⟨_, hfr, _, _, rfl, RV_nil, rfl⟩
  ·refine E_cf j3 rfl ?_
   exact E_skip (thn_n (q5 () _ _ ⟨gp6, hfr, rfl, q1, rfl, qp6⟩ h))
 ·rintro _ l6 y6 ⟨d5, hfr, o3, i3, u3, z3⟩ h
  refine E_seq (E_region (EL_pur (v := fPtr p1 0) (P_fieldAddr at_24_0 o3 (PT.ptr i3)) .plain rfl ?_))
  have t5 := PT_field (part_LoomMill_0).1 i3
  refine EL_do .plain rfl (D_load (g := d5) Try.isAgg22 Try.sizeOf22 rfl t5 fun z6 u5 => ?_)
  refine EL_pur (v := .int .i64 (((x0).Widths).length : Int)) (P_len Try.underlying22 rfl u5) .plain rfl ?_
  refine EL_pur (v := (.func (.func 58) #[] #[p5])) (P_makeFunc (capf_0_1 (show ev _ _ = p5 from u3))) .plain rfl ?_
  obtain ⟨u0, i5, h⟩ := bsome h
  refine EL_do .plain rfl (D_call (g := d5) (vs := [.int .i64 (((x0).Widths).length : Int), (.func (.func 58) #[] #[p5])]) en55 (.cons rfl (.cons rfl .nil)) (wk55 ⟨58, #[], #[p5], rfl, en58, fun g' w' hch a0 b0 r hu0 hr => by obtain rfl := RV_int.1 hu0; exact Fn.mono (wk58  (z3.ch hch) hr) fun _ _ _ h => RV_bool.2 h⟩ i5) fun x5 v6 a7 hs hr => ?_)
  have hfr := hfr.ext hs
  obtain ⟨o0, c6, rfl, d4, rfl⟩ := hr
  refine EL_mw (.tuple #[o0, .bool (u0.2)]) rfl rfl ?_
  refine EL_pur (v := o0) (P_extract rfl rfl) .plain rfl ?_
  refine EL_pur (v := .bool (u0.2)) (P_extract rfl rfl) .plain rfl ?_
  refine EL_at o0 rfl rfl ?_
  refine EL_at (.bool (u0.2)) rfl rfl ?_
  refine EL_nil (thn_n (E_joinC h (fun (s : Unit) e w => ∃ (g : Gh) , Fr gI wI g w ∧ e 8 = o0 ∧ RV g.m w (u0.1 : List Int) o0) (fun X16 z4 l5 h => ?_) ?_))
  ·refine E_seq (E_region (EL_mw (.bool (u0.2)) rfl rfl ?_))
   refine EL_pur (v := .bool (!u0.2)) (P_not rfl) .plain rfl ?_
   refine EL_nil (thn_n ?_)
   rcases csome h with ⟨d3, h⟩ | ⟨d3, h⟩
   ·refine E_ct d3 rfl ?_
    refine E_seq (E_region (EL_at (.slice none 0 0) rfl rfl ?_))
    refine EL_at (.int .i64 (9)) rfl rfl ?_
    refine EL_nil (thn_n (E_ret (thn_r ?_)))
    obtain rfl := sinj h
    exact end2 rfl rfl (show _ = .slice none 0 0 from rfl) (show _ = .int .i64 (9) from rfl) ⟨_, hfr, _, _, rfl, RV_nil, rfl⟩
   ·refine E_cf d3 rfl ?_
    exact E_skip (thn_n (l5 () _ _ ⟨x5, hfr, rfl, d4⟩ h))
  ·rintro _ x6 b7 ⟨c7, hfr, m4, p4⟩ h
   refine E_seq (E_region (EL_mv m4 rfl ?_))
   refine EL_at o0 rfl rfl ?_
   refine EL_at (.int .i64 (0)) rfl rfl ?_
   refine EL_nil (thn_n (E_ret ?_))
   obtain rfl := sinj h
   exact end2 rfl rfl (show _ = o0 from rfl) (show _ = .int .i64 (0) from rfl) ⟨_, hfr, _, _, rfl, p4, rfl⟩
def f30 (x0 : LoomMill) (x1 : List LoomOrder) : Option (Span × Int × Int) :=
 (f50 x0 x1).bind fun y5 =>
 jn (σ := Span × Int) (fun (j7, m7) =>
  Option.bind (α := Span × Int × Int) (
   lp (σ := Span × Int × Int × Int) (fun vA (o5, p5, q5, o0) =>
    bif (decide (o0 < (300 : Int))) then
     Option.bind (α := Span × Int × Int) (
      lp (σ := Span × Int × Int × Int) (fun k94 (m4_95, s5_95, s8_95, s10_95) =>
       jn (σ := Unit) (fun (_ : Unit) =>
        Option.bind (α := Span × Int × Int) (
         (f64 (y5.1) o0 s10_95).bind fun y110 =>
         bif (decide ((w64 (y110 - (w64 ((w64 (s10_95 - o0)) * (((x0).Widths).length : Int))))) > s8_95)) then
          some ((⟨o0, s10_95⟩ : Span), y110, (w64 (y110 - (w64 ((w64 (s10_95 - o0)) * (((x0).Widths).length : Int))))))
         else
          some (m4_95, s5_95, s8_95)
         ) fun (m4_116, s5_116, s8_116) =>
        k94 (m4_116, s5_116, s8_116, (w64 (s10_95 + (1 : Int))))
        ) fun k97 =>
       bif (decide (s10_95 ≤ (300 : Int))) then
        k97 ()
       else
        some (m4_95, s5_95, s8_95)
       ) big (o5, p5, q5, (w64 (o0 + (1 : Int))))
      ) fun (i3, j3, o3) =>
     vA (i3, j3, o3, (w64 (o0 + (1 : Int))))
    else
     some (o5, p5, q5)
    ) big (j7, m7, (0 : Int), (0 : Int))
   ) fun (z2, u3, z3) =>
  jn (σ := Span × Int) (fun (j6, d4) =>
   some (j6, d4, (0 : Int))
   ) fun p8 =>
  bif (z3 == (0 : Int)) then
   some (z2, (0 : Int), (7 : Int))
  else
   p8 (z2, u3)
  ) fun xA =>
 bif (y5.2 != (0 : Int)) then
  some ((⟨0, 0⟩ : Span), (0 : Int), y5.2)
 else
  xA ((⟨0, 0⟩ : Span), (0 : Int))
theorem en30 : Enters Try.prog 30 := enters_of Try.func30 (by kernel_rfl) rfl
theorem wk30 {gI : Gh} {wI : World} {x0 : LoomMill} {x1 : List LoomOrder} {up0 : Value} (rp0 : RV gI.m wI x0 up0) {up1 : Value} (rp1 : RV gI.m wI x1 up1) {r : Span × Int × Int} (h : f30 x0 x1 = some r) : Fn Try.prog 30 #[up0, up1] gI wI (fun m w v => ∃ y0 y1 y2, v = .tuple #[y0, y1, y2] ∧ RV m w (r.1) y0 ∧ y1 = .int .i64 (r.2.1) ∧ y2 = .int .i64 (r.2.2)) := by
 unfold f30 at h
 refine fn_of_E Try.func30 rfl (Nat.le_of_ble_eq_true rfl) fun g0 hm hfr => ?_
 have rp0 : RV g0.m wI x0 up0 := hm ▸ rp0
 have rp1 : RV g0.m wI x1 up1 := hm ▸ rp1
 show E _ 59 none _ _ _ _ _
 refine E_seq (E_region (EL_do .plain rfl (D_box (g := g0) rfl rp0 fun g1 w1 p1 hs q1 => ?_)))
 have hfr := hfr.ext hs
 have rp1 := rp1.ext hs
 refine EL_do .plain rfl (D_allocOc (g := g1) 2004 (⟨0, 0⟩ : Span) Try.zeroValue48 (fun m w => ⟨_, (rep_two rep_int rep_int), rfl⟩) fun g2 w2 p2 hs b2 cb => ?_)
 have hfr := hfr.stp hs
 have rp1 := rp1.stp hs
 have q1 := q1.stp hs
 clear cb
 refine EL_at (.int .i64 (0)) rfl rfl ?_
 refine EL_at (.int .i64 (0)) rfl rfl ?_
 refine EL_nil (thn_n (E_seq (E_region (EL_do .plain rfl (D_load (g := g2) Try.isAgg24 Try.sizeOf24 rfl q1 fun v3 r3 => ?_)))))
 refine EL_mw up1 rfl rfl ?_
 obtain ⟨y5, hy5, h⟩ := bsome h
 refine EL_do .plain rfl (D_call (g := g2) (vs := [v3, up1]) en50 (.cons rfl (.cons rfl .nil)) (wk50 r3 rp1 hy5) fun g4 w4_ v4 hs hr => ?_)
 have hfr := hfr.ext hs
 have q1 := q1.ext hs
 have b2 := b2.ext hs
 obtain ⟨z6, cC, rfl, a7, rfl⟩ := hr
 refine EL_mw (.tuple #[z6, .int .i64 (y5.2)]) rfl rfl ?_
 refine EL_pur (v := z6) (P_extract rfl rfl) .plain rfl ?_
 refine EL_pur (v := .int .i64 (y5.2)) (P_extract rfl rfl) .plain rfl ?_
 refine EL_do .plain rfl (D_allocOc (g := g4) 2007 (⟨⟨[], 0⟩, []⟩ : LoomLoomMill) Try.zeroValue96 (fun m w => ⟨_, (rep_two (rep_two rep_nil rep_int) rep_nil), rfl⟩) fun g6 w6 p6 hs b6 cb => ?_)
 have hfr := hfr.stp hs
 have q1 := q1.stp hs
 have b2 := b2.stp hs rfl
 have a7 := a7.stp hs
 have dC : OSF 2007 60700 0 g6 w6 3 96 ([] : List Int) p6 := cb.osf (by rfl)
 have eC : OSF 2007 60702 2 g6 w6 82 96 ([] : List LoomOrder) p6 := cb.osf (by rfl)
 clear cb
 refine EL_do .plain rfl (D_storeOc (g := g6) (v := z6) Try.sizeOf96 rfl b6 rfl a7 fun g7 w7 hs b7 cb => ?_)
 clear cb
 have hfr := hfr.stp hs
 have q1 := q1.stp hs
 have b2 := b2.stp hs rfl
 refine EL_at (.int .i64 (y5.2)) rfl rfl ?_
 refine EL_nil (thn_n (E_joinC h (fun (s : Span × Int) e w => ∃ (g : Gh) , Fr gI wI g w ∧ e 2 = p1 ∧ PT g.m w (x0 : LoomMill) p1 ∧ e 4 = p2 ∧ OB 2004 g w 48 (s.1 : Span) p2 ∧ e 5 = .int .i64 (s.2) ∧ e 7 = p6 ∧ OB 2007 g w 96 (y5.1 : LoomLoomMill) p6) (fun X12 xA bB h => ?_) ?_))
 ·refine E_seq (E_region (EL_mw (.int .i64 (y5.2)) rfl rfl ?_))
  refine EL_in (.bool ((y5.2 != (0 : Int)))) rfl rfl rfl rfl ?_
  refine EL_nil (thn_n ?_)
  rcases csome h with ⟨c7, h⟩ | ⟨c7, h⟩
  ·refine E_ct c7 rfl ?_
   refine E_seq (E_region (EL_do .plain rfl (D_loadO (g := g7) Try.isAgg48 Try.sizeOf48 rfl b2 fun uB vB => ?_)))
   refine EL_mw (.int .i64 (y5.2)) rfl rfl ?_
   refine EL_do .plain rfl (D_storeOc (g := g7) (v := uB) Try.sizeOf48 rfl b2 rfl vB fun zC w15 hs b15 cb => ?_)
   clear cb
   have hfr := hfr.stp hs
   refine EL_at (.int .i64 (0)) rfl rfl ?_
   refine EL_at (.int .i64 (y5.2)) rfl rfl ?_
   refine EL_nil (thn_n (E_ret (thn_r ?_)))
   obtain rfl := sinj h
   obtain ⟨ad16, cv16, hp16, cB, cr16⟩ := ob_read Try.isAgg48 Try.sizeOf48 b15
   exact endm_ctt rfl rfl ((show _ = p2 from rfl).trans hp16) cB (show _ = .int .i64 (0) from rfl) (show _ = .int .i64 (y5.2) from rfl) ⟨_, hfr, _, _, _, rfl, cr16, rfl, rfl⟩
  ·refine E_cf c7 rfl ?_
   exact E_skip (thn_n (bB ((⟨0, 0⟩ : Span), (0 : Int)) _ _ ⟨g7, hfr, rfl, q1, rfl, b2, rfl, rfl, b7⟩ h))
 ·rintro ⟨j7, m7⟩ iC aD ⟨xB, hfr, z9, bA, cA, dA, eA, gA, iA⟩ h
  refine E_seq (E_region (EL_at (.int .i64 (0)) rfl rfl ?_))
  refine EL_nil (thn_n ?_)
  obtain ⟨⟨z2, u3, z3⟩, hx, h⟩ := bsome h
  refine E_join (fun e w => ∃ (g : Gh) , Fr gI wI g w ∧ e 4 = p2 ∧ OB 2004 g w 48 (z2 : Span) p2 ∧ e 5 = .int .i64 (u3) ∧ e 8 = .int .i64 (z3)) (fun Q' hQ => ?_) (fun yB jC hR => ?_)
  ·replace h := hx
   clear hx
   refine E_seq (E_region (EL_mw (.int .i64 (0)) rfl rfl ?_))
   refine EL_nil (thn_n (E_block ?_))
   refine E_lp h (fun (s : Span × Int × Int × Int) e w => ∃ (g : Gh) , Fr gI wI g w ∧ e 2 = p1 ∧ PT g.m w (x0 : LoomMill) p1 ∧ e 4 = p2 ∧ OB 2004 g w 48 (s.1 : Span) p2 ∧ e 5 = .int .i64 (s.2.1) ∧ e 7 = p6 ∧ OB 2007 g w 96 (y5.1 : LoomLoomMill) p6 ∧ e 8 = .int .i64 (s.2.2.1) ∧ e 23 = .int .i64 (s.2.2.2)) ⟨xB, hfr, z9, bA, cA, dA, eA, gA, iA, rfl, rfl⟩ (fun X68 vA dB => ?_)
   rintro ⟨o5, p5, q5, o0⟩ kC bD ⟨yA, hfr, jA, kA, n7, o7, p7, lA, mA, q7, d5⟩ h
   refine E_seq (E_region (EL_in (.bool ((decide (o0 < (300 : Int))))) d5 rfl rfl rfl ?_))
   refine EL_nil (thn_n (E_seq ?_))
   rcases csome h with ⟨d7, h⟩ | ⟨d7, h⟩
   ·refine E_ct d7 rfl ?_
    refine E_skip (thn_n ?_)
    obtain ⟨⟨i3, j3, o3⟩, hx, h⟩ := bsome h
    refine E_join (fun e w => ∃ (g : Gh) , Fr gI wI g w ∧ e 2 = p1 ∧ PT g.m w (x0 : LoomMill) p1 ∧ e 4 = p2 ∧ OB 2004 g w 48 (i3 : Span) p2 ∧ e 5 = .int .i64 (j3) ∧ e 7 = p6 ∧ OB 2007 g w 96 (y5.1 : LoomLoomMill) p6 ∧ e 8 = .int .i64 (o3) ∧ e 23 = .int .i64 (o0)) (fun Q' hQ => ?_) (fun zB lC hR => ?_)
    ·replace h := hx
     clear hx
     refine E_block ?_
     refine E_seq (E_region (EL_mv d5 rfl ?_))
     refine EL_at (.int .i64 (o0)) rfl rfl ?_
     refine EL_nil (thn_n (E_seq (E_region (EL_mw (.int .i64 (o0)) rfl rfl ?_))))
     refine EL_in (.int .i64 ((w64 (o0 + (1 : Int))))) rfl rfl rfl rfl ?_
     refine EL_at (.int .i64 ((w64 (o0 + (1 : Int))))) rfl rfl ?_
     refine EL_nil (thn_n (E_block ?_))
     refine E_lp h (fun (s : Span × Int × Int × Int) e w => ∃ (g : Gh) , Fr gI wI g w ∧ e 2 = p1 ∧ PT g.m w (x0 : LoomMill) p1 ∧ e 4 = p2 ∧ OB 2004 g w 48 (s.1 : Span) p2 ∧ e 5 = .int .i64 (s.2.1) ∧ e 7 = p6 ∧ OB 2007 g w 96 (y5.1 : LoomLoomMill) p6 ∧ e 8 = .int .i64 (s.2.2.1) ∧ e 9 = .int .i64 (o0) ∧ e 10 = .int .i64 (s.2.2.2) ∧ e 23 = .int .i64 (o0)) ⟨yA, hfr, jA, kA, n7, o7, p7, lA, mA, q7, rfl, rfl, d5⟩ (fun X94 k94 eB => ?_)
     rintro ⟨m4_95, s5_95, s8_95, s10_95⟩ mC cD ⟨zA, hfr, t7, u7, v7, c8, e8, g8, i8, k8, nA, l6, v6⟩ h
     refine E_joinC h (fun (s : Unit) e w => ∃ (g : Gh) , Fr gI wI g w ∧ e 2 = p1 ∧ PT g.m w (x0 : LoomMill) p1 ∧ e 4 = p2 ∧ OB 2004 g w 48 (m4_95 : Span) p2 ∧ e 5 = .int .i64 (s5_95) ∧ e 7 = p6 ∧ OB 2007 g w 96 (y5.1 : LoomLoomMill) p6 ∧ e 8 = .int .i64 (s8_95) ∧ e 9 = .int .i64 (o0) ∧ e 10 = .int .i64 (s10_95) ∧ e 23 = .int .i64 (o0)) (fun X97 k97 iB h => ?_) ?_
     ·refine E_seq (E_region (EL_mv l6 rfl ?_))
      refine EL_in (.bool ((decide (s10_95 ≤ (300 : Int))))) rfl rfl rfl rfl ?_
      refine EL_nil (thn_n ?_)
      rcases csome h with ⟨e7, h⟩ | ⟨e7, h⟩
      ·refine E_ct e7 rfl ?_
       exact E_skip (thn_n (iB () _ _ ⟨zA, hfr, t7, u7, v7, c8, e8, g8, i8, k8, nA, l6, v6⟩ h))
      ·refine E_cf e7 rfl ?_
       refine E_exit ?_
       refine thn_e ?_
       refine thn_e ?_
       refine blk_hit ?_
       refine blk_n ?_
       obtain ⟨rfl, rfl, rfl⟩ := pairs3 h
       exact hQ _ _ ⟨zA, hfr, t7, u7, v7, c8, e8, g8, i8, k8, v6⟩
     ·rintro _ nC dD ⟨aB, hfr, t5, u0, u5, z4, oA, x5, j1, l8, m4, d3, x6⟩ h
      obtain ⟨⟨m4_116, s5_116, s8_116⟩, hx, h⟩ := bsome h
      refine E_join (fun e w => ∃ (g : Gh) , Fr gI wI g w ∧ e 2 = p1 ∧ PT g.m w (x0 : LoomMill) p1 ∧ e 4 = p2 ∧ OB 2004 g w 48 (m4_116 : Span) p2 ∧ e 5 = .int .i64 (s5_116) ∧ e 7 = p6 ∧ OB 2007 g w 96 (y5.1 : LoomLoomMill) p6 ∧ e 8 = .int .i64 (s8_116) ∧ e 9 = .int .i64 (o0) ∧ e 10 = .int .i64 (s10_95) ∧ e 23 = .int .i64 (o0)) (fun Q' hQ => ?_) (fun aC oC hR => ?_)
      ·replace h := hx
       clear hx
       refine E_block ?_
       refine E_seq (E_region (EL_do .plain rfl (D_loadO (g := aB) Try.isAgg96 Try.sizeOf96 x5 j1 fun jB kB => ?_)))
       refine EL_mv m4 rfl ?_
       refine EL_mv d3 rfl ?_
       obtain ⟨y110, pA, h⟩ := bsome h
       refine EL_do .plain rfl (D_call (g := aB) (vs := [jB, .int .i64 (o0), .int .i64 (s10_95)]) en64 (.cons rfl (.cons rfl (.cons rfl .nil))) (wk64 kB pA) fun c6 qA qC hs hr => ?_)
       have hfr := hfr.ext hs
       have u0 := u0.ext hs
       have z4 := z4.ext hs
       have j1 := j1.ext hs
       subst hr
       refine EL_at (.int .i64 (y110)) rfl rfl ?_
       refine EL_nil (thn_n (E_seq (E_region (EL_mw (.int .i64 (y110)) rfl rfl ?_))))
       refine EL_mv d3 rfl ?_
       refine EL_mv m4 rfl ?_
       refine EL_in (.int .i64 ((w64 (s10_95 - o0)))) rfl rfl rfl rfl ?_
       refine EL_pur (v := fPtr p1 0) (P_fieldAddr at_24_0 t5 (PT.ptr u0)) .plain rfl ?_
       have lB := PT_field (part_LoomMill_0).1 u0
       refine EL_do .plain rfl (D_load (g := c6) Try.isAgg22 Try.sizeOf22 rfl lB fun rC mB => ?_)
       refine EL_pur (v := .int .i64 (((x0).Widths).length : Int)) (P_len Try.underlying22 rfl mB) .plain rfl ?_
       refine EL_pur (v := .int .i64 ((w64 ((w64 (s10_95 - o0)) * (((x0).Widths).length : Int))))) (P_int rfl rfl rfl) .plain rfl ?_
       refine EL_pur (v := .int .i64 ((w64 (y110 - (w64 ((w64 (s10_95 - o0)) * (((x0).Widths).length : Int))))))) (P_int rfl rfl rfl) .plain rfl ?_
       refine EL_pur (v := .int .i64 ((w64 (y110 - (w64 ((w64 (s10_95 - o0)) * (((x0).Widths).length : Int))))))) (P_assign rfl) .plain rfl ?_
       refine EL_nil (thn_n (E_seq (E_region (EL_pur (v := .int .i64 ((w64 (y110 - (w64 ((w64 (s10_95 - o0)) * (((x0).Widths).length : Int))))))) (P_move rfl) .plain rfl ?_))))
       refine EL_mv l8 rfl ?_
       refine EL_pur (v := .bool ((decide ((w64 (y110 - (w64 ((w64 (s10_95 - o0)) * (((x0).Widths).length : Int))))) > s8_95)))) (P_int rfl rfl rfl) .plain rfl ?_
       refine EL_nil (thn_n ?_)
       rcases csome h with ⟨d6, h⟩ | ⟨d6, h⟩
       ·refine E_ct d6 rfl ?_
        refine E_region (EL_mv m4 rfl ?_)
        refine EL_mv d3 rfl ?_
        have q8 : RV c6.m qA (⟨o0, s10_95⟩ : Span) (.agg (setCh [[.int .i64 0], [.int .i64 0]] [(0, .int .i64 (o0)), (1, .int .i64 (s10_95))]).flatten.toArray) := RV_build rfl (rep_pair (rfl) (rep_last (rfl)))
        generalize rA : (Value.agg (setCh [[.int .i64 0], [.int .i64 0]] [(0, .int .i64 (o0)), (1, .int .i64 (s10_95))]).flatten.toArray) = r8 at q8
        refine EL_pur (v := r8) (rA ▸ P_build (vs := [(0, .int .i64 (o0)), (1, .int .i64 (s10_95))]) [[.int .i64 0], [.int .i64 0]] lay_48 rfl rfl (.cons rfl (.cons rfl .nil)) ⟨⟨_, rfl, rfl⟩, ⟨⟨_, rfl, rfl⟩, trivial⟩⟩) .plain rfl ?_
        refine EL_mw (.int .i64 (y110)) rfl rfl ?_
        refine EL_pur (v := .int .i64 ((w64 (y110 - (w64 ((w64 (s10_95 - o0)) * (((x0).Widths).length : Int))))))) (P_move rfl) .plain rfl ?_
        refine EL_do .plain rfl (D_storeOc (g := c6) (v := r8) Try.sizeOf48 u5 z4 rfl q8 fun nB sC hs b115 cb => ?_)
        clear cb
        have hfr := hfr.stp hs
        have u0 := u0.stp hs
        have j1 := j1.stp hs rfl
        refine EL_at (.int .i64 (y110)) rfl rfl ?_
        refine EL_pur (v := .int .i64 ((w64 (y110 - (w64 ((w64 (s10_95 - o0)) * (((x0).Widths).length : Int))))))) (P_assign rfl) .plain rfl ?_
        refine EL_nil (blk_n ?_)
        obtain ⟨rfl, rfl, rfl⟩ := pairs3 h
        exact hQ _ _ ⟨nB, hfr, t5, u0, u5, b115, rfl, x5, j1, rfl, m4, d3, x6⟩
       ·refine E_cf d6 rfl ?_
        refine E_skip (blk_n ?_)
        obtain ⟨rfl, rfl, rfl⟩ := pairs3 h
        exact hQ _ _ ⟨c6, hfr, t5, u0, u5, z4, oA, x5, j1, l8, m4, d3, x6⟩
      ·clear hx
       obtain ⟨oB, hfr, t8, v8, x8, y8, z8, a9, d9, e9, g9, m8, n8⟩ := hR
       refine E_region (EL_mv m8 rfl ?_)
       refine EL_in (.int .i64 ((w64 (s10_95 + (1 : Int))))) rfl rfl rfl rfl ?_
       refine EL_at (.int .i64 ((w64 (s10_95 + (1 : Int))))) rfl rfl ?_
       exact EL_nil (thn_n (eB (m4_116, s5_116, s8_116, (w64 (s10_95 + (1 : Int)))) _ _ ⟨oB, hfr, t8, v8, x8, y8, z8, a9, d9, e9, g9, rfl, n8⟩ h))
    ·clear hx
     obtain ⟨pB, hfr, i9, j9, k9, l9, n9, o9, p9, q9, o8⟩ := hR
     refine E_region (EL_in (.int .i64 ((w64 (o0 + (1 : Int))))) o8 rfl rfl rfl ?_)
     refine EL_mw (.int .i64 ((w64 (o0 + (1 : Int))))) rfl rfl ?_
     exact EL_nil (thn_n (dB (i3, j3, o3, (w64 (o0 + (1 : Int)))) _ _ ⟨pB, hfr, i9, j9, k9, l9, n9, o9, p9, q9, rfl⟩ h))
   ·refine E_cf d7 rfl ?_
    refine E_exit ?_
    refine thn_e ?_
    refine thn_e ?_
    refine blk_hit ?_
    obtain ⟨rfl, rfl, rfl⟩ := pairs3 h
    exact hQ _ _ ⟨yA, hfr, n7, o7, p7, q7⟩
  ·clear hx
   obtain ⟨i7, hfr, p4, i5, r9, t9⟩ := hR
   refine E_joinC h (fun (s : Span × Int) e w => ∃ (g : Gh) , Fr gI wI g w ∧ e 4 = p2 ∧ OB 2004 g w 48 (s.1 : Span) p2 ∧ e 5 = .int .i64 (s.2)) (fun X123 p8 sA h => ?_) ?_
   ·refine E_seq (E_region (EL_mv t9 rfl ?_))
    refine EL_in (.bool ((z3 == (0 : Int)))) rfl rfl rfl rfl ?_
    refine EL_nil (thn_n ?_)
    rcases csome h with ⟨i6, h⟩ | ⟨i6, h⟩
    ·refine E_ct i6 rfl ?_
     refine E_seq (E_region (EL_do .plain rfl (D_loadO (g := i7) Try.isAgg48 Try.sizeOf48 p4 i5 fun qB rB => ?_)))
     refine EL_do .plain rfl (D_storeOc (g := i7) (v := qB) Try.sizeOf48 p4 i5 rfl rB fun tC uC hs b126 cb => ?_)
     clear cb
     have hfr := hfr.stp hs
     refine EL_at (.int .i64 (0)) rfl rfl ?_
     refine EL_at (.int .i64 (7)) rfl rfl ?_
     refine EL_nil (thn_n (E_ret (thn_r ?_)))
     obtain rfl := sinj h
     obtain ⟨ad127, cv127, hp127, tA, cr127⟩ := ob_read Try.isAgg48 Try.sizeOf48 b126
     exact endm_ctt rfl rfl ((show _ = p2 from p4).trans hp127) tA (show _ = .int .i64 (0) from rfl) (show _ = .int .i64 (7) from rfl) ⟨_, hfr, _, _, _, rfl, cr127, rfl, rfl⟩
    ·refine E_cf i6 rfl ?_
     exact E_skip (thn_n (sA (z2, u3) _ _ ⟨i7, hfr, p4, i5, r9⟩ h))
   ·rintro ⟨j6, d4⟩ bC vC ⟨u9, hfr, l5, y6, y9⟩ h
    refine E_seq (E_region (EL_do .plain rfl (D_loadO (g := u9) Try.isAgg48 Try.sizeOf48 l5 y6 fun sB tB => ?_)))
    refine EL_mv y9 rfl ?_
    refine EL_do .plain rfl (D_storeOc (g := u9) (v := sB) Try.sizeOf48 l5 y6 rfl tB fun xC yC hs b130 cb => ?_)
    clear cb
    have hfr := hfr.stp hs
    refine EL_at (.int .i64 (d4)) rfl rfl ?_
    refine EL_at (.int .i64 (0)) rfl rfl ?_
    refine EL_nil (thn_n (E_ret ?_))
    obtain rfl := sinj h
    obtain ⟨ad131, cv131, hp131, uA, cr131⟩ := ob_read Try.isAgg48 Try.sizeOf48 b130
    exact endm_ctt rfl rfl ((show _ = p2 from l5).trans hp131) uA (show _ = .int .i64 (d4) from rfl) (show _ = .int .i64 (0) from rfl) ⟨_, hfr, _, _, _, rfl, cr131, rfl, rfl⟩
def f33 (x0 : LoomMill) (x1 : List LoomOrder) (x2 : List LoomRun) (x3 : LoomStop) : Option ((List Int) × Int) :=
 (f65 x0 x1 x2 x3).bind fun y6 =>
 jn (σ := (List Int)) (fun t7 =>
  Option.bind (α := (List Int)) (
   lp (σ := (List Int) × Int) (fun u9 (p4, o0) =>
    bif (decide (o0 < ((x2).length : Int))) then
     Option.bind (α := (List Int)) (
      (idx x2 o0).bind fun y110 =>
      Option.bind (α := Bool) (
       bif ((y110).Loom == (x3).Loom) then
        (f66 (y6.1) y110).bind fun y132 =>
        some (y132)
       else
        some (false)
       ) fun z3 =>
      bif z3 then
       (apnd 8 p4 (([(y110).Order] : List Int))).bind fun o8 =>
       some (o8)
      else
       some (p4)
      ) fun m4 =>
     u9 (m4, (w64 (o0 + (1 : Int))))
    else
     some (p4)
    ) big (t7, (0 : Int))
   ) fun z4 =>
  some (z4, (0 : Int))
  ) fun y9 =>
 bif (y6.2 != (0 : Int)) then
  some ([], y6.2)
 else
  y9 ([])
theorem en33 : Enters Try.prog 33 := enters_of Try.func33 (by kernel_rfl) rfl
theorem wk33 {gI : Gh} {wI : World} {x0 : LoomMill} {x1 : List LoomOrder} {x2 : List LoomRun} {x3 : LoomStop} {up0 : Value} (rp0 : RV gI.m wI x0 up0) {up1 : Value} (rp1 : RV gI.m wI x1 up1) {up2 : Value} (rp2 : RV gI.m wI x2 up2) {up3 : Value} (rp3 : RV gI.m wI x3 up3) {r : (List Int) × Int} (h : f33 x0 x1 x2 x3 = some r) : Fn Try.prog 33 #[up0, up1, up2, up3] gI wI (fun m w v => ∃ y0 y1, v = .tuple #[y0, y1] ∧ RV m w (r.1) y0 ∧ y1 = .int .i64 (r.2)) := by
 unfold f33 at h
 refine fn_of_E Try.func33 rfl (Nat.le_of_ble_eq_true rfl) fun g0 hm hfr => ?_
 have rp0 : RV g0.m wI x0 up0 := hm ▸ rp0
 have rp1 : RV g0.m wI x1 up1 := hm ▸ rp1
 have rp2 : RV g0.m wI x2 up2 := hm ▸ rp2
 have rp3 : RV g0.m wI x3 up3 := hm ▸ rp3
 show E _ 47 none _ _ _ _ _
 refine E_seq (E_region (EL_do .plain rfl (D_box (g := g0) rfl rp0 fun g1 w1 p1 hs q1 => ?_)))
 have hfr := hfr.ext hs
 have rp1 := rp1.ext hs
 have rp2 := rp2.ext hs
 have rp3 := rp3.ext hs
 refine EL_do .plain rfl (D_box (g := g1) rfl rp3 fun g2 w2 p2 hs q2 => ?_)
 have hfr := hfr.ext hs
 have rp1 := rp1.ext hs
 have rp2 := rp2.ext hs
 have q1 := q1.ext hs
 refine EL_at (.slice none 0 0) rfl rfl ?_
 refine EL_at (.int .i64 (0)) rfl rfl ?_
 refine EL_nil (thn_n (E_seq (E_region (EL_do .plain rfl (D_load (g := g2) Try.isAgg24 Try.sizeOf24 rfl q1 fun v3 r3 => ?_)))))
 refine EL_mw up1 rfl rfl ?_
 refine EL_mw up2 rfl rfl ?_
 refine EL_do .plain rfl (D_load (g := g2) Try.isAgg54 Try.sizeOf54 rfl q2 fun v4 r4 => ?_)
 obtain ⟨y6, vA, h⟩ := bsome h
 refine EL_do .plain rfl (D_call (g := g2) (vs := [v3, up1, up2, v4]) en65 (.cons rfl (.cons rfl (.cons rfl (.cons rfl .nil)))) (wk65 r3 rp1 rp2 r4 vA) fun g5 w5_ v5 hs hr => ?_)
 have hfr := hfr.ext hs
 have rp2 := rp2.ext hs
 have q2 := q2.ext hs
 obtain ⟨i7, dB, rfl, j7, rfl⟩ := hr
 refine EL_mw (.tuple #[i7, .int .i64 (y6.2)]) rfl rfl ?_
 refine EL_pur (v := i7) (P_extract rfl rfl) .plain rfl ?_
 refine EL_pur (v := .int .i64 (y6.2)) (P_extract rfl rfl) .plain rfl ?_
 refine EL_do .plain rfl (D_allocOc (g := g5) 2010 (⟨⟨⟨[], 0⟩, []⟩, ⟨0, ⟨0, 0⟩⟩⟩ : LoomStill) Try.zeroValue113 (fun m w => ⟨_, (rep_two (rep_two (rep_two rep_nil rep_int) rep_nil) (rep_two rep_int (rep_two rep_int rep_int))), rfl⟩) fun g7 w7 p7 hs b7 cb => ?_)
 have hfr := hfr.stp hs
 have rp2 := rp2.stp hs
 have q2 := q2.stp hs
 have j7 := j7.stp hs
 have eB : OSF 2010 61000 0 g7 w7 3 113 ([] : List Int) p7 := cb.osf (by rfl)
 have iB : OSF 2010 61002 2 g7 w7 82 113 ([] : List LoomOrder) p7 := cb.osf (by rfl)
 clear cb
 refine EL_do .plain rfl (D_storeOc (g := g7) (v := i7) Try.sizeOf113 rfl b7 rfl j7 fun g8 w8 hs b8 cb => ?_)
 clear cb
 have hfr := hfr.stp hs
 have rp2 := rp2.stp hs
 have q2 := q2.stp hs
 refine EL_at (.int .i64 (y6.2)) rfl rfl ?_
 refine EL_nil (thn_n (E_joinC h (fun (s : (List Int)) e w => ∃ (g : Gh) (v8 : Value), Fr gI wI g w ∧ e 2 = up2 ∧ RV g.m w (x2 : List LoomRun) up2 ∧ e 7 = p2 ∧ PT g.m w (x3 : LoomStop) p2 ∧ e 8 = v8 ∧ RV g.m w (s : List Int) v8 ∧ OS 1008 g w 3 (s : List Int) v8 ∧ e 10 = p7 ∧ OB 2010 g w 113 (y6.1 : LoomStill) p7) (fun X10 y9 z9 h => ?_) ?_))
 ·refine E_seq (E_region (EL_mw (.int .i64 (y6.2)) rfl rfl ?_))
  refine EL_in (.bool ((y6.2 != (0 : Int)))) rfl rfl rfl rfl ?_
  refine EL_nil (thn_n ?_)
  rcases csome h with ⟨m7, h⟩ | ⟨m7, h⟩
  ·refine E_ct m7 rfl ?_
   refine E_seq (E_region (EL_mw (.int .i64 (y6.2)) rfl rfl ?_))
   refine EL_at (.slice none 0 0) rfl rfl ?_
   refine EL_at (.int .i64 (y6.2)) rfl rfl ?_
   refine EL_nil (thn_n (E_ret (thn_r ?_)))
   obtain rfl := sinj h
   exact end2 rfl rfl (show _ = .slice none 0 0 from rfl) (show _ = .int .i64 (y6.2) from rfl) ⟨_, hfr, _, _, rfl, RV_nil, rfl⟩
  ·refine E_cf m7 rfl ?_
   exact E_skip (thn_n (z9 ([]) _ _ ⟨g8, (.slice none 0 0), hfr, rfl, rp2, rfl, q2, rfl, RV_nil, OS.nil, rfl, b8⟩ h))
 ·rintro t7 jB zB ⟨xA, j9, hfr, k9, u7, l9, n9, o9, p9, q9, p8, q8⟩ h
  obtain ⟨z4, hx, h⟩ := bsome h
  refine E_join (fun e w => ∃ (g : Gh) (v8 : Value), Fr gI wI g w ∧ e 8 = v8 ∧ RV g.m w (z4 : List Int) v8 ∧ OS 1008 g w 3 (z4 : List Int) v8) (fun Q' hQ => ?_) (fun zA kB hR => ?_)
  ·replace h := hx
   clear hx
   refine E_seq (E_region (EL_mv k9 rfl ?_))
   refine EL_pur (v := .int .i64 ((x2).length : Int)) (P_len Try.underlying31 rfl u7) .plain rfl ?_
   refine EL_mw (.int .i64 (0)) rfl rfl ?_
   refine EL_nil (thn_n (E_block ?_))
   refine E_lp h (fun (s : (List Int) × Int) e w => ∃ (g : Gh) (v8 : Value), Fr gI wI g w ∧ e 7 = p2 ∧ PT g.m w (x3 : LoomStop) p2 ∧ e 8 = v8 ∧ RV g.m w (s.1 : List Int) v8 ∧ OS 1008 g w 3 (s.1 : List Int) v8 ∧ e 10 = p7 ∧ OB 2010 g w 113 (y6.1 : LoomStill) p7 ∧ e 24 = up2 ∧ RV g.m w (x2 : List LoomRun) up2 ∧ e 25 = .int .i64 (((x2).length : Int)) ∧ e 26 = .int .i64 (s.2)) ⟨xA, (j9), hfr, l9, n9, o9, p9, q9, p8, q8, rfl, u7, rfl, rfl⟩ (fun X77 u9 bA => ?_)
   rintro ⟨p4, o0⟩ lB aC ⟨r8, d5, hfr, v6, z2, x6, d3, i3, q5, j1, t5, u0, u5, i5⟩ h
   refine E_seq (E_region (EL_in (.bool ((decide (o0 < ((x2).length : Int))))) i5 u5 rfl rfl ?_))
   refine EL_nil (thn_n (E_seq ?_))
   rcases csome h with ⟨n7, h⟩ | ⟨n7, h⟩
   ·refine E_ct n7 rfl ?_
    refine E_skip (thn_n ?_)
    obtain ⟨m4, hx, h⟩ := bsome h
    refine E_join (fun e w => ∃ (g : Gh) (v8 : Value), Fr gI wI g w ∧ e 7 = p2 ∧ PT g.m w (x3 : LoomStop) p2 ∧ e 8 = v8 ∧ RV g.m w (m4 : List Int) v8 ∧ OS 1008 g w 3 (m4 : List Int) v8 ∧ e 10 = p7 ∧ OB 2010 g w 113 (y6.1 : LoomStill) p7 ∧ e 24 = up2 ∧ RV g.m w (x2 : List LoomRun) up2 ∧ e 25 = .int .i64 (((x2).length : Int)) ∧ e 26 = .int .i64 (o0)) (fun Q' hQ => ?_) (fun aB mB hR => ?_)
    ·replace h := hx
     clear hx
     refine E_block ?_
     refine E_seq (E_region ?_)
     obtain ⟨y110, v7, h⟩ := bsome h
     refine EL_pur (v := ePtr up2 o0 3) (P_indexAddr (α := LoomRun) Try.underlying31 Try.sizeOf76 t5 u0 i5 v7) .plain rfl ?_
     have cA := PT_idx u0 v7
     refine EL_do .plain rfl (D_load (g := r8) Try.isAgg76 Try.sizeOf76 rfl cA fun dA o7 => ?_)
     refine EL_do .plain rfl (D_allocOc (g := r8) 2012 (⟨0, 0, 0⟩ : LoomRun) Try.zeroValue76 (fun m w => ⟨_, (rep_two rep_int (rep_two rep_int rep_int)), rfl⟩) fun eA nB z6 hs b113 cb => ?_)
     have hfr := hfr.stp hs
     have z2 := z2.stp hs
     have d3 := d3.stp hs
     have i3 := i3.stp hs rfl
     have j1 := j1.stp hs rfl
     have u0 := u0.stp hs
     have o7 := o7.stp hs
     clear cb
     refine EL_do .plain rfl (D_storeOc (g := eA) (v := dA) Try.sizeOf76 rfl b113 rfl o7 fun p5 oB hs b114 cb => ?_)
     clear cb
     have hfr := hfr.stp hs
     have z2 := z2.stp hs
     have d3 := d3.stp hs
     have i3 := i3.stp hs rfl
     have j1 := j1.stp hs rfl
     have u0 := u0.stp hs
     refine EL_nil (thn_n ?_)
     obtain ⟨z3, hx, h⟩ := bsome h
     refine E_join (fun e w => ∃ (g : Gh) , Fr gI wI g w ∧ e 7 = p2 ∧ PT g.m w (x3 : LoomStop) p2 ∧ e 8 = d5 ∧ RV g.m w (p4 : List Int) d5 ∧ OS 1008 g w 3 (p4 : List Int) d5 ∧ e 10 = p7 ∧ OB 2010 g w 113 (y6.1 : LoomStill) p7 ∧ e 12 = z6 ∧ OB 2012 g w 76 (y110 : LoomRun) z6 ∧ e 24 = up2 ∧ RV g.m w (x2 : List LoomRun) up2 ∧ e 25 = .int .i64 (((x2).length : Int)) ∧ e 26 = .int .i64 (o0) ∧ e 39 = .bool (z3)) (fun Q' hQ => ?_) (fun bB pB hR => ?_)
     ·replace h := hx
      clear hx
      refine E_region (EL_pur (v := fPtr z6 1) (P_fieldAddr at_76_1 rfl (OB.ptr b114)) .plain rfl ?_)
      refine EL_do .plain rfl (D_loadF (g := p5) part_LoomRun_1.1 Try.isAgg3 Try.sizeOf3 rfl b114 fun qB gA => ?_)
      obtain rfl := RV_int.1 gA
      refine EL_pur (v := fPtr p2 0) (P_fieldAddr at_54_0 v6 (PT.ptr z2)) .plain rfl ?_
      have iA := PT_field (part_LoomStop_0).1 z2
      refine EL_do .plain rfl (D_load (g := p5) Try.isAgg3 Try.sizeOf3 rfl iA fun rB jA => ?_)
      obtain rfl := RV_int.1 jA
      refine EL_in (.bool (((y110).Loom == (x3).Loom))) rfl rfl rfl rfl ?_
      refine EL_mw (.bool (((y110).Loom == (x3).Loom))) rfl rfl ?_
      rcases csome h with ⟨j3, h⟩ | ⟨j3, h⟩
      ·refine EL_do (.yes2 rfl rfl j3) rfl (D_loadO (g := p5) Try.isAgg113 Try.sizeOf113 q5 j1 fun kA lA => ?_)
       refine EL_do (.yes2 rfl rfl j3) rfl (D_loadO (g := p5) Try.isAgg76 Try.sizeOf76 rfl b114 fun mA nA => ?_)
       obtain ⟨y132, r9, h⟩ := bsome h
       refine EL_do (.yes2 rfl rfl j3) rfl (D_call (g := p5) (vs := [kA, mA]) en66 (.cons rfl (.cons rfl .nil)) (wk66 lA nA r9) fun oA cB sB hs hr => ?_)
       have hfr := hfr.ext hs
       have z2 := z2.ext hs
       have d3 := d3.ext hs
       have i3 := i3.ext hs
       have j1 := j1.ext hs
       have u0 := u0.ext hs
       have b114 := b114.ext hs
       subst hr
       refine EL_pur (v := .bool (y132)) (P_pick (b := ((y110).Loom == (x3).Loom)) rfl (pick_t j3 rfl)) .plain rfl ?_
       refine EL_nil ?_
       obtain rfl := sinj h
       exact hQ _ _ ⟨oA, hfr, v6, z2, x6, d3, i3, q5, j1, rfl, b114, t5, u0, u5, i5, rfl⟩
      ·refine EL_skip (.no2 rfl rfl j3 rfl) rfl ?_
       refine EL_skip (.no2 rfl rfl j3 rfl) rfl ?_
       refine EL_skip (.no2 rfl rfl j3 rfl) rfl ?_
       refine EL_pur (v := .bool false) (P_pick (b := ((y110).Loom == (x3).Loom)) rfl (pick_f j3 rfl)) .plain rfl ?_
       refine EL_nil ?_
       obtain rfl := sinj h
       exact hQ _ _ ⟨p5, hfr, v6, z2, x6, d3, i3, q5, j1, rfl, b114, t5, u0, u5, i5, rfl⟩
     ·clear hx
      obtain ⟨q7, hfr, c7, d4, d7, l5, o5, x5, o3, c8, c6, d6, u3, i6, j6, l6⟩ := hR
      rcases csome h with ⟨a7, h⟩ | ⟨a7, h⟩
      ·refine E_cond_true (Eq.trans (show ev _ _ = .bool (z3) from l6) (congrArg Value.bool a7)) ?_
       refine E_region (EL_mv d7 rfl ?_)
       refine EL_pur (v := fPtr z6 0) (P_fieldAddr at_76_0 c8 (OB.ptr c6)) .plain rfl ?_
       refine EL_do .plain rfl (D_loadF (g := q7) part_LoomRun_0.1 Try.isAgg3 Try.sizeOf3 rfl c6 fun tB pA => ?_)
       obtain rfl := RV_int.1 pA
       refine EL_do .plain rfl (D_buildSlice (g := q7) 3043 (xs := ([(y110).Order] : List Int)) (vs := [.int .i64 ((y110).Order)]) Try.underlying22 Try.sizeOf3 Try.zeroValue3 rfl rfl (.cons rfl .nil) (RVs.cons (RV_int.2 rfl) RVs.nil) rfl rfl fun qA uB vB hs o137 rA hxt hfl => ?_)
       have hfr := hfr.stp hs
       have d4 := d4.stp hs
       have l5 := l5.stp hs
       have o5 := o5.stp hs rfl
       have o3 := o3.stp hs rfl
       have u3 := u3.stp hs
       obtain ⟨o8, t9, h⟩ := bsome h
       refine EL_do .plain rfl (D_append (g := qA) (i := 1008) Try.underlying22 info_3 rfl rfl o5 l5 rfl rA t9 fun sA xB t8 hs o138 tA _ => ?_)
       have hfr := hfr.stp hs
       have d4 := d4.stp hs
       have o3 := o3.stp hs rfl
       have u3 := u3.stp hs
       refine EL_at t8 rfl rfl ?_
       refine EL_nil (blk_n ?_)
       obtain rfl := sinj h
       exact hQ _ _ ⟨sA, (t8), hfr, c7, d4, rfl, tA, o138, x5, o3, d6, u3, i6, j6⟩
      ·refine E_cond_false (Eq.trans (show ev _ _ = .bool (z3) from l6) (congrArg Value.bool a7)) ?_
       refine E_skip (blk_n ?_)
       obtain rfl := sinj h
       exact hQ _ _ ⟨q7, (d5), hfr, c7, d4, d7, l5, o5, x5, o3, d6, u3, i6, j6⟩
    ·clear hx
     obtain ⟨uA, x8, hfr, y8, z8, a9, d9, e9, e8, i8, k8, l8, m8, n8⟩ := hR
     refine E_region (EL_in (.int .i64 ((w64 (o0 + (1 : Int))))) n8 rfl rfl rfl ?_)
     refine EL_mw (.int .i64 ((w64 (o0 + (1 : Int))))) rfl rfl ?_
     exact EL_nil (thn_n (bA (m4, (w64 (o0 + (1 : Int)))) _ _ ⟨uA, (x8), hfr, y8, z8, a9, d9, e9, e8, i8, k8, l8, m8, rfl⟩ h))
   ·refine E_cf n7 rfl ?_
    refine E_exit ?_
    refine thn_e ?_
    refine thn_e ?_
    refine blk_hit ?_
    obtain rfl := sinj h
    exact hQ _ _ ⟨r8, (d5), hfr, x6, d3, i3⟩
  ·clear hx
   obtain ⟨yB, e7, hfr, g9, i9, yA⟩ := hR
   refine E_seq (E_region (EL_mv g9 rfl ?_))
   refine EL_at e7 rfl rfl ?_
   refine EL_at (.int .i64 (0)) rfl rfl ?_
   refine EL_nil (thn_n (E_ret ?_))
   obtain rfl := sinj h
   exact end2 rfl rfl (show _ = e7 from rfl) (show _ = .int .i64 (0) from rfl) ⟨_, hfr, _, _, rfl, i9, rfl⟩
theorem v67_0 {iO : Nat} {gI : Gh} {wI : World} {x0 : List LoomRun} {up0 : Value} (rp0 : RV gI.m wI x0 up0) {r : List LoomRun} (h : f67 x0 = some r) : FnG Try.prog 67 #[up0] gI wI (fun g w v => OM iO g w 76 r v) := by
 unfold f67 at h
 refine fnG_of_E Try.func67 rfl (Nat.le_of_ble_eq_true rfl) fun g0 hm hfr => ?_
 have rp0 : RV g0.m wI x0 up0 := hm ▸ rp0
 show E _ 8 none _ _ _ _ _
 refine E_seq (E_region (EL_at (.slice none 0 0) rfl rfl (EL_nil (thn_n ?_))))
 refine E_seq (E_seq (E_region (EL_mw up0 rfl rfl ?_)))
 obtain ⟨a, c, hv, hc, hrow⟩ := RV_list rp0
 refine EL_pur (v := .bool a.isNone) (P_slnil Try.underlying31 (show ev _ _ = _ from hv)) .plain rfl (EL_nil (thn_n ?_))
 cases a with
 | none =>
  have hx : x0 = [] := by
   cases x0 with
   | nil => rfl
   | cons y ys => obtain ⟨b, off, hb, _⟩ := hrow (by simp); cases hb
  subst hx
  have hr : r = [] := by unfold apnd at h; split at h <;> simp at h; exact h
  subst hr
  refine E_cond_true rfl (E_seq (E_region ?_))
  refine EL_at (.slice none 0 0) rfl rfl (EL_nil (thn_n ?_))
  obtain ⟨gh, hxh, homh⟩ := OM.handn (i := iO) (t := 76) (α := LoomRun) hfr; exact E_ret (thn_r (end1 rfl rfl (show _ = .slice none 0 0 from rfl) ⟨gh, hxh, homh⟩))
 | some a =>
  refine E_cond_false rfl (E_skip (thn_n ?_))
  refine E_seq (E_region (EL_do .plain rfl (D_buildSlice (g := g0) 1 (xs := ([] : List LoomRun)) (vs := []) Try.underlying31 Try.sizeOf76 Try.zeroValue76 rfl rfl .nil RVs.nil rfl rfl fun g1 w1 v1 hs o1 r1 hxt hfl => ?_)))
  have hfr := hfr.stp hs
  have rp0 := rp0.stp hs
  refine EL_mw up0 rfl rfl ?_
  refine EL_do .plain rfl (D_append (g := g1) (i := 1) Try.underlying31 info_76 rfl rfl o1 r1 rfl rp0 h fun g2 w2 v2 hs o2 r2 _ => ?_)
  have hfr := hfr.stp hs
  refine EL_at v2 rfl rfl (EL_nil (thn_n ?_))
  obtain ⟨gh, hxh, homh⟩ := OM.hand (i := iO) plain_LoomRun hfr o2 r2; exact E_ret (end1 rfl rfl (show _ = v2 from rfl) ⟨gh, hxh, homh⟩)
def f40 (x0 : LoomMill) (x1 : List LoomOrder) (x2 : List LoomRun) : Option (Int × Int) :=
 (f50 x0 x1).bind fun y4 =>
 jn (σ := Unit) (fun (_ : Unit) =>
  (f78 (y4.1) x2).bind fun o0 =>
  some (o0.1, o0.2)
  ) fun k8 =>
 bif (y4.2 != (0 : Int)) then
  some ((0 : Int), y4.2)
 else
  k8 ()
theorem en40 : Enters Try.prog 40 := enters_of Try.func40 (by kernel_rfl) rfl
theorem wk40 {gI : Gh} {wI : World} {x0 : LoomMill} {x1 : List LoomOrder} {x2 : List LoomRun} {up0 : Value} (rp0 : RV gI.m wI x0 up0) {up1 : Value} (rp1 : RV gI.m wI x1 up1) {up2 : Value} (rp2 : RV gI.m wI x2 up2) {r : Int × Int} (h : f40 x0 x1 x2 = some r) : Fn Try.prog 40 #[up0, up1, up2] gI wI (fun m w v => ∃ y0 y1, v = .tuple #[y0, y1] ∧ y0 = .int .i64 (r.1) ∧ y1 = .int .i64 (r.2)) := by
 unfold f40 at h
 refine fn_of_E Try.func40 rfl (Nat.le_of_ble_eq_true rfl) fun g0 hm hfr => ?_
 have rp0 : RV g0.m wI x0 up0 := hm ▸ rp0
 have rp1 : RV g0.m wI x1 up1 := hm ▸ rp1
 have rp2 : RV g0.m wI x2 up2 := hm ▸ rp2
 show E _ 23 none _ _ _ _ _
 refine E_seq (E_region (EL_do .plain rfl (D_box (g := g0) rfl rp0 fun g1 w1 p1 hs q1 => ?_)))
 have hfr := hfr.ext hs
 have rp1 := rp1.ext hs
 have rp2 := rp2.ext hs
 refine EL_at (.int .i64 (0)) rfl rfl ?_
 refine EL_at (.int .i64 (0)) rfl rfl ?_
 refine EL_nil (thn_n (E_seq (E_region (EL_do .plain rfl (D_load (g := g1) Try.isAgg24 Try.sizeOf24 rfl q1 fun v2 r2 => ?_)))))
 refine EL_mw up1 rfl rfl ?_
 obtain ⟨y4, d4, h⟩ := bsome h
 refine EL_do .plain rfl (D_call (g := g1) (vs := [v2, up1]) en50 (.cons rfl (.cons rfl .nil)) (wk50 r2 rp1 d4) fun g3 w3_ v3 hs hr => ?_)
 have hfr := hfr.ext hs
 have rp2 := rp2.ext hs
 obtain ⟨u0, l5, rfl, j1, rfl⟩ := hr
 refine EL_mw (.tuple #[u0, .int .i64 (y4.2)]) rfl rfl ?_
 refine EL_pur (v := u0) (P_extract rfl rfl) .plain rfl ?_
 refine EL_pur (v := .int .i64 (y4.2)) (P_extract rfl rfl) .plain rfl ?_
 refine EL_do .plain rfl (D_allocOc (g := g3) 2008 (⟨⟨[], 0⟩, []⟩ : LoomLoomMill) Try.zeroValue96 (fun m w => ⟨_, (rep_two (rep_two rep_nil rep_int) rep_nil), rfl⟩) fun g5 w5 p5 hs b5 cb => ?_)
 have hfr := hfr.stp hs
 have rp2 := rp2.stp hs
 have j1 := j1.stp hs
 have o5 : OSF 2008 60800 0 g5 w5 3 96 ([] : List Int) p5 := cb.osf (by rfl)
 have q5 : OSF 2008 60802 2 g5 w5 82 96 ([] : List LoomOrder) p5 := cb.osf (by rfl)
 clear cb
 refine EL_do .plain rfl (D_storeOc (g := g5) (v := u0) Try.sizeOf96 rfl b5 rfl j1 fun g6 w6 hs b6 cb => ?_)
 clear cb
 have hfr := hfr.stp hs
 have rp2 := rp2.stp hs
 refine EL_at (.int .i64 (y4.2)) rfl rfl ?_
 refine EL_nil (thn_n (E_joinC h (fun (s : Unit) e w => ∃ (g : Gh) , Fr gI wI g w ∧ e 2 = up2 ∧ RV g.m w (x2 : List LoomRun) up2 ∧ e 8 = p5 ∧ OB 2008 g w 96 (y4.1 : LoomLoomMill) p5) (fun X8 k8 m4 h => ?_) ?_))
 ·refine E_seq (E_region (EL_mw (.int .i64 (y4.2)) rfl rfl ?_))
  refine EL_in (.bool ((y4.2 != (0 : Int)))) rfl rfl rfl rfl ?_
  refine EL_nil (thn_n ?_)
  rcases csome h with ⟨z2, h⟩ | ⟨z2, h⟩
  ·refine E_ct z2 rfl ?_
   refine E_seq (E_region (EL_mw (.int .i64 (y4.2)) rfl rfl ?_))
   refine EL_at (.int .i64 (0)) rfl rfl ?_
   refine EL_at (.int .i64 (y4.2)) rfl rfl ?_
   refine EL_nil (thn_n (E_ret (thn_r ?_)))
   obtain rfl := sinj h
   exact end2 rfl rfl (show _ = .int .i64 (0) from rfl) (show _ = .int .i64 (y4.2) from rfl) ⟨_, hfr, _, _, rfl, rfl, rfl⟩
  ·refine E_cf z2 rfl ?_
   exact E_skip (thn_n (m4 () _ _ ⟨g6, hfr, rfl, rp2, rfl, b6⟩ h))
 ·rintro _ t5 x5 ⟨u3, hfr, d3, i3, j3, o3⟩ h
  refine E_seq (E_region (EL_do .plain rfl (D_loadO (g := u3) Try.isAgg96 Try.sizeOf96 j3 o3 fun p4 z4 => ?_)))
  refine EL_mv d3 rfl ?_
  obtain ⟨o0, z3, h⟩ := bsome h
  refine EL_do .plain rfl (D_call (g := u3) (vs := [p4, up2]) en78 (.cons rfl (.cons rfl .nil)) (wk78 z4 i3 z3) fun c6 u5 d6 hs hr => ?_)
  have hfr := hfr.ext hs
  obtain ⟨d5, i5, rfl, rfl, rfl⟩ := hr
  refine EL_pur (v := .int .i64 (o0.1)) (P_extract rfl rfl) .plain rfl ?_
  refine EL_pur (v := .int .i64 (o0.2)) (P_extract rfl rfl) .plain rfl ?_
  refine EL_at (.int .i64 (o0.1)) rfl rfl ?_
  refine EL_at (.int .i64 (o0.2)) rfl rfl ?_
  refine EL_nil (thn_n (E_ret ?_))
  obtain rfl := sinj h
  exact end2 rfl rfl (show _ = .int .i64 (o0.1) from rfl) (show _ = .int .i64 (o0.2) from rfl) ⟨_, hfr, _, _, rfl, rfl, rfl⟩
theorem v48_0 {iO : Nat} {gI : Gh} {wI : World} {x0 : Int} {x1 : Int}  {r : (List LoomOrder)} (h : f48 x0 x1 = some r) : FnG Try.prog 48 #[.int .i64 (x0), .int .i64 (x1)] gI wI (fun g w v => OM iO g w 82 (r) v) := by
 unfold f48 at h
 refine fnG_of_E Try.func48 rfl (Nat.le_of_ble_eq_true rfl) fun g0 hm hfr => ?_
 show E _ 11 none _ _ _ _ _
 refine E_seq (E_region (EL_at (.slice none 0 0) rfl rfl ?_))
 refine EL_nil (thn_n (E_seq (E_region ?_)))
 have r1 : RV g0.m wI (⟨(5 : Int), (1 : Int), (10 : Int), 0, (20 : Int)⟩ : LoomOrder) (.agg (setCh [[.int .i64 0], [.int .i64 0], [.int .i64 0], [.int .i64 0], [.int .i64 0]] [(0, .int .i64 (5)), (1, .int .i64 (1)), (2, .int .i64 (10)), (4, .int .i64 (20))]).flatten.toArray) := RV_build rfl (rep_pair (rfl) (rep_pair (rfl) (rep_pair (rfl) (rep_pair (rep_int) (rep_last (rfl))))))
 generalize hv1 : (Value.agg (setCh [[.int .i64 0], [.int .i64 0], [.int .i64 0], [.int .i64 0], [.int .i64 0]] [(0, .int .i64 (5)), (1, .int .i64 (1)), (2, .int .i64 (10)), (4, .int .i64 (20))]).flatten.toArray) = v1 at r1
 refine EL_pur (v := v1) (hv1 ▸ P_build (vs := [(0, .int .i64 (5)), (1, .int .i64 (1)), (2, .int .i64 (10)), (4, .int .i64 (20))]) [[.int .i64 0], [.int .i64 0], [.int .i64 0], [.int .i64 0], [.int .i64 0]] lay_82 rfl rfl (.cons rfl (.cons rfl (.cons rfl (.cons rfl .nil)))) ⟨⟨_, rfl, rfl⟩, ⟨⟨_, rfl, rfl⟩, ⟨⟨_, rfl, rfl⟩, ⟨⟨_, rfl, rfl⟩, trivial⟩⟩⟩⟩) .plain rfl ?_
 have r2 : RV g0.m wI (⟨(15 : Int), (2 : Int), (12 : Int), 0, (20 : Int)⟩ : LoomOrder) (.agg (setCh [[.int .i64 0], [.int .i64 0], [.int .i64 0], [.int .i64 0], [.int .i64 0]] [(0, .int .i64 (15)), (1, .int .i64 (2)), (2, .int .i64 (12)), (4, .int .i64 (20))]).flatten.toArray) := RV_build rfl (rep_pair (rfl) (rep_pair (rfl) (rep_pair (rfl) (rep_pair (rep_int) (rep_last (rfl))))))
 generalize hv2 : (Value.agg (setCh [[.int .i64 0], [.int .i64 0], [.int .i64 0], [.int .i64 0], [.int .i64 0]] [(0, .int .i64 (15)), (1, .int .i64 (2)), (2, .int .i64 (12)), (4, .int .i64 (20))]).flatten.toArray) = v2 at r2
 refine EL_pur (v := v2) (hv2 ▸ P_build (vs := [(0, .int .i64 (15)), (1, .int .i64 (2)), (2, .int .i64 (12)), (4, .int .i64 (20))]) [[.int .i64 0], [.int .i64 0], [.int .i64 0], [.int .i64 0], [.int .i64 0]] lay_82 rfl rfl (.cons rfl (.cons rfl (.cons rfl (.cons rfl .nil)))) ⟨⟨_, rfl, rfl⟩, ⟨⟨_, rfl, rfl⟩, ⟨⟨_, rfl, rfl⟩, ⟨⟨_, rfl, rfl⟩, trivial⟩⟩⟩⟩) .plain rfl ?_
 refine EL_mw (.int .i64 (x0)) rfl rfl ?_
 refine EL_mw (.int .i64 (x1)) rfl rfl ?_
 have r3 : RV g0.m wI (⟨(5 : Int), x0, x1, 0, (20 : Int)⟩ : LoomOrder) (.agg (setCh [[.int .i64 0], [.int .i64 0], [.int .i64 0], [.int .i64 0], [.int .i64 0]] [(0, .int .i64 (5)), (1, .int .i64 (x0)), (2, .int .i64 (x1)), (4, .int .i64 (20))]).flatten.toArray) := RV_build rfl (rep_pair (rfl) (rep_pair (rfl) (rep_pair (rfl) (rep_pair (rep_int) (rep_last (rfl))))))
 generalize hv3 : (Value.agg (setCh [[.int .i64 0], [.int .i64 0], [.int .i64 0], [.int .i64 0], [.int .i64 0]] [(0, .int .i64 (5)), (1, .int .i64 (x0)), (2, .int .i64 (x1)), (4, .int .i64 (20))]).flatten.toArray) = v3 at r3
 refine EL_pur (v := v3) (hv3 ▸ P_build (vs := [(0, .int .i64 (5)), (1, .int .i64 (x0)), (2, .int .i64 (x1)), (4, .int .i64 (20))]) [[.int .i64 0], [.int .i64 0], [.int .i64 0], [.int .i64 0], [.int .i64 0]] lay_82 rfl rfl (.cons rfl (.cons rfl (.cons rfl (.cons rfl .nil)))) ⟨⟨_, rfl, rfl⟩, ⟨⟨_, rfl, rfl⟩, ⟨⟨_, rfl, rfl⟩, ⟨⟨_, rfl, rfl⟩, trivial⟩⟩⟩⟩) .plain rfl ?_
 refine EL_do .plain rfl (D_buildSlice (g := g0) 3010 (xs := ([(⟨(5 : Int), (1 : Int), (10 : Int), 0, (20 : Int)⟩ : LoomOrder), (⟨(15 : Int), (2 : Int), (12 : Int), 0, (20 : Int)⟩ : LoomOrder), (⟨(5 : Int), x0, x1, 0, (20 : Int)⟩ : LoomOrder)] : List LoomOrder)) (vs := [v1, v2, v3]) Try.underlying25 Try.sizeOf82 Try.zeroValue82 rfl rfl (.cons rfl (.cons rfl (.cons rfl .nil))) (RVs.cons r1 (RVs.cons r2 (RVs.cons r3 RVs.nil))) rfl rfl fun g4 w4 v4 hs o4 r4 hxt hfl => ?_)
 have hfr := hfr.stp hs
 refine EL_at v4 rfl rfl ?_
 refine EL_nil (thn_n (E_ret ?_))
 obtain rfl := sinj h
 obtain ⟨gh, hxh, homh⟩ := OM.hand (i := iO) plain_LoomOrder hfr o4 r4
 exact end1 rfl rfl (show _ = v4 from rfl) ⟨gh, hxh, homh⟩
def f34 (x0 : LoomMill) (x1 : List LoomOrder) (x2 : List LoomRun) (x3 : LoomStop) : Option ((List LoomRun) × (List Int) × Int) :=
 (f65 x0 x1 x2 x3).bind fun y7 =>
 jn (σ := (List Int)) (fun d5 =>
  (f67 x2).bind fun lG =>
  Option.bind (α := (List LoomRun)) (
   (f68 x2 ((x3).Loom)).bind fun p5 =>
   lp (σ := (List LoomRun) × Int × Int) (fun rC (c6, l6, i3) =>
    bif (decide (i3 < ((p5).length : Int))) then
     Option.bind (α := (List LoomRun) × Int) (
      (idx p5 i3).bind fun o0 =>
      (idx c6 o0).bind fun i7 =>
      Option.bind (α := (List LoomRun)) (
       (epok c6 l6).bind fun yA =>
       bif yA then
        (idx c6 l6).bind fun sC =>
        (f69 ((y7.1).mill) sC ((i7).Order)).bind fun e9 =>
        some ((List.set c6 (Int.toNat o0) ({ i7 with From := (max64 (i7).From e9) })))
       else
        some (c6)
       ) fun x6 =>
      Option.bind (α := (List LoomRun)) (
       (idx x6 o0).bind fun tC =>
       (f66 (y7.1) tC).bind fun bA =>
       bif bA then
        (idx x6 o0).bind fun uC =>
        some ((List.set x6 (Int.toNat o0) ({ uC with From := (w64 (((x3).Days).High + (1 : Int))) })))
       else
        some (x6)
       ) fun i9 =>
      some (i9, o0)
      ) fun (i8, t7) =>
     rC (i8, t7, (w64 (i3 + (1 : Int))))
    else
     some (c6)
    ) big (lG, (-1), (0 : Int))
   ) fun j7 =>
  jn (σ := (List LoomRun) × (List Int)) (fun (u3, oA) =>
   Option.bind (α := (List Int)) (
    lp (σ := (List Int) × Int) (fun vC (k8, m4) =>
     bif (decide (m4 < ((u3).length : Int))) then
      Option.bind (α := (List Int)) (
       (idx u3 m4).bind fun d7 =>
       (f73 ((y7.1).mill) d7).bind fun j9 =>
       (idx x1 (d7).Order).bind fun cA =>
       bif (decide (j9 > (cA).Late)) then
        (apnd 8 k8 (([(d7).Order] : List Int))).bind fun xC =>
        some (xC)
       else
        some (k8)
       ) fun m7 =>
      vC (m7, (w64 (m4 + (1 : Int))))
     else
      some (k8)
     ) big (oA, (0 : Int))
    ) fun l8 =>
   some (u3, l8, (0 : Int))
   ) fun yC =>
  (f72 j7 ((fun a0 => f70 a0))).bind fun zC =>
  bif zC then
   some (([] : List LoomRun), [], (8 : Int))
  else
   yC (j7, d5)
  ) fun mG =>
 bif (y7.2 != (0 : Int)) then
  some (([] : List LoomRun), [], y7.2)
 else
  mG ([])
theorem en34 : Enters Try.prog 34 := enters_of Try.func34 (by kernel_rfl) rfl
theorem wk34 {gI : Gh} {wI : World} {x0 : LoomMill} {x1 : List LoomOrder} {x2 : List LoomRun} {x3 : LoomStop} {up0 : Value} (rp0 : RV gI.m wI x0 up0) {up1 : Value} (rp1 : RV gI.m wI x1 up1) {up2 : Value} (rp2 : RV gI.m wI x2 up2) {up3 : Value} (rp3 : RV gI.m wI x3 up3) {r : (List LoomRun) × (List Int) × Int} (h : f34 x0 x1 x2 x3 = some r) : Fn Try.prog 34 #[up0, up1, up2, up3] gI wI (fun m w v => ∃ y0 y1 y2, v = .tuple #[y0, y1, y2] ∧ RV m w (r.1) y0 ∧ RV m w (r.2.1) y1 ∧ y2 = .int .i64 (r.2.2)) := by
 unfold f34 at h
 refine fn_of_E Try.func34 rfl (Nat.le_of_ble_eq_true rfl) fun g0 hm hfr => ?_
 have rp0 : RV g0.m wI x0 up0 := hm ▸ rp0
 have rp1 : RV g0.m wI x1 up1 := hm ▸ rp1
 have rp2 : RV g0.m wI x2 up2 := hm ▸ rp2
 have rp3 : RV g0.m wI x3 up3 := hm ▸ rp3
 show E _ 106 none _ _ _ _ _
 refine E_seq (E_region (EL_do .plain rfl (D_box (g := g0) rfl rp0 fun g1 w1 p1 hs q1 => ?_)))
 have hfr := hfr.ext hs
 have rp1 := rp1.ext hs
 have rp2 := rp2.ext hs
 have rp3 := rp3.ext hs
 refine EL_do .plain rfl (D_box (g := g1) rfl rp3 fun g2 w2 p2 hs q2 => ?_)
 have hfr := hfr.ext hs
 have rp1 := rp1.ext hs
 have rp2 := rp2.ext hs
 have q1 := q1.ext hs
 refine EL_at (.slice none 0 0) rfl rfl ?_
 have b3 : OA 4008 g2 w2 76 ([] : List LoomRun) (.slice none 0 0) := OA.nil
 refine EL_at (.slice none 0 0) rfl rfl ?_
 refine EL_at (.int .i64 (0)) rfl rfl ?_
 refine EL_nil (thn_n (E_seq (E_region (EL_do .plain rfl (D_load (g := g2) Try.isAgg24 Try.sizeOf24 rfl q1 fun v4 r4 => ?_)))))
 refine EL_mw up1 rfl rfl ?_
 refine EL_mw up2 rfl rfl ?_
 refine EL_do .plain rfl (D_load (g := g2) Try.isAgg54 Try.sizeOf54 rfl q2 fun v5 r5 => ?_)
 obtain ⟨y7, iI, h⟩ := bsome h
 refine EL_do .plain rfl (D_call (g := g2) (vs := [v4, up1, up2, v5]) en65 (.cons rfl (.cons rfl (.cons rfl (.cons rfl .nil)))) (wk65 r4 rp1 rp2 r5 iI) fun g6 w6_ v6 hs hr => ?_)
 have hfr := hfr.ext hs
 have rp1 := rp1.ext hs
 have rp2 := rp2.ext hs
 have q2 := q2.ext hs
 obtain ⟨zA, vI, rfl, aB, rfl⟩ := hr
 refine EL_mw (.tuple #[zA, .int .i64 (y7.2)]) rfl rfl ?_
 refine EL_pur (v := zA) (P_extract rfl rfl) .plain rfl ?_
 refine EL_pur (v := .int .i64 (y7.2)) (P_extract rfl rfl) .plain rfl ?_
 refine EL_do .plain rfl (D_allocOc (g := g6) 2011 (⟨⟨⟨[], 0⟩, []⟩, ⟨0, ⟨0, 0⟩⟩⟩ : LoomStill) Try.zeroValue113 (fun m w => ⟨_, (rep_two (rep_two (rep_two rep_nil rep_int) rep_nil) (rep_two rep_int (rep_two rep_int rep_int))), rfl⟩) fun g8 w8 p8 hs b8 cb => ?_)
 have hfr := hfr.stp hs
 have rp1 := rp1.stp hs
 have rp2 := rp2.stp hs
 have q2 := q2.stp hs
 have aB := aB.stp hs
 have xI : OSF 2011 61100 0 g8 w8 3 113 ([] : List Int) p8 := cb.osf (by rfl)
 have yI : OSF 2011 61102 2 g8 w8 82 113 ([] : List LoomOrder) p8 := cb.osf (by rfl)
 clear cb
 refine EL_do .plain rfl (D_storeOc (g := g8) (v := zA) Try.sizeOf113 rfl b8 rfl aB fun g9 w9 hs b9 cb => ?_)
 clear cb
 have hfr := hfr.stp hs
 have rp1 := rp1.stp hs
 have rp2 := rp2.stp hs
 have q2 := q2.stp hs
 refine EL_at (.int .i64 (y7.2)) rfl rfl ?_
 refine EL_nil (thn_n (E_joinC h (fun (s : (List Int)) e w => ∃ (g : Gh) (v9 : Value), Fr gI wI g w ∧ e 1 = up1 ∧ RV g.m w (x1 : List LoomOrder) up1 ∧ e 2 = up2 ∧ RV g.m w (x2 : List LoomRun) up2 ∧ e 7 = p2 ∧ PT g.m w (x3 : LoomStop) p2 ∧ e 9 = v9 ∧ RV g.m w (s : List Int) v9 ∧ OS 1009 g w 3 (s : List Int) v9 ∧ e 11 = p8 ∧ OB 2011 g w 113 (y7.1 : LoomStill) p8) (fun X13 mG oG h => ?_) ?_))
 ·refine E_seq (E_region (EL_mw (.int .i64 (y7.2)) rfl rfl ?_))
  refine EL_in (.bool ((y7.2 != (0 : Int)))) rfl rfl rfl rfl ?_
  refine EL_nil (thn_n ?_)
  rcases csome h with ⟨bB, h⟩ | ⟨bB, h⟩
  ·refine E_ct bB rfl ?_
   refine E_seq (E_region (EL_mw (.int .i64 (y7.2)) rfl rfl ?_))
   refine EL_at (.slice none 0 0) rfl rfl ?_
   have b15 : OA 4008 g9 w9 76 ([] : List LoomRun) (.slice none 0 0) := OA.nil
   refine EL_at (.slice none 0 0) rfl rfl ?_
   refine EL_at (.int .i64 (y7.2)) rfl rfl ?_
   refine EL_nil (thn_n (E_ret (thn_r ?_)))
   obtain ⟨gp16, hs, rp16⟩ := OM.pub (b15.toM)
   have hfr := hfr.stp hs
   obtain rfl := sinj h
   exact end3 rfl rfl (show _ = .slice none 0 0 from rfl) (show _ = .slice none 0 0 from rfl) (show _ = .int .i64 (y7.2) from rfl) ⟨_, hfr, _, _, _, rfl, rp16, RV_nil, rfl⟩
  ·refine E_cf bB rfl ?_
   exact E_skip (thn_n (oG ([]) _ _ ⟨g9, (.slice none 0 0), hfr, rfl, rp1, rfl, rp2, rfl, q2, rfl, RV_nil, OS.nil, rfl, b9⟩ h))
 ·rintro d5 zI sK ⟨jI, o3, hfr, mF, m8, jB, d9, kB, e7, nF, n8, o8, aD, n7⟩ h
  refine E_seq (E_region (EL_mv jB rfl ?_))
  obtain ⟨lG, pG, h⟩ := bsome h
  refine EL_do .plain rfl (D_callG (g := jI) (vs := [up2]) en67 (.cons rfl .nil) (v67_0 (iO := 9031) d9 pG) fun nG aJ u0 hs hr => ?_)
  have hfr := hfr.ext hs
  have m8 := m8.ext hs
  have d9 := d9.ext hs
  have e7 := e7.ext hs
  have n8 := n8.ext hs
  have o8 := o8.ext hs
  have n7 := n7.ext hs
  have hm18 := hr
  refine EL_at u0 rfl rfl ?_
  refine EL_nil (thn_n (E_seq (E_region (EL_pur (v := epV u0 (-1) 3) (P_assign (rfl.trans epV_nil)) .plain rfl ?_))))
  refine EL_nil (thn_n ?_)
  obtain ⟨j7, hx, h⟩ := bsome h
  refine E_join (fun e w => ∃ (g : Gh) , Fr gI wI g w ∧ e 1 = up1 ∧ RV g.m w (x1 : List LoomOrder) up1 ∧ e 8 = u0 ∧ OM 9031 g w 76 (j7 : List LoomRun) u0 ∧ e 9 = o3 ∧ RV g.m w (d5 : List Int) o3 ∧ OS 1009 g w 3 (d5 : List Int) o3 ∧ e 11 = p8 ∧ OB 2011 g w 113 (y7.1 : LoomStill) p8) (fun Q' hQ => ?_) (fun lI bJ hR => ?_)
  ·replace h := hx
   clear hx
   refine E_seq (E_region (EL_mv jB rfl ?_))
   refine EL_pur (v := fPtr p2 0) (P_fieldAddr at_54_0 kB (PT.ptr e7)) .plain rfl ?_
   have qG := PT_field (part_LoomStop_0).1 e7
   refine EL_do .plain rfl (D_load (g := nG) Try.isAgg3 Try.sizeOf3 rfl qG fun cJ rG => ?_)
   obtain rfl := RV_int.1 rG
   obtain ⟨p5, oF, h⟩ := bsome h
   refine EL_do .plain rfl (D_call (g := nG) (vs := [up2, .int .i64 ((x3).Loom)]) en68 (.cons rfl (.cons rfl .nil)) (wk68 d9 oF) fun sG mI g7 hs hr => ?_)
   have hfr := hfr.ext hs
   have m8 := m8.ext hs
   have e7 := e7.ext hs
   have n8 := n8.ext hs
   have o8 := o8.ext hs
   have n7 := n7.ext hs
   have hm18 := hm18.ext hs
   have bD := hr
   refine EL_pur (v := .int .i64 ((p5).length : Int)) (P_len Try.underlying22 rfl bD) .plain rfl ?_
   refine EL_mw (.int .i64 (0)) rfl rfl ?_
   refine EL_nil (thn_n (E_block ?_))
   refine E_lp h (fun (s : (List LoomRun) × Int × Int) e w => ∃ (g : Gh) , Fr gI wI g w ∧ e 1 = up1 ∧ RV g.m w (x1 : List LoomOrder) up1 ∧ e 7 = p2 ∧ PT g.m w (x3 : LoomStop) p2 ∧ e 8 = u0 ∧ OM 9031 g w 76 (s.1 : List LoomRun) u0 ∧ e 9 = o3 ∧ RV g.m w (d5 : List Int) o3 ∧ OS 1009 g w 3 (d5 : List Int) o3 ∧ e 11 = p8 ∧ OB 2011 g w 113 (y7.1 : LoomStill) p8 ∧ e 12 = epV u0 (s.2.1) 3 ∧ e 35 = g7 ∧ RV g.m w (p5 : List Int) g7 ∧ e 36 = .int .i64 (((p5).length : Int)) ∧ e 37 = .int .i64 (s.2.2)) ⟨sG, hfr, mF, m8, kB, e7, rfl, hm18, nF, n8, o8, aD, n7, rfl, rfl, bD, rfl, rfl⟩ (fun X400 rC pF => ?_)
   rintro ⟨c6, l6, i3⟩ nI dJ ⟨dA, hfr, k9, d6, pA, y6, q8, j1, l9, i6, j6, u7, i5, t9, r8, l5, t8, v7⟩ h
   refine E_seq (E_region (EL_in (.bool ((decide (i3 < ((p5).length : Int))))) v7 t8 rfl rfl ?_))
   refine EL_nil (thn_n (E_seq ?_))
   rcases csome h with ⟨eA, h⟩ | ⟨eA, h⟩
   ·refine E_ct eA rfl ?_
    refine E_skip (thn_n ?_)
    obtain ⟨⟨i8, t7⟩, hx, h⟩ := bsome h
    refine E_join (fun e w => ∃ (g : Gh) , Fr gI wI g w ∧ e 1 = up1 ∧ RV g.m w (x1 : List LoomOrder) up1 ∧ e 7 = p2 ∧ PT g.m w (x3 : LoomStop) p2 ∧ e 8 = u0 ∧ OM 9031 g w 76 (i8 : List LoomRun) u0 ∧ e 9 = o3 ∧ RV g.m w (d5 : List Int) o3 ∧ OS 1009 g w 3 (d5 : List Int) o3 ∧ e 11 = p8 ∧ OB 2011 g w 113 (y7.1 : LoomStill) p8 ∧ e 12 = epV u0 t7 3 ∧ e 35 = g7 ∧ RV g.m w (p5 : List Int) g7 ∧ e 36 = .int .i64 (((p5).length : Int)) ∧ e 37 = .int .i64 (i3)) (fun Q' hQ => ?_) (fun oI eJ hR => ?_)
    ·replace h := hx
     clear hx
     refine E_block ?_
     refine E_seq (E_region ?_)
     obtain ⟨o0, lB, h⟩ := bsome h
     refine EL_pur (v := ePtr g7 i3 1) (P_indexAddr (α := Int) Try.underlying22 Try.sizeOf3 r8 l5 v7 lB) .plain rfl ?_
     have tG := PT_idx l5 lB
     refine EL_do .plain rfl (D_load (g := dA) Try.isAgg3 Try.sizeOf3 rfl tG fun gJ uG => ?_)
     obtain rfl := RV_int.1 uG
     refine EL_at (.int .i64 (o0)) rfl rfl ?_
     refine EL_nil (thn_n (E_seq (E_region (EL_mv q8 rfl ?_))))
     refine EL_mw (.int .i64 (o0)) rfl rfl ?_
     obtain ⟨i7, o5, h⟩ := bsome h
     refine EL_pur (v := ePtr u0 o0 3) (P_indexAddrM (α := LoomRun) Try.underlying31 Try.sizeOf76 rfl j1 rfl o5) .plain rfl ?_
     refine EL_at (ePtr u0 o0 3) rfl rfl ?_
     refine EL_nil (thn_n ?_)
     obtain ⟨x6, hx, h⟩ := bsome h
     refine E_join (fun e w => ∃ (g : Gh) , Fr gI wI g w ∧ e 1 = up1 ∧ RV g.m w (x1 : List LoomOrder) up1 ∧ e 7 = p2 ∧ PT g.m w (x3 : LoomStop) p2 ∧ e 8 = u0 ∧ OM 9031 g w 76 (x6 : List LoomRun) u0 ∧ e 9 = o3 ∧ RV g.m w (d5 : List Int) o3 ∧ OS 1009 g w 3 (d5 : List Int) o3 ∧ e 11 = p8 ∧ OB 2011 g w 113 (y7.1 : LoomStill) p8 ∧ e 15 = ePtr u0 o0 3 ∧ e 35 = g7 ∧ RV g.m w (p5 : List Int) g7 ∧ e 36 = .int .i64 (((p5).length : Int)) ∧ e 37 = .int .i64 (i3)) (fun Q' hQ => ?_) (fun pI iJ hR => ?_)
     ·replace h := hx
      clear hx
      refine E_seq (E_region (EL_mv t9 rfl ?_))
      obtain ⟨yA, qF, h⟩ := bsome h
      refine EL_pur (v := .bool (yA)) (P_epne Try.underlying116 j1 rfl rfl qF) .plain rfl ?_
      refine EL_nil (thn_n ?_)
      rcases csome h with ⟨gA, h⟩ | ⟨gA, h⟩
      ·refine E_ct gA rfl ?_
       obtain ⟨pb652, po652, pe652⟩ := OM.ptrE (k := 3) j1 o5
       obtain ⟨pb654, po654, pe654⟩ := OM.ptrE (k := 3) j1 o5
       refine L_loadMF (x := .tmp 49) part_LoomRun_2.1 Try.isAgg3 Try.sizeOf3 j1 o5 fun jJ vG rF => ?_
       obtain rfl := RV_int.1 vG
       refine L_loadO (x := .tmp 51) part_LoomStill_0.1 Try.isAgg96 Try.sizeOf96 i5 fun cD xG sF => ?_
       obtain ⟨sC, iA, h⟩ := bsome h
       obtain ⟨pb659, po659, pe659⟩ := OM.ptrE (k := 3) j1 iA
       refine L_loadM (x := .tmp 54) Try.isAgg76 Try.sizeOf76 j1 iA fun dD yG tF => ?_
       obtain ⟨pb661, po661, pe661⟩ := OM.ptrE (k := 3) j1 o5
       obtain ⟨pb663, po663, pe663⟩ := OM.ptrE (k := 3) j1 o5
       refine L_loadMF (x := .tmp 58) part_LoomRun_0.1 Try.isAgg3 Try.sizeOf3 j1 o5 fun kJ zG uF => ?_
       obtain rfl := RV_int.1 zG
       obtain ⟨e9, vF, h⟩ := bsome h
       obtain ⟨pb667, po667, pe667⟩ := OM.ptrE (k := 3) j1 o5
       obtain ⟨pb669, po669, pe669⟩ := OM.ptrE (k := 3) j1 o5
       refine E_drawL (g := dA) (n := 18) [(14, (fun v g w => v = .int .i64 (e9)))] [0, 1, 2, 3, 4, 5, 6, 7, 8, 9, 10, 11, 12, 13, 14, 15, 16, 17] rfl mixed (by kernel_rfl) (⟨fun _ => up_eq _, trivial⟩) ?_
       refine L_pur (c := ePtr u0 o0 3) rfl rfl .plain (fun _ _ hd => P_move rfl) ?_
       refine L_pur (c := ePtr u0 o0 3) rfl rfl .plain (fun _ _ hd => P_move rfl) ?_
       refine L_pur (c := ePtr u0 o0 3) rfl rfl .plain (fun _ _ hd => P_nilCk rfl pe652) ?_
       refine L_pur (c := fPtr (ePtr u0 o0 3) 2) rfl rfl .plain (fun _ _ hd => P_fieldAddr at_76_2 rfl ⟨_, _, pe654⟩) ?_
       refine L_ld (c := .int .i64 ((i7).From)) rfl rfl .plain (fun _ _ h => ⟨h.ch, fun b hb _ => h.below.block b hb⟩) rF rfl ?_
       refine L_pur (c := fPtr p8 0) rfl rfl .plain (fun _ _ hd => P_fieldAddr at_113_0 u7 (OB.ptr i5)) ?_
       refine L_ld (c := cD) rfl rfl .plain (fun _ _ h => ⟨h.ch, fun b hb _ => h.below.block b hb⟩) sF rfl ?_
       refine L_pur (c := epV u0 l6 3) rfl rfl .plain (fun _ _ hd => P_move t9) ?_
       refine L_pur (c := ePtr u0 l6 3) rfl rfl .plain (fun _ _ hd => P_nilCk (rfl.trans (epV_pos iA)) pe659) ?_
       refine L_ld (c := dD) rfl rfl .plain (fun _ _ h => ⟨h.ch, fun b hb _ => h.below.block b hb⟩) tF rfl ?_
       refine L_pur (c := ePtr u0 o0 3) rfl rfl .plain (fun _ _ hd => P_move rfl) ?_
       refine L_pur (c := ePtr u0 o0 3) rfl rfl .plain (fun _ _ hd => P_nilCk rfl pe661) ?_
       refine L_pur (c := fPtr (ePtr u0 o0 3) 0) rfl rfl .plain (fun _ _ hd => P_fieldAddr at_76_0 rfl ⟨_, _, pe663⟩) ?_
       refine L_ld (c := .int .i64 ((i7).Order)) rfl rfl .plain (fun _ _ h => ⟨h.ch, fun b hb _ => h.below.block b hb⟩) uF rfl ?_
       refine L_do (φ := fun v g w => v = .int .i64 (e9)) rfl rfl .plain (fun g w hd => D_call (g := g) (vs := [cD, dD, .int .i64 ((i7).Order)]) en69 (.cons rfl (.cons rfl (.cons rfl .nil))) (wk69 (xG.ext hd.1) (yG.ext hd.1) vF) fun g' w' v hs hr => ⟨g', hs, hr⟩) (fun lJ hv => ?_)
       obtain ⟨_, _, _, rfl⟩ := hv
       refine L_pur (c := .int .i64 (max64 (i7).From e9)) rfl rfl .plain (fun _ _ hd => P_max rfl rfl) ?_
       refine L_pur (c := ePtr u0 o0 3) rfl rfl .plain (fun _ _ hd => P_nilCk rfl pe667) ?_
       refine L_pur (c := fPtr (ePtr u0 o0 3) 2) rfl rfl .plain (fun _ _ hd => P_fieldAddr at_76_2 rfl ⟨_, _, pe669⟩) ?_
       refine L_nil fun aH mJ hall => ?_
       have hs := hall.1
       have hfr := hfr.ext hs
       have d6 := d6.ext hs
       have y6 := y6.ext hs
       have j1 := j1.ext hs
       have i6 := i6.ext hs
       have j6 := j6.ext hs
       have i5 := i5.ext hs
       have l5 := l5.ext hs
       clear hs hall
       refine EL_do .plain rfl (D_storeMF (g := aH) part_LoomRun_2 Try.sizeOf3 rfl j1 o5 rfl (RV_int.2 rfl) fun bH nJ hs b708 => ?_)
       have hfr := hfr.stp hs
       have d6 := d6.stp hs
       have y6 := y6.stp hs
       have i6 := i6.stp hs
       have j6 := j6.stp hs rfl
       have i5 := i5.stp hs rfl
       have l5 := l5.stp hs
       refine EL_nil ?_
       obtain rfl := sinj h
       exact hQ _ _ ⟨bH, hfr, k9, d6, pA, y6, q8, b708, l9, i6, j6, u7, i5, rfl, r8, l5, t8, v7⟩
      ·refine E_cf gA rfl ?_
       refine E_skip ?_
       obtain rfl := sinj h
       exact hQ _ _ ⟨dA, hfr, k9, d6, pA, y6, q8, j1, l9, i6, j6, u7, i5, rfl, r8, l5, t8, v7⟩
     ·clear hx
      obtain ⟨cH, hfr, qA, z6, n9, t5, rA, u5, sA, a7, b7, x8, q5, c8, u9, x5, y9, z9⟩ := hR
      obtain ⟨i9, hx, h⟩ := bsome h
      refine E_join (fun e w => ∃ (g : Gh) , Fr gI wI g w ∧ e 1 = up1 ∧ RV g.m w (x1 : List LoomOrder) up1 ∧ e 7 = p2 ∧ PT g.m w (x3 : LoomStop) p2 ∧ e 8 = u0 ∧ OM 9031 g w 76 (i9 : List LoomRun) u0 ∧ e 9 = o3 ∧ RV g.m w (d5 : List Int) o3 ∧ OS 1009 g w 3 (d5 : List Int) o3 ∧ e 11 = p8 ∧ OB 2011 g w 113 (y7.1 : LoomStill) p8 ∧ e 15 = ePtr u0 o0 3 ∧ e 35 = g7 ∧ RV g.m w (p5 : List Int) g7 ∧ e 36 = .int .i64 (((p5).length : Int)) ∧ e 37 = .int .i64 (i3)) (fun Q' hQ => ?_) (fun qI oJ hR => ?_)
      ·replace h := hx
       clear hx
       refine E_seq (L_loadO0 (x := .tmp 11) Try.isAgg113 Try.sizeOf113 q5 fun eD dH xF => ?_)
       obtain ⟨tC, mB, h⟩ := bsome h
       obtain ⟨pb742, po742, pe742⟩ := OM.ptrE (k := 3) u5 mB
       refine L_loadM (x := .tmp 66) Try.isAgg76 Try.sizeOf76 u5 mB fun gD gH yF => ?_
       obtain ⟨bA, zF, h⟩ := bsome h
       refine E_drawL (g := cH) (n := 5) [(4, (fun v g w => v = .bool (bA)))] [0, 1, 2, 3, 4] rfl mixed (by kernel_rfl) (⟨fun _ => up_eq _, trivial⟩) ?_
       refine L_ld (c := eD) rfl rfl .plain (fun _ _ h => ⟨h.ch, fun b hb _ => h.below.block b hb⟩) xF x8 ?_
       refine L_pur (c := ePtr u0 o0 3) rfl rfl .plain (fun _ _ hd => P_move c8) ?_
       refine L_pur (c := ePtr u0 o0 3) rfl rfl .plain (fun _ _ hd => P_nilCk rfl pe742) ?_
       refine L_ld (c := gD) rfl rfl .plain (fun _ _ h => ⟨h.ch, fun b hb _ => h.below.block b hb⟩) yF rfl ?_
       refine L_do (φ := fun v g w => v = .bool (bA)) rfl rfl .plain (fun g w hd => D_call (g := g) (vs := [eD, gD]) en66 (.cons rfl (.cons rfl .nil)) (wk66 (dH.ext hd.1) (gH.ext hd.1) zF) fun g' w' v hs hr => ⟨g', hs, hr⟩) (fun pJ hv => ?_)
       obtain ⟨_, _, _, rfl⟩ := hv
       refine L_nil fun cB qJ hall => ?_
       have hs := hall.1
       have hfr := hfr.ext hs
       have z6 := z6.ext hs
       have t5 := t5.ext hs
       have u5 := u5.ext hs
       have a7 := a7.ext hs
       have b7 := b7.ext hs
       have q5 := q5.ext hs
       have x5 := x5.ext hs
       clear hs hall
       refine EL_nil (thn_n ?_)
       rcases csome h with ⟨jA, h⟩ | ⟨jA, h⟩
       ·refine E_ct jA rfl ?_
        refine E_region (EL_mv c8 rfl ?_)
        refine EL_pur (v := fPtr p2 1) (P_fieldAddr at_54_1 n9 (PT.ptr t5)) .plain rfl ?_
        have iD := PT_field (part_LoomStop_1).1 t5
        refine EL_pur (v := fPtr (fPtr p2 1) 1) (P_fieldAddr at_48_1 rfl (PT.ptr iD)) .plain rfl ?_
        have iH := PT_field (part_Span_1).1 iD
        refine EL_do .plain rfl (D_load (g := cB) Try.isAgg3 Try.sizeOf3 rfl iH fun rJ jH => ?_)
        obtain rfl := RV_int.1 jH
        refine EL_in (.int .i64 ((w64 (((x3).Days).High + (1 : Int))))) rfl rfl rfl rfl ?_
        obtain ⟨uC, kA, h⟩ := bsome h
        obtain ⟨pb766, po766, pe766⟩ := OM.ptrE (k := 3) u5 kA
        refine EL_pur (v := ePtr u0 o0 3) (P_nilCk rfl pe766) .plain rfl ?_
        obtain ⟨pb768, po768, pe768⟩ := OM.ptrE (k := 3) u5 kA
        refine EL_pur (v := fPtr (ePtr u0 o0 3) 2) (P_fieldAddr at_76_2 rfl ⟨_, _, pe768⟩) .plain rfl ?_
        refine EL_do .plain rfl (D_storeMF (g := cB) part_LoomRun_2 Try.sizeOf3 rfl u5 kA rfl (RV_int.2 rfl) fun kH sJ hs b769 => ?_)
        have hfr := hfr.stp hs
        have z6 := z6.stp hs
        have t5 := t5.stp hs
        have a7 := a7.stp hs
        have b7 := b7.stp hs rfl
        have q5 := q5.stp hs rfl
        have x5 := x5.stp hs
        refine EL_nil ?_
        obtain rfl := sinj h
        exact hQ _ _ ⟨kH, hfr, qA, z6, n9, t5, rA, b769, sA, a7, b7, x8, q5, c8, u9, x5, y9, z9⟩
       ·refine E_cf jA rfl ?_
        refine E_skip ?_
        obtain rfl := sinj h
        exact hQ _ _ ⟨cB, hfr, qA, z6, n9, t5, rA, u5, sA, a7, b7, x8, q5, c8, u9, x5, y9, z9⟩
      ·clear hx
       obtain ⟨lH, hfr, jD, kD, lD, mD, nD, oD, pD, qD, rD, pB, qB, rB, sB, tB, uB, vB⟩ := hR
       refine E_region (EL_mv rB rfl ?_)
       refine EL_pur (v := epV u0 o0 3) (P_assign (rfl.trans (epV_pos o5).symm)) .plain rfl ?_
       refine EL_nil (blk_n ?_)
       obtain ⟨rfl, rfl⟩ := pairs2 h
       exact hQ _ _ ⟨lH, hfr, jD, kD, lD, mD, nD, oD, pD, qD, rD, pB, qB, rfl, sB, tB, uB, vB⟩
    ·clear hx
     obtain ⟨mH, hfr, sD, tD, uD, vD, xD, yD, zD, aE, bE, xB, yB, zB, aC, bC, cC, dC⟩ := hR
     refine E_region (EL_in (.int .i64 ((w64 (i3 + (1 : Int))))) dC rfl rfl rfl ?_)
     refine EL_mw (.int .i64 ((w64 (i3 + (1 : Int))))) rfl rfl ?_
     exact EL_nil (thn_n (pF (i8, t7, (w64 (i3 + (1 : Int)))) _ _ ⟨mH, hfr, sD, tD, uD, vD, xD, yD, zD, aE, bE, xB, yB, zB, aC, bC, cC, rfl⟩ h))
   ·refine E_cf eA rfl ?_
    refine E_exit ?_
    refine thn_e ?_
    refine thn_e ?_
    refine blk_hit ?_
    obtain rfl := sinj h
    exact hQ _ _ ⟨dA, hfr, k9, d6, q8, j1, l9, i6, j6, u7, i5⟩
  ·clear hx
   obtain ⟨tJ, hfr, cE, o7, tA, dE, eE, p7, q7, eC, c7⟩ := hR
   refine E_seq (E_region (EL_at (.func (.func 70) #[] #[]) rfl rfl ?_))
   refine EL_nil (thn_n (E_joinC h (fun (s : (List LoomRun) × (List Int)) e w => ∃ (g : Gh) (v8 v9 : Value), Fr gI wI g w ∧ e 1 = up1 ∧ RV g.m w (x1 : List LoomOrder) up1 ∧ e 8 = v8 ∧ RV g.m w (s.1 : List LoomRun) v8 ∧ e 9 = v9 ∧ RV g.m w (s.2 : List Int) v9 ∧ OS 1009 g w 3 (s.2 : List Int) v9 ∧ e 11 = p8 ∧ OB 2011 g w 113 (y7.1 : LoomStill) p8) (fun X779 yC aG h => ?_) ?_))
   ·refine E_seq (E_region (EL_mv tA rfl ?_))
    refine EL_mw (.func (.func 70) #[] #[]) rfl rfl ?_
    obtain ⟨gp780, hs, rp780⟩ := OM.pub dE
    have hfr := hfr.stp hs
    have o7 := o7.stp hs
    have p7 := p7.stp hs
    have q7 := q7.stp hs rfl
    have c7 := c7.stp hs rfl
    obtain ⟨zC, bG, h⟩ := bsome h
    refine EL_do .plain rfl (D_call (g := gp780) (vs := [u0, .func (.func 70) #[] #[]]) en72 (.cons rfl (.cons rfl .nil)) (wk72 rp780 ⟨70, #[], #[], rfl, en70, fun g' w' hch a0 b0 r hu0 hr => by exact Fn.mono (wk70 hu0  hr) fun _ _ _ h => RV_bool.2 h⟩ bG) fun gE cG uJ hs hr => ?_)
    have hfr := hfr.ext hs
    have o7 := o7.ext hs
    have rp780 := rp780.ext hs
    have p7 := p7.ext hs
    have q7 := q7.ext hs
    have c7 := c7.ext hs
    subst hr
    refine EL_nil (thn_n ?_)
    rcases csome h with ⟨lA, h⟩ | ⟨lA, h⟩
    ·refine E_ct lA rfl ?_
     refine E_seq (E_region (EL_at (.slice none 0 0) rfl rfl ?_))
     have b784 : OA 4008 gE cG 76 ([] : List LoomRun) (.slice none 0 0) := OA.nil
     refine EL_at (.slice none 0 0) rfl rfl ?_
     refine EL_at (.int .i64 (8)) rfl rfl ?_
     refine EL_nil (thn_n (E_ret (thn_r ?_)))
     obtain ⟨gp785, hs, rp785⟩ := OM.pub (b784.toM)
     have hfr := hfr.stp hs
     obtain rfl := sinj h
     exact end3 rfl rfl (show _ = .slice none 0 0 from rfl) (show _ = .slice none 0 0 from rfl) (show _ = .int .i64 (8) from rfl) ⟨_, hfr, _, _, _, rfl, rp785, RV_nil, rfl⟩
    ·refine E_cf lA rfl ?_
     exact E_skip (thn_n (aG (j7, d5) _ _ ⟨gE, (u0), (o3), hfr, cE, o7, tA, rp780, eE, p7, q7, eC, c7⟩ h))
   ·rintro ⟨u3, oA⟩ rI vJ ⟨nH, z3, iE, hfr, jE, kE, uA, o9, lE, mE, nE, iC, jC⟩ h
    obtain ⟨l8, hx, h⟩ := bsome h
    refine E_join (fun e w => ∃ (g : Gh) (v9 : Value), Fr gI wI g w ∧ e 8 = z3 ∧ RV g.m w (u3 : List LoomRun) z3 ∧ e 9 = v9 ∧ RV g.m w (l8 : List Int) v9 ∧ OS 1009 g w 3 (l8 : List Int) v9) (fun Q' hQ => ?_) (fun sI xJ hR => ?_)
    ·replace h := hx
     clear hx
     refine E_seq (E_region (EL_mv uA rfl ?_))
     refine EL_pur (v := .int .i64 ((u3).length : Int)) (P_len Try.underlying31 rfl o9) .plain rfl ?_
     refine EL_mw (.int .i64 (0)) rfl rfl ?_
     refine EL_nil (thn_n (E_block ?_))
     refine E_lp h (fun (s : (List Int) × Int) e w => ∃ (g : Gh) (v9 : Value), Fr gI wI g w ∧ e 1 = up1 ∧ RV g.m w (x1 : List LoomOrder) up1 ∧ e 8 = z3 ∧ RV g.m w (u3 : List LoomRun) z3 ∧ e 9 = v9 ∧ RV g.m w (s.1 : List Int) v9 ∧ OS 1009 g w 3 (s.1 : List Int) v9 ∧ e 11 = p8 ∧ OB 2011 g w 113 (y7.1 : LoomStill) p8 ∧ e 81 = z3 ∧ RV g.m w (u3 : List LoomRun) z3 ∧ e 82 = .int .i64 (((u3).length : Int)) ∧ e 83 = .int .i64 (s.2)) ⟨nH, (iE), hfr, jE, kE, uA, o9, lE, mE, nE, iC, jC, rfl, o9, rfl, rfl⟩ (fun X881 vC dG => ?_)
     rintro ⟨k8, m4⟩ tI yJ ⟨dB, vA, hfr, p9, j3, q9, d4, r9, p4, z4, y8, z2, z8, d3, a9, e8⟩ h
     refine E_seq (E_region (EL_in (.bool ((decide (m4 < ((u3).length : Int))))) e8 a9 rfl rfl ?_))
     refine EL_nil (thn_n (E_seq ?_))
     rcases csome h with ⟨mA, h⟩ | ⟨mA, h⟩
     ·refine E_ct mA rfl ?_
      refine E_skip (thn_n ?_)
      obtain ⟨m7, hx, h⟩ := bsome h
      refine E_join (fun e w => ∃ (g : Gh) (v9 : Value), Fr gI wI g w ∧ e 1 = up1 ∧ RV g.m w (x1 : List LoomOrder) up1 ∧ e 8 = z3 ∧ RV g.m w (u3 : List LoomRun) z3 ∧ e 9 = v9 ∧ RV g.m w (m7 : List Int) v9 ∧ OS 1009 g w 3 (m7 : List Int) v9 ∧ e 11 = p8 ∧ OB 2011 g w 113 (y7.1 : LoomStill) p8 ∧ e 81 = z3 ∧ RV g.m w (u3 : List LoomRun) z3 ∧ e 82 = .int .i64 (((u3).length : Int)) ∧ e 83 = .int .i64 (m4)) (fun Q' hQ => ?_) (fun uI zJ hR => ?_)
      ·replace h := hx
       clear hx
       refine E_block ?_
       refine E_seq (E_region ?_)
       obtain ⟨d7, nB, h⟩ := bsome h
       refine EL_pur (v := ePtr z3 m4 3) (P_indexAddr (α := LoomRun) Try.underlying31 Try.sizeOf76 z8 d3 e8 nB) .plain rfl ?_
       have oH := PT_idx d3 nB
       refine EL_do .plain rfl (D_load (g := dB) Try.isAgg76 Try.sizeOf76 rfl oH fun pH eB => ?_)
       refine EL_do .plain rfl (D_allocOc (g := dB) 2018 (⟨0, 0, 0⟩ : LoomRun) Try.zeroValue76 (fun m w => ⟨_, (rep_two rep_int (rep_two rep_int rep_int)), rfl⟩) fun qH aK oE hs b932 cb => ?_)
       have hfr := hfr.stp hs
       have j3 := j3.stp hs
       have d4 := d4.stp hs
       have p4 := p4.stp hs
       have z4 := z4.stp hs rfl
       have z2 := z2.stp hs rfl
       have d3 := d3.stp hs
       have eB := eB.stp hs
       clear cb
       refine EL_do .plain rfl (D_storeOc (g := qH) (v := pH) Try.sizeOf76 rfl b932 rfl eB fun sH bK hs b933 cb => ?_)
       clear cb
       have hfr := hfr.stp hs
       have j3 := j3.stp hs
       have d4 := d4.stp hs
       have p4 := p4.stp hs
       have z4 := z4.stp hs rfl
       have z2 := z2.stp hs rfl
       have d3 := d3.stp hs
       refine EL_nil (thn_n (E_seq (L_loadO (x := .tmp 87) part_LoomStill_0.1 Try.isAgg96 Try.sizeOf96 z2 fun rE tH eG => ?_)))
       refine L_loadO0 (x := .tmp 18) Try.isAgg76 Try.sizeOf76 b933 fun sE uH gG => ?_
       obtain ⟨j9, hG, h⟩ := bsome h
       refine L_loadO (x := .tmp 92) part_LoomRun_0.1 Try.isAgg3 Try.sizeOf3 b933 fun cK vH iG => ?_
       obtain rfl := RV_int.1 vH
       obtain ⟨cA, oB, h⟩ := bsome h
       have tE := PT_idx j3 oB
       have xH := PT_field (part_LoomOrder_4).1 tE
       refine L_load (x := .tmp 95) Try.isAgg3 Try.sizeOf3 xH fun dK yH jG => ?_
       obtain rfl := RV_int.1 yH
       refine E_drawL (g := sH) (n := 11) [(3, (fun v g w => v = .int .i64 (j9)))] [0, 1, 2, 3, 4, 5, 6, 7, 8, 9, 10] rfl mixed (by kernel_rfl) (⟨fun _ => up_eq _, trivial⟩) ?_
       refine L_pur (c := fPtr p8 0) rfl rfl .plain (fun _ _ hd => P_fieldAddr at_113_0 y8 (OB.ptr z2)) ?_
       refine L_ld (c := rE) rfl rfl .plain (fun _ _ h => ⟨h.ch, fun b hb _ => h.below.block b hb⟩) eG rfl ?_
       refine L_ld (c := sE) rfl rfl .plain (fun _ _ h => ⟨h.ch, fun b hb _ => h.below.block b hb⟩) gG rfl ?_
       refine L_do (φ := fun v g w => v = .int .i64 (j9)) rfl rfl .plain (fun g w hd => D_call (g := g) (vs := [rE, sE]) en73 (.cons rfl (.cons rfl .nil)) (wk73 (tH.ext hd.1) (uH.ext hd.1) hG) fun g' w' v hs hr => ⟨g', hs, hr⟩) (fun eK hv => ?_)
       obtain ⟨_, _, _, rfl⟩ := hv
       refine L_pur (c := up1) rfl rfl .plain (fun _ _ hd => P_move p9) ?_
       refine L_pur (c := fPtr oE 0) rfl rfl .plain (fun _ _ hd => P_fieldAddr at_76_0 rfl (OB.ptr b933)) ?_
       refine L_ld (c := .int .i64 ((d7).Order)) rfl rfl .plain (fun _ _ h => ⟨h.ch, fun b hb _ => h.below.block b hb⟩) iG rfl ?_
       refine L_pur (c := ePtr up1 (d7).Order 5) rfl rfl .plain (fun _ _ hd => P_indexAddr (α := LoomOrder) Try.underlying25 Try.sizeOf82 rfl j3 rfl oB) ?_
       refine L_pur (c := fPtr (ePtr up1 (d7).Order 5) 4) rfl rfl .plain (fun _ _ hd => P_fieldAddr at_82_4 rfl (PT.ptr tE)) ?_
       refine L_ld (c := .int .i64 ((cA).Late)) rfl rfl .plain (fun _ _ h => h.ch) jG rfl ?_
       refine L_pur (c := .bool ((decide (j9 > (cA).Late)))) rfl rfl .plain (fun _ _ hd => P_int rfl rfl rfl) ?_
       refine L_nil fun iB lK hall => ?_
       have hs := hall.1
       have hfr := hfr.ext hs
       have j3 := j3.ext hs
       have d4 := d4.ext hs
       have p4 := p4.ext hs
       have z4 := z4.ext hs
       have z2 := z2.ext hs
       have d3 := d3.ext hs
       have b933 := b933.ext hs
       clear hs hall
       refine EL_nil (thn_n ?_)
       rcases csome h with ⟨nA, h⟩ | ⟨nA, h⟩
       ·refine E_ct nA rfl ?_
        refine E_region (EL_mv r9 rfl ?_)
        refine EL_pur (v := fPtr oE 0) (P_fieldAddr at_76_0 rfl (OB.ptr b933)) .plain rfl ?_
        refine EL_do .plain rfl (D_loadF (g := iB) part_LoomRun_0.1 Try.isAgg3 Try.sizeOf3 rfl b933 fun mK zH => ?_)
        obtain rfl := RV_int.1 zH
        refine EL_do .plain rfl (D_buildSlice (g := iB) 3101 (xs := ([(d7).Order] : List Int)) (vs := [.int .i64 ((d7).Order)]) Try.underlying22 Try.sizeOf3 Try.zeroValue3 rfl rfl (.cons rfl .nil) (RVs.cons (RV_int.2 rfl) RVs.nil) rfl rfl fun aI nK oK hs o971 bI hxt hfl => ?_)
        have hfr := hfr.stp hs
        have j3 := j3.stp hs
        have d4 := d4.stp hs
        have p4 := p4.stp hs
        have z4 := z4.stp hs rfl
        have z2 := z2.stp hs rfl
        have d3 := d3.stp hs
        obtain ⟨xC, kG, h⟩ := bsome h
        refine EL_do .plain rfl (D_append (g := aI) (i := 1009) Try.underlying22 info_3 rfl rfl z4 p4 rfl bI kG fun cI pK uE hs o972 dI _ => ?_)
        have hfr := hfr.stp hs
        have j3 := j3.stp hs
        have d4 := d4.stp hs
        have z2 := z2.stp hs rfl
        have d3 := d3.stp hs
        refine EL_at uE rfl rfl ?_
        refine EL_nil (blk_n ?_)
        obtain rfl := sinj h
        exact hQ _ _ ⟨cI, (uE), hfr, p9, j3, q9, d4, rfl, dI, o972, y8, z2, z8, d3, a9, e8⟩
       ·refine E_cf nA rfl ?_
        refine E_skip (blk_n ?_)
        obtain rfl := sinj h
        exact hQ _ _ ⟨iB, (vA), hfr, p9, j3, q9, d4, r9, p4, z4, y8, z2, z8, d3, a9, e8⟩
      ·clear hx
       obtain ⟨eI, vE, hfr, xE, yE, zE, cF, dF, eF, gF, kC, lC, mC, nC, oC, qC⟩ := hR
       refine E_region (EL_in (.int .i64 ((w64 (m4 + (1 : Int))))) qC rfl rfl rfl ?_)
       refine EL_mw (.int .i64 ((w64 (m4 + (1 : Int))))) rfl rfl ?_
       exact EL_nil (thn_n (dG (m7, (w64 (m4 + (1 : Int)))) _ _ ⟨eI, (vE), hfr, xE, yE, zE, cF, dF, eF, gF, kC, lC, mC, nC, oC, rfl⟩ h))
     ·refine E_cf mA rfl ?_
      refine E_exit ?_
      refine thn_e ?_
      refine thn_e ?_
      refine blk_hit ?_
      obtain rfl := sinj h
      exact hQ _ _ ⟨dB, (vA), hfr, q9, d4, r9, p4, z4⟩
    ·clear hx
     obtain ⟨qK, xA, hfr, iF, jF, kF, lF, kI⟩ := hR
     refine E_seq (E_region (EL_mv iF rfl ?_))
     refine EL_mv kF rfl ?_
     refine EL_at z3 rfl rfl ?_
     refine EL_at xA rfl rfl ?_
     refine EL_at (.int .i64 (0)) rfl rfl ?_
     refine EL_nil (thn_n (E_ret ?_))
     obtain rfl := sinj h
     exact end3 rfl rfl (show _ = z3 from rfl) (show _ = xA from rfl) (show _ = .int .i64 (0) from rfl) ⟨_, hfr, _, _, _, rfl, jF, lF, rfl⟩
def f14  : Option (Bool) :=
 (f46 ((0 : Int)) ((0 : Int)) ((0 : Int))).bind fun y2 =>
 (f46 ((1 : Int)) ((1 : Int)) ((0 : Int))).bind fun y4 =>
 (f46 ((2 : Int)) ((0 : Int)) ((10 : Int))).bind fun y6 =>
 (f47).bind fun y9 =>
 (f48 ((1 : Int)) ((8 : Int))).bind fun y11 =>
 (f17 y9 y11).bind fun v6 =>
 (f47).bind fun mC =>
 (f48 ((3 : Int)) ((9 : Int))).bind fun nC =>
 (f17 mC nC).bind fun z6 =>
 (f47).bind fun oC =>
 (f48 ((3 : Int)) ((9 : Int))).bind fun y23 =>
 (f23 oC y23).bind fun d6 =>
 (f47).bind fun qC =>
 (f48 ((3 : Int)) ((9 : Int))).bind fun rC =>
 (f24 qC rC).bind fun i6 =>
 (f48 ((1 : Int)) ((8 : Int))).bind fun rA =>
 (idx rA (0 : Int)).bind fun sC =>
 (f47).bind fun tC =>
 (f30 tC ((List.set rA (Int.toNat ((0 : Int))) ({ sC with Woven := (25 : Int) })))).bind fun z3 =>
 (f47).bind fun uC =>
 (f48 ((1 : Int)) ((8 : Int))).bind fun vC =>
 (cut vC (1 : Int) (2 : Int)).bind fun xC =>
 (f25 uC xC).bind fun j6 =>
 (f47).bind fun yC =>
 (f48 ((1 : Int)) ((8 : Int))).bind fun zC =>
 (f32 (([y2, y4, y6] : List LoomRun))).bind fun aD =>
 (f49 ((5 : Int)) ((6 : Int))).bind fun bD =>
 (f33 yC zC aD bD).bind fun l6 =>
 (f47).bind fun cD =>
 (f48 ((1 : Int)) ((8 : Int))).bind fun dD =>
 (f32 (([y2, y4, y6] : List LoomRun))).bind fun eD =>
 (f49 ((5 : Int)) ((6 : Int))).bind fun y70 =>
 (f34 cD dD eD y70).bind fun p4 =>
 (f47).bind fun y74 =>
 (f48 ((3 : Int)) ((8 : Int))).bind fun gD =>
 (f32 (([y2, y4, y6] : List LoomRun))).bind fun iD =>
 (f40 y74 gD iD).bind fun y80 =>
 jn (σ := Unit) (fun (_ : Unit) =>
  Option.bind (α := Bool) (
   (f22 (v6.1) (([y2, y4, y6] : List LoomRun))).bind fun y157 =>
   bif y157 then
    (f28 (d6.1) (([(0 : Int), (1 : Int), (2 : Int)] : List Int))).bind fun y161 =>
    bif y161 then
     (f28 (i6.1) (([(0 : Int)] : List Int))).bind fun y165 =>
     bif y165 then
      bif (decide (z3.1 = (⟨0, (20 : Int)⟩ : Span))) then
       bif (z3.2.1 == (45 : Int)) then
        (f28 (j6.1) (([(1 : Int)] : List Int))).bind fun l8 =>
        bif l8 then
         (f28 (l6.1) (([(0 : Int)] : List Int))).bind fun y177 =>
         bif y177 then
          (f46 ((0 : Int)) ((0 : Int)) ((7 : Int))).bind fun y180 =>
          (f46 ((1 : Int)) ((1 : Int)) ((0 : Int))).bind fun j9 =>
          (f46 ((2 : Int)) ((0 : Int)) ((17 : Int))).bind fun k9 =>
          (f22 (p4.1) (([y180, j9, k9] : List LoomRun))).bind fun m8 =>
          bif m8 then
           (f28 (p4.2.1) (([(2 : Int)] : List Int))).bind fun n8 =>
           bif n8 then
            some ((y80.1 == (2 : Int)))
           else
            none
          else
           none
         else
          none
        else
         none
       else
        none
      else
       none
     else
      none
    else
     none
   else
    none
   ) fun a7 =>
  some (a7)
  ) fun jD =>
 Option.bind (α := Bool) (
  bif (v6.2 != (0 : Int)) then
   none
  else
   bif (z6.2 != (9 : Int)) then
    none
   else
    bif (d6.2 != (0 : Int)) then
     none
    else
     bif (i6.2 != (0 : Int)) then
      none
     else
      bif (z3.2.2 != (0 : Int)) then
       none
      else
       bif (j6.2 != (0 : Int)) then
        none
       else
        bif (l6.2 != (0 : Int)) then
         none
        else
         bif (p4.2.2 != (0 : Int)) then
          none
         else
          some ((y80.2 != (6 : Int)))
  ) fun u5 =>
 bif u5 then
  some (false)
 else
  jD ()
theorem en14 : Enters Try.prog 14 := enters_of Try.func14 (by kernel_rfl) rfl
theorem wk14 {gI : Gh} {wI : World}   {r : Bool} (h : f14  = some r) : Fn Try.prog 14 #[] gI wI (fun _ _ v => v = .bool (r)) := by
 unfold f14 at h
 refine fn_of_E Try.func14 rfl (Nat.le_of_ble_eq_true rfl) fun g0 hm hfr => ?_
 show E _ 179 none _ _ _ _ _
 refine E_seq (E_region (EL_at (.bool false) rfl rfl ?_))
 refine EL_nil (thn_n (E_seq (E_region ?_)))
 obtain ⟨y2, hy2, h⟩ := bsome h
 refine EL_do .plain rfl (D_call (g := g0) (vs := [.int .i64 (0), .int .i64 (0), .int .i64 (0)]) en46 (.cons rfl (.cons rfl (.cons rfl .nil))) (wk46  hy2) fun g1 w1_ v1 hs hr => ?_)
 have hfr := hfr.ext hs
 have r1 := hr
 obtain ⟨y4, nG, h⟩ := bsome h
 refine EL_do .plain rfl (D_call (g := g1) (vs := [.int .i64 (1), .int .i64 (1), .int .i64 (0)]) en46 (.cons rfl (.cons rfl (.cons rfl .nil))) (wk46  nG) fun g3 w3_ v3 hs hr => ?_)
 have hfr := hfr.ext hs
 have r1 := r1.ext hs
 have r3 := hr
 obtain ⟨y6, oG, h⟩ := bsome h
 refine EL_do .plain rfl (D_call (g := g3) (vs := [.int .i64 (2), .int .i64 (0), .int .i64 (10)]) en46 (.cons rfl (.cons rfl (.cons rfl .nil))) (wk46  oG) fun g5 w5_ v5 hs hr => ?_)
 have hfr := hfr.ext hs
 have r1 := r1.ext hs
 have r3 := r3.ext hs
 have r5 := hr
 refine EL_do .plain rfl (D_buildSlice (g := g5) 3026 (xs := ([y2, y4, y6] : List LoomRun)) (vs := [v1, v3, v5]) Try.underlying31 Try.sizeOf76 Try.zeroValue76 rfl rfl (.cons rfl (.cons rfl (.cons rfl .nil))) (RVs.cons r1 (RVs.cons r3 (RVs.cons r5 RVs.nil))) rfl rfl fun g7 w7 v7 hs o7 r7 hxt hfl => ?_)
 have hfr := hfr.stp hs
 refine EL_at v7 rfl rfl ?_
 refine EL_nil (thn_n (E_seq (E_region ?_)))
 obtain ⟨y9, pG, h⟩ := bsome h
 refine EL_do .plain rfl (D_call (g := g7) (vs := []) en47 .nil (wk47  pG) fun g8 w8_ v8 hs hr => ?_)
 have hfr := hfr.ext hs
 have r7 := r7.ext hs
 have o7 := o7.ext hs
 have r8 := hr
 obtain ⟨y11, mD, h⟩ := bsome h
 refine EL_do .plain rfl (D_call (g := g8) (vs := [.int .i64 (1), .int .i64 (8)]) en48 (.cons rfl (.cons rfl .nil)) (wk48  mD) fun qG sK rG hs hr => ?_)
 have hfr := hfr.ext hs
 have r7 := r7.ext hs
 have o7 := o7.ext hs
 have r8 := r8.ext hs
 have sG := hr
 obtain ⟨v6, nD, h⟩ := bsome h
 refine EL_do .plain rfl (D_call (g := qG) (vs := [v8, rG]) en17 (.cons rfl (.cons rfl .nil)) (wk17 r8 sG nD) fun tG tK yM hs hr => ?_)
 have hfr := hfr.ext hs
 have r7 := r7.ext hs
 have o7 := o7.ext hs
 obtain ⟨x5, mJ, rfl, o0, rfl⟩ := hr
 refine EL_mw (.tuple #[x5, .int .i64 (v6.2)]) rfl rfl ?_
 refine EL_pur (v := x5) (P_extract rfl rfl) .plain rfl ?_
 refine EL_pur (v := .int .i64 (v6.2)) (P_extract rfl rfl) .plain rfl ?_
 refine EL_at x5 rfl rfl ?_
 refine EL_at (.int .i64 (v6.2)) rfl rfl ?_
 refine EL_nil (thn_n (E_seq (E_region ?_)))
 obtain ⟨mC, oD, h⟩ := bsome h
 refine EL_do .plain rfl (D_call (g := tG) (vs := []) en47 .nil (wk47  oD) fun uG uK vG hs hr => ?_)
 have hfr := hfr.ext hs
 have r7 := r7.ext hs
 have o7 := o7.ext hs
 have o0 := o0.ext hs
 have sA := hr
 obtain ⟨nC, pD, h⟩ := bsome h
 refine EL_do .plain rfl (D_call (g := uG) (vs := [.int .i64 (3), .int .i64 (9)]) en48 (.cons rfl (.cons rfl .nil)) (wk48  pD) fun xG vK yG hs hr => ?_)
 have hfr := hfr.ext hs
 have r7 := r7.ext hs
 have o7 := o7.ext hs
 have o0 := o0.ext hs
 have sA := sA.ext hs
 have zG := hr
 obtain ⟨z6, qD, h⟩ := bsome h
 refine EL_do .plain rfl (D_call (g := xG) (vs := [vG, yG]) en17 (.cons rfl (.cons rfl .nil)) (wk17 sA zG qD) fun aH xK zM hs hr => ?_)
 have hfr := hfr.ext hs
 have r7 := r7.ext hs
 have o7 := o7.ext hs
 have o0 := o0.ext hs
 obtain ⟨y8, nJ, rfl, oJ, rfl⟩ := hr
 refine EL_mw (.tuple #[y8, .int .i64 (z6.2)]) rfl rfl ?_
 refine EL_pur (v := y8) (P_extract rfl rfl) .plain rfl ?_
 refine EL_pur (v := .int .i64 (z6.2)) (P_extract rfl rfl) .plain rfl ?_
 refine EL_at y8 rfl rfl ?_
 refine EL_at (.int .i64 (z6.2)) rfl rfl ?_
 refine EL_nil (thn_n (E_seq (E_region ?_)))
 obtain ⟨oC, rD, h⟩ := bsome h
 refine EL_do .plain rfl (D_call (g := aH) (vs := []) en47 .nil (wk47  rD) fun bH yK cH hs hr => ?_)
 have hfr := hfr.ext hs
 have r7 := r7.ext hs
 have o7 := o7.ext hs
 have o0 := o0.ext hs
 have tA := hr
 obtain ⟨y23, sD, h⟩ := bsome h
 refine EL_do .plain rfl (D_call (g := bH) (vs := [.int .i64 (3), .int .i64 (9)]) en48 (.cons rfl (.cons rfl .nil)) (wk48  sD) fun dH zK gH hs hr => ?_)
 have hfr := hfr.ext hs
 have r7 := r7.ext hs
 have o7 := o7.ext hs
 have o0 := o0.ext hs
 have tA := tA.ext hs
 have iH := hr
 obtain ⟨d6, tD, h⟩ := bsome h
 refine EL_do .plain rfl (D_call (g := dH) (vs := [cH, gH]) en23 (.cons rfl (.cons rfl .nil)) (wk23 tA iH tD) fun jH aL aN hs hr => ?_)
 have hfr := hfr.ext hs
 have r7 := r7.ext hs
 have o7 := o7.ext hs
 have o0 := o0.ext hs
 obtain ⟨z4, pJ, rfl, u0, rfl⟩ := hr
 refine EL_mw (.tuple #[z4, .int .i64 (d6.2)]) rfl rfl ?_
 refine EL_pur (v := z4) (P_extract rfl rfl) .plain rfl ?_
 refine EL_pur (v := .int .i64 (d6.2)) (P_extract rfl rfl) .plain rfl ?_
 refine EL_at z4 rfl rfl ?_
 refine EL_at (.int .i64 (d6.2)) rfl rfl ?_
 refine EL_nil (thn_n (E_seq (E_region ?_)))
 obtain ⟨qC, uD, h⟩ := bsome h
 refine EL_do .plain rfl (D_call (g := jH) (vs := []) en47 .nil (wk47  uD) fun kH bL lH hs hr => ?_)
 have hfr := hfr.ext hs
 have r7 := r7.ext hs
 have o7 := o7.ext hs
 have o0 := o0.ext hs
 have u0 := u0.ext hs
 have uA := hr
 obtain ⟨rC, vD, h⟩ := bsome h
 refine EL_do .plain rfl (D_call (g := kH) (vs := [.int .i64 (3), .int .i64 (9)]) en48 (.cons rfl (.cons rfl .nil)) (wk48  vD) fun mH cL nH hs hr => ?_)
 have hfr := hfr.ext hs
 have r7 := r7.ext hs
 have o7 := o7.ext hs
 have o0 := o0.ext hs
 have u0 := u0.ext hs
 have uA := uA.ext hs
 have oH := hr
 obtain ⟨i6, xD, h⟩ := bsome h
 refine EL_do .plain rfl (D_call (g := mH) (vs := [lH, nH]) en24 (.cons rfl (.cons rfl .nil)) (wk24 uA oH xD) fun pH dL bN hs hr => ?_)
 have hfr := hfr.ext hs
 have r7 := r7.ext hs
 have o7 := o7.ext hs
 have o0 := o0.ext hs
 have u0 := u0.ext hs
 obtain ⟨d5, qJ, rfl, j1, rfl⟩ := hr
 refine EL_mw (.tuple #[d5, .int .i64 (i6.2)]) rfl rfl ?_
 refine EL_pur (v := d5) (P_extract rfl rfl) .plain rfl ?_
 refine EL_pur (v := .int .i64 (i6.2)) (P_extract rfl rfl) .plain rfl ?_
 refine EL_at d5 rfl rfl ?_
 refine EL_at (.int .i64 (i6.2)) rfl rfl ?_
 refine EL_nil (thn_n (E_seq (E_region ?_)))
 obtain ⟨rA, yD, h⟩ := bsome h
 refine EL_do .plain rfl (D_callG (g := pH) (vs := [.int .i64 (1), .int .i64 (8)]) en48 (.cons rfl (.cons rfl .nil)) (v48_0 (iO := 9051)  yD) fun qH eL x8 hs hr => ?_)
 have hfr := hfr.ext hs
 have r7 := r7.ext hs
 have o7 := o7.ext hs
 have o0 := o0.ext hs
 have u0 := u0.ext hs
 have j1 := j1.ext hs
 have hm32 := hr
 refine EL_at x8 rfl rfl ?_
 refine EL_nil (thn_n (E_seq (E_region (EL_mw x8 rfl rfl ?_))))
 obtain ⟨sC, l9, h⟩ := bsome h
 refine EL_pur (v := ePtr x8 (0 : Int) 5) (P_indexAddrM (α := LoomOrder) Try.underlying25 Try.sizeOf82 rfl hm32 rfl l9) .plain rfl ?_
 obtain ⟨pb36, po36, pe36⟩ := OM.ptrE (k := 5) hm32 l9
 refine EL_pur (v := fPtr (ePtr x8 (0 : Int) 5) 2) (P_fieldAddr at_82_2 rfl ⟨_, _, pe36⟩) .plain rfl ?_
 refine EL_do .plain rfl (D_storeMF (g := qH) part_LoomOrder_2 Try.sizeOf3 rfl hm32 l9 rfl (RV_int.2 rfl) fun sH cN hs b37 => ?_)
 have hfr := hfr.stp hs
 have r7 := r7.stp hs
 have o7 := o7.stp hs rfl
 have o0 := o0.stp hs
 have u0 := u0.stp hs
 have j1 := j1.stp hs
 refine EL_nil (thn_n (E_seq (E_region ?_)))
 obtain ⟨tC, zD, h⟩ := bsome h
 refine EL_do .plain rfl (D_call (g := sH) (vs := []) en47 .nil (wk47  zD) fun dN gL tH hs hr => ?_)
 have hfr := hfr.ext hs
 have r7 := r7.ext hs
 have o7 := o7.ext hs
 have o0 := o0.ext hs
 have u0 := u0.ext hs
 have j1 := j1.ext hs
 have b37 := b37.ext hs
 have vA := hr
 refine EL_mw x8 rfl rfl ?_
 obtain ⟨gp40, hs, rp40⟩ := OM.pub b37
 have hfr := hfr.stp hs
 have r7 := r7.stp hs
 have o7 := o7.stp hs rfl
 have o0 := o0.stp hs
 have u0 := u0.stp hs
 have j1 := j1.stp hs
 have vA := vA.stp hs
 obtain ⟨z3, aE, h⟩ := bsome h
 refine EL_do .plain rfl (D_call (g := gp40) (vs := [tH, x8]) en30 (.cons rfl (.cons rfl .nil)) (wk30 vA rp40 aE) fun uH iL eN hs hr => ?_)
 have hfr := hfr.ext hs
 have r7 := r7.ext hs
 have o7 := o7.ext hs
 have o0 := o0.ext hs
 have u0 := u0.ext hs
 have j1 := j1.ext hs
 obtain ⟨z8, rJ, sJ, rfl, a9, rfl, rfl⟩ := hr
 refine EL_mw (.tuple #[z8, .int .i64 (z3.2.1), .int .i64 (z3.2.2)]) rfl rfl ?_
 refine EL_pur (v := z8) (P_extract rfl rfl) .plain rfl ?_
 refine EL_pur (v := .int .i64 (z3.2.1)) (P_extract rfl rfl) .plain rfl ?_
 refine EL_pur (v := .int .i64 (z3.2.2)) (P_extract rfl rfl) .plain rfl ?_
 refine EL_do .plain rfl (D_allocOc (g := uH) 2011 (⟨0, 0⟩ : Span) Try.zeroValue48 (fun m w => ⟨_, (rep_two rep_int rep_int), rfl⟩) fun vH gN p9 hs b43 cb => ?_)
 have hfr := hfr.stp hs
 have r7 := r7.stp hs
 have o7 := o7.stp hs rfl
 have o0 := o0.stp hs
 have u0 := u0.stp hs
 have j1 := j1.stp hs
 have a9 := a9.stp hs
 clear cb
 refine EL_do .plain rfl (D_storeOc (g := vH) (v := z8) Try.sizeOf48 rfl b43 rfl a9 fun xH iN hs b44 cb => ?_)
 clear cb
 have hfr := hfr.stp hs
 have r7 := r7.stp hs
 have o7 := o7.stp hs rfl
 have o0 := o0.stp hs
 have u0 := u0.stp hs
 have j1 := j1.stp hs
 refine EL_at (.int .i64 (z3.2.1)) rfl rfl ?_
 refine EL_at (.int .i64 (z3.2.2)) rfl rfl ?_
 refine EL_nil (thn_n (E_seq (E_region ?_)))
 obtain ⟨uC, bE, h⟩ := bsome h
 refine EL_do .plain rfl (D_call (g := xH) (vs := []) en47 .nil (wk47  bE) fun yH jL zH hs hr => ?_)
 have hfr := hfr.ext hs
 have r7 := r7.ext hs
 have o7 := o7.ext hs
 have o0 := o0.ext hs
 have u0 := u0.ext hs
 have j1 := j1.ext hs
 have b44 := b44.ext hs
 have xA := hr
 obtain ⟨vC, cE, h⟩ := bsome h
 refine EL_do .plain rfl (D_call (g := yH) (vs := [.int .i64 (1), .int .i64 (8)]) en48 (.cons rfl (.cons rfl .nil)) (wk48  cE) fun aI kL kD hs hr => ?_)
 have hfr := hfr.ext hs
 have r7 := r7.ext hs
 have o7 := o7.ext hs
 have o0 := o0.ext hs
 have u0 := u0.ext hs
 have j1 := j1.ext hs
 have b44 := b44.ext hs
 have xA := xA.ext hs
 have lD := hr
 obtain ⟨xC, yA, h⟩ := bsome h
 have bI := RV_cut lD yA
 refine EL_pur (v := (cutV kD (Int.toNat (1 : Int)) (Int.toNat (2 : Int)) 5)) (P_slice Try.underlying25 Try.sizeOf82 rfl lD rfl rfl yA) .plain rfl ?_
 obtain ⟨j6, dE, h⟩ := bsome h
 refine EL_do .plain rfl (D_call (g := aI) (vs := [zH, (cutV kD (Int.toNat (1 : Int)) (Int.toNat (2 : Int)) 5)]) en25 (.cons rfl (.cons rfl .nil)) (wk25 xA bI dE) fun cI lL jN hs hr => ?_)
 have hfr := hfr.ext hs
 have r7 := r7.ext hs
 have o7 := o7.ext hs
 have o0 := o0.ext hs
 have u0 := u0.ext hs
 have j1 := j1.ext hs
 have b44 := b44.ext hs
 obtain ⟨i5, tJ, rfl, i3, rfl⟩ := hr
 refine EL_mw (.tuple #[i5, .int .i64 (j6.2)]) rfl rfl ?_
 refine EL_pur (v := i5) (P_extract rfl rfl) .plain rfl ?_
 refine EL_pur (v := .int .i64 (j6.2)) (P_extract rfl rfl) .plain rfl ?_
 refine EL_at i5 rfl rfl ?_
 refine EL_at (.int .i64 (j6.2)) rfl rfl ?_
 refine EL_nil (thn_n (E_seq (E_region ?_)))
 obtain ⟨yC, eE, h⟩ := bsome h
 refine EL_do .plain rfl (D_call (g := cI) (vs := []) en47 .nil (wk47  eE) fun dI mL eI hs hr => ?_)
 have hfr := hfr.ext hs
 have r7 := r7.ext hs
 have o7 := o7.ext hs
 have o0 := o0.ext hs
 have u0 := u0.ext hs
 have j1 := j1.ext hs
 have b44 := b44.ext hs
 have i3 := i3.ext hs
 have o8 := hr
 obtain ⟨zC, gE, h⟩ := bsome h
 refine EL_do .plain rfl (D_call (g := dI) (vs := [.int .i64 (1), .int .i64 (8)]) en48 (.cons rfl (.cons rfl .nil)) (wk48  gE) fun iI nL jI hs hr => ?_)
 have hfr := hfr.ext hs
 have r7 := r7.ext hs
 have o7 := o7.ext hs
 have o0 := o0.ext hs
 have u0 := u0.ext hs
 have j1 := j1.ext hs
 have b44 := b44.ext hs
 have i3 := i3.ext hs
 have o8 := o8.ext hs
 have e9 := hr
 refine EL_mw v7 rfl rfl ?_
 obtain ⟨aD, iE, h⟩ := bsome h
 refine EL_do .plain rfl (D_call (g := iI) (vs := [v7]) en32 (.cons rfl .nil) (wk32 r7 iE) fun kI oL lI hs hr => ?_)
 have hfr := hfr.ext hs
 have r7 := r7.ext hs
 have o7 := o7.ext hs
 have o0 := o0.ext hs
 have u0 := u0.ext hs
 have j1 := j1.ext hs
 have b44 := b44.ext hs
 have i3 := i3.ext hs
 have o8 := o8.ext hs
 have e9 := e9.ext hs
 have zA := hr
 obtain ⟨bD, jE, h⟩ := bsome h
 refine EL_do .plain rfl (D_call (g := kI) (vs := [.int .i64 (5), .int .i64 (6)]) en49 (.cons rfl (.cons rfl .nil)) (wk49  jE) fun mI pL nI hs hr => ?_)
 have hfr := hfr.ext hs
 have r7 := r7.ext hs
 have o7 := o7.ext hs
 have o0 := o0.ext hs
 have u0 := u0.ext hs
 have j1 := j1.ext hs
 have b44 := b44.ext hs
 have i3 := i3.ext hs
 have o8 := o8.ext hs
 have e9 := e9.ext hs
 have zA := zA.ext hs
 have oI := hr
 obtain ⟨l6, kE, h⟩ := bsome h
 refine EL_do .plain rfl (D_call (g := mI) (vs := [eI, jI, lI, nI]) en33 (.cons rfl (.cons rfl (.cons rfl (.cons rfl .nil)))) (wk33 o8 e9 zA oI kE) fun pI qL kN hs hr => ?_)
 have hfr := hfr.ext hs
 have r7 := r7.ext hs
 have o7 := o7.ext hs
 have o0 := o0.ext hs
 have u0 := u0.ext hs
 have j1 := j1.ext hs
 have b44 := b44.ext hs
 have i3 := i3.ext hs
 obtain ⟨l5, uJ, rfl, o3, rfl⟩ := hr
 refine EL_mw (.tuple #[l5, .int .i64 (l6.2)]) rfl rfl ?_
 refine EL_pur (v := l5) (P_extract rfl rfl) .plain rfl ?_
 refine EL_pur (v := .int .i64 (l6.2)) (P_extract rfl rfl) .plain rfl ?_
 refine EL_at l5 rfl rfl ?_
 refine EL_at (.int .i64 (l6.2)) rfl rfl ?_
 refine EL_nil (thn_n (E_seq (E_region ?_)))
 obtain ⟨cD, lE, h⟩ := bsome h
 refine EL_do .plain rfl (D_call (g := pI) (vs := []) en47 .nil (wk47  lE) fun qI rL rI hs hr => ?_)
 have hfr := hfr.ext hs
 have r7 := r7.ext hs
 have o7 := o7.ext hs
 have o0 := o0.ext hs
 have u0 := u0.ext hs
 have j1 := j1.ext hs
 have b44 := b44.ext hs
 have i3 := i3.ext hs
 have o3 := o3.ext hs
 have p8 := hr
 obtain ⟨dD, mE, h⟩ := bsome h
 refine EL_do .plain rfl (D_call (g := qI) (vs := [.int .i64 (1), .int .i64 (8)]) en48 (.cons rfl (.cons rfl .nil)) (wk48  mE) fun sI tL tI hs hr => ?_)
 have hfr := hfr.ext hs
 have r7 := r7.ext hs
 have o7 := o7.ext hs
 have o0 := o0.ext hs
 have u0 := u0.ext hs
 have j1 := j1.ext hs
 have b44 := b44.ext hs
 have i3 := i3.ext hs
 have o3 := o3.ext hs
 have p8 := p8.ext hs
 have g9 := hr
 refine EL_mw v7 rfl rfl ?_
 obtain ⟨eD, nE, h⟩ := bsome h
 refine EL_do .plain rfl (D_call (g := sI) (vs := [v7]) en32 (.cons rfl .nil) (wk32 r7 nE) fun uI uL vI hs hr => ?_)
 have hfr := hfr.ext hs
 have r7 := r7.ext hs
 have o7 := o7.ext hs
 have o0 := o0.ext hs
 have u0 := u0.ext hs
 have j1 := j1.ext hs
 have b44 := b44.ext hs
 have i3 := i3.ext hs
 have o3 := o3.ext hs
 have p8 := p8.ext hs
 have g9 := g9.ext hs
 have aB := hr
 obtain ⟨y70, oE, h⟩ := bsome h
 refine EL_do .plain rfl (D_call (g := uI) (vs := [.int .i64 (5), .int .i64 (6)]) en49 (.cons rfl (.cons rfl .nil)) (wk49  oE) fun xI vL yI hs hr => ?_)
 have hfr := hfr.ext hs
 have r7 := r7.ext hs
 have o7 := o7.ext hs
 have o0 := o0.ext hs
 have u0 := u0.ext hs
 have j1 := j1.ext hs
 have b44 := b44.ext hs
 have i3 := i3.ext hs
 have o3 := o3.ext hs
 have p8 := p8.ext hs
 have g9 := g9.ext hs
 have aB := aB.ext hs
 have zI := hr
 obtain ⟨p4, rE, h⟩ := bsome h
 refine EL_do .plain rfl (D_call (g := xI) (vs := [rI, tI, vI, yI]) en34 (.cons rfl (.cons rfl (.cons rfl (.cons rfl .nil)))) (wk34 p8 g9 aB zI rE) fun aJ xL lN hs hr => ?_)
 have hfr := hfr.ext hs
 have r7 := r7.ext hs
 have o7 := o7.ext hs
 have o0 := o0.ext hs
 have u0 := u0.ext hs
 have j1 := j1.ext hs
 have b44 := b44.ext hs
 have i3 := i3.ext hs
 have o3 := o3.ext hs
 obtain ⟨o5, p5, vJ, rfl, q5, t5, rfl⟩ := hr
 refine EL_mw (.tuple #[o5, p5, .int .i64 (p4.2.2)]) rfl rfl ?_
 refine EL_pur (v := o5) (P_extract rfl rfl) .plain rfl ?_
 refine EL_pur (v := p5) (P_extract rfl rfl) .plain rfl ?_
 refine EL_pur (v := .int .i64 (p4.2.2)) (P_extract rfl rfl) .plain rfl ?_
 refine EL_at o5 rfl rfl ?_
 refine EL_at p5 rfl rfl ?_
 refine EL_at (.int .i64 (p4.2.2)) rfl rfl ?_
 refine EL_nil (thn_n (E_seq (E_region ?_)))
 obtain ⟨y74, sE, h⟩ := bsome h
 refine EL_do .plain rfl (D_call (g := aJ) (vs := []) en47 .nil (wk47  sE) fun bJ yL cJ hs hr => ?_)
 have hfr := hfr.ext hs
 have r7 := r7.ext hs
 have o7 := o7.ext hs
 have o0 := o0.ext hs
 have u0 := u0.ext hs
 have j1 := j1.ext hs
 have b44 := b44.ext hs
 have i3 := i3.ext hs
 have o3 := o3.ext hs
 have q5 := q5.ext hs
 have t5 := t5.ext hs
 have i9 := hr
 obtain ⟨gD, tE, h⟩ := bsome h
 refine EL_do .plain rfl (D_call (g := bJ) (vs := [.int .i64 (3), .int .i64 (8)]) en48 (.cons rfl (.cons rfl .nil)) (wk48  tE) fun dJ zL eJ hs hr => ?_)
 have hfr := hfr.ext hs
 have r7 := r7.ext hs
 have o7 := o7.ext hs
 have o0 := o0.ext hs
 have u0 := u0.ext hs
 have j1 := j1.ext hs
 have b44 := b44.ext hs
 have i3 := i3.ext hs
 have o3 := o3.ext hs
 have q5 := q5.ext hs
 have t5 := t5.ext hs
 have i9 := i9.ext hs
 have bB := hr
 refine EL_mw v7 rfl rfl ?_
 obtain ⟨iD, uE, h⟩ := bsome h
 refine EL_do .plain rfl (D_call (g := dJ) (vs := [v7]) en32 (.cons rfl .nil) (wk32 r7 uE) fun gJ aM iJ hs hr => ?_)
 have hfr := hfr.ext hs
 have r7 := r7.ext hs
 have o7 := o7.ext hs
 have o0 := o0.ext hs
 have u0 := u0.ext hs
 have j1 := j1.ext hs
 have b44 := b44.ext hs
 have i3 := i3.ext hs
 have o3 := o3.ext hs
 have q5 := q5.ext hs
 have t5 := t5.ext hs
 have i9 := i9.ext hs
 have bB := bB.ext hs
 have jJ := hr
 obtain ⟨y80, vE, h⟩ := bsome h
 refine EL_do .plain rfl (D_call (g := gJ) (vs := [cJ, eJ, iJ]) en40 (.cons rfl (.cons rfl (.cons rfl .nil))) (wk40 i9 bB jJ vE) fun kJ bM mN hs hr => ?_)
 have hfr := hfr.ext hs
 have r7 := r7.ext hs
 have o7 := o7.ext hs
 have o0 := o0.ext hs
 have u0 := u0.ext hs
 have j1 := j1.ext hs
 have b44 := b44.ext hs
 have i3 := i3.ext hs
 have o3 := o3.ext hs
 have q5 := q5.ext hs
 have t5 := t5.ext hs
 obtain ⟨xJ, yJ, rfl, rfl, rfl⟩ := hr
 refine EL_mw (.tuple #[.int .i64 (y80.1), .int .i64 (y80.2)]) rfl rfl ?_
 refine EL_pur (v := .int .i64 (y80.1)) (P_extract rfl rfl) .plain rfl ?_
 refine EL_pur (v := .int .i64 (y80.2)) (P_extract rfl rfl) .plain rfl ?_
 refine EL_at (.int .i64 (y80.1)) rfl rfl ?_
 refine EL_at (.int .i64 (y80.2)) rfl rfl ?_
 refine EL_nil (thn_n (E_joinC h (fun (s : Unit) e w => ∃ (g : Gh) , Fr gI wI g w ∧ e 1 = v7 ∧ RV g.m w (([y2, y4, y6] : List LoomRun) : List LoomRun) v7 ∧ OS 3026 g w 76 (([y2, y4, y6] : List LoomRun) : List LoomRun) v7 ∧ e 2 = x5 ∧ RV g.m w (v6.1 : List LoomRun) x5 ∧ e 6 = z4 ∧ RV g.m w (d6.1 : List Int) z4 ∧ e 8 = d5 ∧ RV g.m w (i6.1 : List Int) d5 ∧ e 11 = p9 ∧ OB 2011 g w 48 (z3.1 : Span) p9 ∧ e 12 = .int .i64 (z3.2.1) ∧ e 14 = i5 ∧ RV g.m w (j6.1 : List Int) i5 ∧ e 16 = l5 ∧ RV g.m w (l6.1 : List Int) l5 ∧ e 18 = o5 ∧ RV g.m w (p4.1 : List LoomRun) o5 ∧ e 19 = p5 ∧ RV g.m w (p4.2.1 : List Int) p5 ∧ e 21 = .int .i64 (y80.1)) (fun X99 jD xE h => ?_) ?_))
 ·obtain ⟨u5, hx, h⟩ := bsome h
  refine E_join (fun e w => ∃ (g : Gh) , Fr gI wI g w ∧ e 1 = v7 ∧ RV g.m w (([y2, y4, y6] : List LoomRun) : List LoomRun) v7 ∧ OS 3026 g w 76 (([y2, y4, y6] : List LoomRun) : List LoomRun) v7 ∧ e 2 = x5 ∧ RV g.m w (v6.1 : List LoomRun) x5 ∧ e 6 = z4 ∧ RV g.m w (d6.1 : List Int) z4 ∧ e 8 = d5 ∧ RV g.m w (i6.1 : List Int) d5 ∧ e 11 = p9 ∧ OB 2011 g w 48 (z3.1 : Span) p9 ∧ e 12 = .int .i64 (z3.2.1) ∧ e 14 = i5 ∧ RV g.m w (j6.1 : List Int) i5 ∧ e 16 = l5 ∧ RV g.m w (l6.1 : List Int) l5 ∧ e 18 = o5 ∧ RV g.m w (p4.1 : List LoomRun) o5 ∧ e 19 = p5 ∧ RV g.m w (p4.2.1 : List Int) p5 ∧ e 21 = .int .i64 (y80.1) ∧ e 129 = .bool (u5)) (fun Q' hQ => ?_) (fun zJ cM hR => ?_)
  ·replace h := hx
   clear hx
   refine E_region (EL_mw (.int .i64 (v6.2)) rfl rfl ?_)
   refine EL_in (.bool ((v6.2 != (0 : Int)))) rfl rfl rfl rfl ?_
   refine EL_mw (.bool ((v6.2 != (0 : Int)))) rfl rfl ?_
   rcases csome h with ⟨m7, h⟩ | ⟨m7, h⟩
   ·cases h
   ·refine EL_pur (v := .int .i64 (z6.2)) (P_move rfl) (.yes2 rfl rfl m7) rfl ?_
    refine EL_pur (v := .bool ((z6.2 != (9 : Int)))) (P_int rfl rfl rfl) (.yes2 rfl rfl m7) rfl ?_
    refine EL_pur (v := .bool ((z6.2 != (9 : Int)))) (P_pick (b := (v6.2 != (0 : Int))) rfl (pick_f m7 rfl)) .plain rfl ?_
    refine EL_mw (.bool ((z6.2 != (9 : Int)))) rfl rfl ?_
    rcases csome h with ⟨n7, h⟩ | ⟨n7, h⟩
    ·cases h
    ·refine EL_pur (v := .int .i64 (d6.2)) (P_move rfl) (.yes2 rfl rfl n7) rfl ?_
     refine EL_pur (v := .bool ((d6.2 != (0 : Int)))) (P_int rfl rfl rfl) (.yes2 rfl rfl n7) rfl ?_
     refine EL_pur (v := .bool ((d6.2 != (0 : Int)))) (P_pick (b := (z6.2 != (9 : Int))) rfl (pick_f n7 rfl)) .plain rfl ?_
     refine EL_mw (.bool ((d6.2 != (0 : Int)))) rfl rfl ?_
     rcases csome h with ⟨p7, h⟩ | ⟨p7, h⟩
     ·cases h
     ·refine EL_pur (v := .int .i64 (i6.2)) (P_move rfl) (.yes2 rfl rfl p7) rfl ?_
      refine EL_pur (v := .bool ((i6.2 != (0 : Int)))) (P_int rfl rfl rfl) (.yes2 rfl rfl p7) rfl ?_
      refine EL_pur (v := .bool ((i6.2 != (0 : Int)))) (P_pick (b := (d6.2 != (0 : Int))) rfl (pick_f p7 rfl)) .plain rfl ?_
      refine EL_mw (.bool ((i6.2 != (0 : Int)))) rfl rfl ?_
      rcases csome h with ⟨q7, h⟩ | ⟨q7, h⟩
      ·cases h
      ·refine EL_pur (v := .int .i64 (z3.2.2)) (P_move rfl) (.yes2 rfl rfl q7) rfl ?_
       refine EL_pur (v := .bool ((z3.2.2 != (0 : Int)))) (P_int rfl rfl rfl) (.yes2 rfl rfl q7) rfl ?_
       refine EL_pur (v := .bool ((z3.2.2 != (0 : Int)))) (P_pick (b := (i6.2 != (0 : Int))) rfl (pick_f q7 rfl)) .plain rfl ?_
       refine EL_mw (.bool ((z3.2.2 != (0 : Int)))) rfl rfl ?_
       rcases csome h with ⟨t7, h⟩ | ⟨t7, h⟩
       ·cases h
       ·refine EL_pur (v := .int .i64 (j6.2)) (P_move rfl) (.yes2 rfl rfl t7) rfl ?_
        refine EL_pur (v := .bool ((j6.2 != (0 : Int)))) (P_int rfl rfl rfl) (.yes2 rfl rfl t7) rfl ?_
        refine EL_pur (v := .bool ((j6.2 != (0 : Int)))) (P_pick (b := (z3.2.2 != (0 : Int))) rfl (pick_f t7 rfl)) .plain rfl ?_
        refine EL_mw (.bool ((j6.2 != (0 : Int)))) rfl rfl ?_
        rcases csome h with ⟨u7, h⟩ | ⟨u7, h⟩
        ·cases h
        ·refine EL_pur (v := .int .i64 (l6.2)) (P_move rfl) (.yes2 rfl rfl u7) rfl ?_
         refine EL_pur (v := .bool ((l6.2 != (0 : Int)))) (P_int rfl rfl rfl) (.yes2 rfl rfl u7) rfl ?_
         refine EL_pur (v := .bool ((l6.2 != (0 : Int)))) (P_pick (b := (j6.2 != (0 : Int))) rfl (pick_f u7 rfl)) .plain rfl ?_
         refine EL_mw (.bool ((l6.2 != (0 : Int)))) rfl rfl ?_
         rcases csome h with ⟨c8, h⟩ | ⟨c8, h⟩
         ·cases h
         ·refine EL_pur (v := .int .i64 (p4.2.2)) (P_move rfl) (.yes2 rfl rfl c8) rfl ?_
          refine EL_pur (v := .bool ((p4.2.2 != (0 : Int)))) (P_int rfl rfl rfl) (.yes2 rfl rfl c8) rfl ?_
          refine EL_pur (v := .bool ((p4.2.2 != (0 : Int)))) (P_pick (b := (l6.2 != (0 : Int))) rfl (pick_f c8 rfl)) .plain rfl ?_
          refine EL_mw (.bool ((p4.2.2 != (0 : Int)))) rfl rfl ?_
          rcases csome h with ⟨e8, h⟩ | ⟨e8, h⟩
          ·cases h
          ·refine EL_pur (v := .int .i64 (y80.2)) (P_move rfl) (.yes2 rfl rfl e8) rfl ?_
           refine EL_pur (v := .bool ((y80.2 != (6 : Int)))) (P_int rfl rfl rfl) (.yes2 rfl rfl e8) rfl ?_
           refine EL_pur (v := .bool ((y80.2 != (6 : Int)))) (P_pick (b := (p4.2.2 != (0 : Int))) rfl (pick_f e8 rfl)) .plain rfl ?_
           refine EL_nil ?_
           obtain rfl := sinj h
           exact hQ _ _ ⟨kJ, hfr, rfl, r7, o7, rfl, o0, rfl, u0, rfl, j1, rfl, b44, rfl, rfl, i3, rfl, o3, rfl, q5, rfl, t5, rfl, rfl⟩
  ·clear hx
   obtain ⟨yE, hfr, cB, dB, eB, iB, jB, kB, lB, mB, nB, q9, r9, t9, u9, z9, bA, cA, dA, eA, gA, iA, jA, q8⟩ := hR
   rcases csome h with ⟨d9, h⟩ | ⟨d9, h⟩
   ·refine E_cond_true (Eq.trans (show ev _ _ = .bool (u5) from q8) (congrArg Value.bool d9)) ?_
    refine E_seq (E_region (EL_at (.bool false) rfl rfl ?_))
    refine EL_nil (thn_n (E_ret (thn_r ?_)))
    obtain rfl := sinj h
    exact end1 rfl rfl (show _ = .bool false from rfl) ⟨_, hfr, rfl⟩
   ·refine E_cond_false (Eq.trans (show ev _ _ = .bool (u5) from q8) (congrArg Value.bool d9)) ?_
    exact E_skip (thn_n (xE () _ _ ⟨yE, hfr, cB, dB, eB, iB, jB, kB, lB, mB, nB, q9, r9, t9, u9, z9, bA, cA, dA, eA, gA, iA, jA⟩ h))
 ·rintro _ aK dM ⟨zE, hfr, oB, pB, lJ, qB, rB, sB, x6, tB, m4, kA, d4, lA, mA, u3, nA, j3, oA, d3, pA, z2, qA⟩ h
  obtain ⟨a7, hx, h⟩ := bsome h
  refine E_join (fun e w => ∃ (g : Gh) , Fr gI wI g w ∧ e 0 = .bool (a7)) (fun Q' hQ => ?_) (fun bK eM hR => ?_)
  ·replace h := hx
   clear hx
   refine E_region (EL_mv qB rfl ?_)
   refine EL_mv oB rfl ?_
   obtain ⟨y157, xB, h⟩ := bsome h
   refine EL_do .plain rfl (D_call (g := zE) (vs := [x5, v7]) en22 (.cons rfl (.cons rfl .nil)) (wk22 rB pB xB) fun cF cK gM hs hr => ?_)
   have hfr := hfr.ext hs
   have x6 := x6.ext hs
   have m4 := m4.ext hs
   have d4 := d4.ext hs
   have u3 := u3.ext hs
   have j3 := j3.ext hs
   have d3 := d3.ext hs
   have z2 := z2.ext hs
   subst hr
   refine EL_mw (.bool (y157)) rfl rfl ?_
   rcases csome h with ⟨b7, h⟩ | ⟨b7, h⟩
   ·refine EL_pur (v := z4) (P_move sB) (.yes2 rfl rfl b7) rfl ?_
    refine EL_do (.yes2 rfl rfl b7) rfl (D_buildSlice (g := cF) 3135 (xs := ([(0 : Int), (1 : Int), (2 : Int)] : List Int)) (vs := [.int .i64 (0), .int .i64 (1), .int .i64 (2)]) Try.underlying22 Try.sizeOf3 Try.zeroValue3 rfl rfl (.cons rfl (.cons rfl (.cons rfl .nil))) (RVs.cons (RV_int.2 rfl) (RVs.cons (RV_int.2 rfl) (RVs.cons (RV_int.2 rfl) RVs.nil))) rfl rfl fun dF iM eF hs o159 gF hxt hfl => ?_)
    have hfr := hfr.stp hs
    have x6 := x6.stp hs
    have m4 := m4.stp hs
    have d4 := d4.stp hs rfl
    have u3 := u3.stp hs
    have j3 := j3.stp hs
    have d3 := d3.stp hs
    have z2 := z2.stp hs
    obtain ⟨y161, yB, h⟩ := bsome h
    refine EL_do (.yes2 rfl rfl b7) rfl (D_call (g := dF) (vs := [z4, eF]) en28 (.cons rfl (.cons rfl .nil)) (wk28 x6 gF yB) fun iF dK jM hs hr => ?_)
    have hfr := hfr.ext hs
    have m4 := m4.ext hs
    have d4 := d4.ext hs
    have u3 := u3.ext hs
    have j3 := j3.ext hs
    have d3 := d3.ext hs
    have z2 := z2.ext hs
    subst hr
    refine EL_pur (v := .bool (y161)) (P_pick (b := y157) rfl (pick_t b7 rfl)) .plain rfl ?_
    refine EL_mw (.bool (y161)) rfl rfl ?_
    rcases csome h with ⟨c7, h⟩ | ⟨c7, h⟩
    ·refine EL_pur (v := d5) (P_move tB) (.yes2 rfl rfl c7) rfl ?_
     refine EL_do (.yes2 rfl rfl c7) rfl (D_buildSlice (g := iF) 3140 (xs := ([(0 : Int)] : List Int)) (vs := [.int .i64 (0)]) Try.underlying22 Try.sizeOf3 Try.zeroValue3 rfl rfl (.cons rfl .nil) (RVs.cons (RV_int.2 rfl) RVs.nil) rfl rfl fun jF kM kF hs o163 lF hxt hfl => ?_)
     have hfr := hfr.stp hs
     have m4 := m4.stp hs
     have d4 := d4.stp hs rfl
     have u3 := u3.stp hs
     have j3 := j3.stp hs
     have d3 := d3.stp hs
     have z2 := z2.stp hs
     obtain ⟨y165, zB, h⟩ := bsome h
     refine EL_do (.yes2 rfl rfl c7) rfl (D_call (g := jF) (vs := [d5, kF]) en28 (.cons rfl (.cons rfl .nil)) (wk28 m4 lF zB) fun n9 aC mM hs hr => ?_)
     have hfr := hfr.ext hs
     have d4 := d4.ext hs
     have u3 := u3.ext hs
     have j3 := j3.ext hs
     have d3 := d3.ext hs
     have z2 := z2.ext hs
     subst hr
     refine EL_pur (v := .bool (y165)) (P_pick (b := y161) rfl (pick_t c7 rfl)) .plain rfl ?_
     refine EL_mw (.bool (y165)) rfl rfl ?_
     rcases csome h with ⟨d7, h⟩ | ⟨d7, h⟩
     ·refine EL_do (.yes2 rfl rfl d7) rfl (D_loadO (g := n9) Try.isAgg48 Try.sizeOf48 kA d4 fun nM mF => ?_)
      have uB : RV n9.m aC (⟨0, (20 : Int)⟩ : Span) (.agg (setCh [[.int .i64 0], [.int .i64 0]] [(1, .int .i64 (20))]).flatten.toArray) := RV_build rfl (rep_pair (rep_int) (rep_last (rfl)))
      generalize bC : (Value.agg (setCh [[.int .i64 0], [.int .i64 0]] [(1, .int .i64 (20))]).flatten.toArray) = nF at uB
      refine EL_pur (v := nF) (bC ▸ P_build (vs := [(1, .int .i64 (20))]) [[.int .i64 0], [.int .i64 0]] lay_48 rfl rfl (.cons rfl .nil) ⟨⟨_, rfl, rfl⟩, trivial⟩) (.yes2 rfl rfl d7) rfl ?_
      refine EL_pur (v := .bool ((decide (z3.1 = (⟨0, (20 : Int)⟩ : Span))))) (P_seq seq_48 rfl eg_48 rfl rfl mF uB) (.yes2 rfl rfl d7) rfl ?_
      refine EL_pur (v := .bool ((decide (z3.1 = (⟨0, (20 : Int)⟩ : Span))))) (P_pick (b := y165) rfl (pick_t d7 rfl)) .plain rfl ?_
      refine EL_mw (.bool ((decide (z3.1 = (⟨0, (20 : Int)⟩ : Span))))) rfl rfl ?_
      rcases csome h with ⟨i8, h⟩ | ⟨i8, h⟩
      ·refine EL_pur (v := .int .i64 (z3.2.1)) (P_move lA) (.yes2 rfl rfl i8) rfl ?_
       refine EL_pur (v := .bool ((z3.2.1 == (45 : Int)))) (P_int rfl rfl rfl) (.yes2 rfl rfl i8) rfl ?_
       refine EL_pur (v := .bool ((z3.2.1 == (45 : Int)))) (P_pick (b := (decide (z3.1 = (⟨0, (20 : Int)⟩ : Span)))) rfl (pick_t i8 rfl)) .plain rfl ?_
       refine EL_mw (.bool ((z3.2.1 == (45 : Int)))) rfl rfl ?_
       rcases csome h with ⟨e7, h⟩ | ⟨e7, h⟩
       ·refine EL_pur (v := i5) (P_move mA) (.yes2 rfl rfl e7) rfl ?_
        refine EL_do (.yes2 rfl rfl e7) rfl (D_buildSlice (g := n9) 3154 (xs := ([(1 : Int)] : List Int)) (vs := [.int .i64 (1)]) Try.underlying22 Try.sizeOf3 Try.zeroValue3 rfl rfl (.cons rfl .nil) (RVs.cons (RV_int.2 rfl) RVs.nil) rfl rfl fun oF oM pF hs o171 qF hxt hfl => ?_)
        have hfr := hfr.stp hs
        have u3 := u3.stp hs
        have j3 := j3.stp hs
        have d3 := d3.stp hs
        have z2 := z2.stp hs
        obtain ⟨l8, cC, h⟩ := bsome h
        refine EL_do (.yes2 rfl rfl e7) rfl (D_call (g := oF) (vs := [i5, pF]) en28 (.cons rfl (.cons rfl .nil)) (wk28 u3 qF cC) fun rF eK pM hs hr => ?_)
        have hfr := hfr.ext hs
        have j3 := j3.ext hs
        have d3 := d3.ext hs
        have z2 := z2.ext hs
        subst hr
        refine EL_pur (v := .bool (l8)) (P_pick (b := (z3.2.1 == (45 : Int))) rfl (pick_t e7 rfl)) .plain rfl ?_
        refine EL_mw (.bool (l8)) rfl rfl ?_
        rcases csome h with ⟨i7, h⟩ | ⟨i7, h⟩
        ·refine EL_pur (v := l5) (P_move nA) (.yes2 rfl rfl i7) rfl ?_
         refine EL_do (.yes2 rfl rfl i7) rfl (D_buildSlice (g := rF) 3159 (xs := ([(0 : Int)] : List Int)) (vs := [.int .i64 (0)]) Try.underlying22 Try.sizeOf3 Try.zeroValue3 rfl rfl (.cons rfl .nil) (RVs.cons (RV_int.2 rfl) RVs.nil) rfl rfl fun sF qM tF hs o175 uF hxt hfl => ?_)
         have hfr := hfr.stp hs
         have j3 := j3.stp hs
         have d3 := d3.stp hs
         have z2 := z2.stp hs
         obtain ⟨y177, dC, h⟩ := bsome h
         refine EL_do (.yes2 rfl rfl i7) rfl (D_call (g := sF) (vs := [l5, tF]) en28 (.cons rfl (.cons rfl .nil)) (wk28 j3 uF dC) fun vF lK rM hs hr => ?_)
         have hfr := hfr.ext hs
         have d3 := d3.ext hs
         have z2 := z2.ext hs
         subst hr
         refine EL_pur (v := .bool (y177)) (P_pick (b := l8) rfl (pick_t i7 rfl)) .plain rfl ?_
         refine EL_mw (.bool (y177)) rfl rfl ?_
         rcases csome h with ⟨c6, h⟩ | ⟨c6, h⟩
         ·refine EL_pur (v := o5) (P_move oA) (.yes2 rfl rfl c6) rfl ?_
          obtain ⟨y180, eC, h⟩ := bsome h
          refine EL_do (.yes2 rfl rfl c6) rfl (D_call (g := vF) (vs := [.int .i64 (0), .int .i64 (0), .int .i64 (7)]) en46 (.cons rfl (.cons rfl (.cons rfl .nil))) (wk46  eC) fun xF mK yF hs hr => ?_)
          have hfr := hfr.ext hs
          have d3 := d3.ext hs
          have z2 := z2.ext hs
          have t8 := hr
          obtain ⟨j9, iC, h⟩ := bsome h
          refine EL_do (.yes2 rfl rfl c6) rfl (D_call (g := xF) (vs := [.int .i64 (1), .int .i64 (1), .int .i64 (0)]) en46 (.cons rfl (.cons rfl (.cons rfl .nil))) (wk46  iC) fun zF nK aG hs hr => ?_)
          have hfr := hfr.ext hs
          have d3 := d3.ext hs
          have z2 := z2.ext hs
          have t8 := t8.ext hs
          have o9 := hr
          obtain ⟨k9, jC, h⟩ := bsome h
          refine EL_do (.yes2 rfl rfl c6) rfl (D_call (g := zF) (vs := [.int .i64 (2), .int .i64 (0), .int .i64 (17)]) en46 (.cons rfl (.cons rfl (.cons rfl .nil))) (wk46  jC) fun bG oK cG hs hr => ?_)
          have hfr := hfr.ext hs
          have d3 := d3.ext hs
          have z2 := z2.ext hs
          have t8 := t8.ext hs
          have o9 := o9.ext hs
          have dG := hr
          refine EL_do (.yes2 rfl rfl c6) rfl (D_buildSlice (g := bG) 3167 (xs := ([y180, j9, k9] : List LoomRun)) (vs := [yF, aG, cG]) Try.underlying31 Try.sizeOf76 Try.zeroValue76 rfl rfl (.cons rfl (.cons rfl (.cons rfl .nil))) (RVs.cons t8 (RVs.cons o9 (RVs.cons dG RVs.nil))) rfl rfl fun eG sM gG hs o185 hG hxt hfl => ?_)
          have hfr := hfr.stp hs
          have d3 := d3.stp hs
          have z2 := z2.stp hs
          obtain ⟨m8, kC, h⟩ := bsome h
          refine EL_do (.yes2 rfl rfl c6) rfl (D_call (g := eG) (vs := [o5, gG]) en22 (.cons rfl (.cons rfl .nil)) (wk22 d3 hG kC) fun iG pK tM hs hr => ?_)
          have hfr := hfr.ext hs
          have z2 := z2.ext hs
          subst hr
          refine EL_pur (v := .bool (m8)) (P_pick (b := y177) rfl (pick_t c6 rfl)) .plain rfl ?_
          refine EL_mw (.bool (m8)) rfl rfl ?_
          rcases csome h with ⟨j7, h⟩ | ⟨j7, h⟩
          ·refine EL_pur (v := p5) (P_move pA) (.yes2 rfl rfl j7) rfl ?_
           refine EL_do (.yes2 rfl rfl j7) rfl (D_buildSlice (g := iG) 3172 (xs := ([(2 : Int)] : List Int)) (vs := [.int .i64 (2)]) Try.underlying22 Try.sizeOf3 Try.zeroValue3 rfl rfl (.cons rfl .nil) (RVs.cons (RV_int.2 rfl) RVs.nil) rfl rfl fun jG uM kG hs o189 lG hxt hfl => ?_)
           have hfr := hfr.stp hs
           have z2 := z2.stp hs
           obtain ⟨n8, lC, h⟩ := bsome h
           refine EL_do (.yes2 rfl rfl j7) rfl (D_call (g := jG) (vs := [p5, kG]) en28 (.cons rfl (.cons rfl .nil)) (wk28 z2 lG lC) fun mG qK vM hs hr => ?_)
           have hfr := hfr.ext hs
           subst hr
           refine EL_pur (v := .bool (n8)) (P_pick (b := m8) rfl (pick_t j7 rfl)) .plain rfl ?_
           refine EL_mw (.bool (n8)) rfl rfl ?_
           rcases csome h with ⟨k8, h⟩ | ⟨k8, h⟩
           ·refine EL_pur (v := .int .i64 (y80.1)) (P_move qA) (.yes2 rfl rfl k8) rfl ?_
            refine EL_pur (v := .bool ((y80.1 == (2 : Int)))) (P_int rfl rfl rfl) (.yes2 rfl rfl k8) rfl ?_
            refine EL_pur (v := .bool ((y80.1 == (2 : Int)))) (P_pick (b := n8) rfl (pick_t k8 rfl)) .plain rfl ?_
            refine EL_at (.bool ((y80.1 == (2 : Int)))) rfl rfl ?_
            refine EL_nil ?_
            obtain rfl := sinj h
            exact hQ _ _ ⟨mG, hfr, rfl⟩
           ·cases h
          ·cases h
         ·cases h
        ·cases h
       ·cases h
      ·cases h
     ·cases h
    ·cases h
   ·cases h
  ·clear hx
   obtain ⟨xM, hfr, vB⟩ := hR
   refine E_ret ?_
   obtain rfl := sinj h
   exact end1 rfl rfl (show _ = .bool (a7) from vB) ⟨_, hfr, rfl⟩
end Go.Proofs.Ytnfjhdagbknlbaa
