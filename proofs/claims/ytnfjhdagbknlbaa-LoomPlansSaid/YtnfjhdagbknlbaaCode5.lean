import Derived.Test.YtnfjhdagbknlbaaCode4
set_option maxRecDepth 8000
set_option maxHeartbeats 4000000
namespace Go.Proofs.Ytnfjhdagbknlbaa
open Go.RowKit
/-- (griffe/loom.mill).one -/
def f93 (x0 : LoomLoomMill) (x1 : List LoomRun) (x2 : Int) : Option (Int) :=
 (idx x1 x2).bind fun y2 =>
 jn (σ := Unit) (fun (_ : Unit) =>
  some ((0 : Int))
  ) fun k6 =>
 Option.bind (α := Bool) (
  (f81 ((0 : Int)) ((w64 ((((x0).orders).length : Int) - (1 : Int)))) (([(y2).Order] : List Int))).bind fun z3 =>
  bif (!z3) then
   some ((!z3))
  else
   (f81 ((0 : Int)) ((w64 (((((x0).LoomMill).Widths).length : Int) - (1 : Int)))) (([(y2).Loom] : List Int))).bind fun c4 =>
   bif (!c4) then
    some ((!c4))
   else
    (f71 (([(y2).From] : List Int))).bind fun x4 =>
    some ((!x4))
  ) fun z1 =>
 bif z1 then
  some ((7 : Int))
 else
  Option.bind (α := Bool) (
   bif (decide (x2 > (0 : Int))) then
    (idx x1 (w64 (x2 - (1 : Int)))).bind fun o3 =>
    some ((decide ((y2).Order ≤ (o3).Order)))
   else
    some (false)
   ) fun j2 =>
  bif j2 then
   some ((4 : Int))
  else
   (idx ((x0).orders) (y2).Order).bind fun d4 =>
   (idx (((x0).LoomMill).Widths) (y2).Loom).bind fun i4 =>
   bif (decide ((d4).Width > i4)) then
    some ((2 : Int))
   else
    Option.bind (α := Bool) (
     (idx ((x0).orders) (y2).Order).bind fun p3 =>
     bif (decide ((y2).From < (p3).Early)) then
      some ((decide ((y2).From < (p3).Early)))
     else
      (f73 x0 y2).bind fun u3 =>
      (idx ((x0).orders) (y2).Order).bind fun j4 =>
      some ((decide (u3 > (j4).Late)))
     ) fun z2 =>
    bif z2 then
     some ((3 : Int))
    else
     k6 ()
theorem en93 : Enters Try.prog 93 := enters_of Try.func93 (by kernel_rfl) rfl
theorem wk93 {gI : Gh} {wI : World} {x0 : LoomLoomMill} {x1 : List LoomRun} {x2 : Int} {up0 : Value} (rp0 : RV gI.m wI x0 up0) {up1 : Value} (rp1 : RV gI.m wI x1 up1) {r : Int} (h : f93 x0 x1 x2 = some r) : Fn Try.prog 93 #[up0, up1, .int .i64 (x2)] gI wI (fun _ _ v => v = .int .i64 (r)) := by
 unfold f93 at h
 refine fn_of_E Try.func93 rfl (Nat.le_of_ble_eq_true rfl) fun g0 hm hfr => ?_
 have rp0 : RV g0.m wI x0 up0 := hm ▸ rp0
 have rp1 : RV g0.m wI x1 up1 := hm ▸ rp1
 show E _ 89 none _ _ _ _ _
 refine E_seq (E_region (EL_do .plain rfl (D_box (g := g0) rfl rp0 fun g1 w1 p1 hs q1 => ?_)))
 have hfr := hfr.ext hs
 have rp1 := rp1.ext hs
 refine EL_at (.int .i64 (0)) rfl rfl ?_
 refine EL_nil (thn_n (E_seq (E_region (EL_mw up1 rfl rfl ?_))))
 refine EL_mw (.int .i64 (x2)) rfl rfl ?_
 obtain ⟨y2, hy2, h⟩ := bsome h
 refine EL_pur (v := ePtr up1 x2 3) (P_indexAddr (α := LoomRun) Try.underlying31 Try.sizeOf76 rfl rp1 rfl hy2) .plain rfl ?_
 have q3 := PT_idx rp1 hy2
 refine EL_do .plain rfl (D_load (g := g1) Try.isAgg76 Try.sizeOf76 rfl q3 fun v4 r4 => ?_)
 refine EL_do .plain rfl (D_allocOc (g := g1) 2007 (⟨0, 0, 0⟩ : LoomRun) Try.zeroValue76 (fun m w => ⟨_, (rep_two rep_int (rep_two rep_int rep_int)), rfl⟩) fun g5 w5 p5 hs b5 cb => ?_)
 have hfr := hfr.stp hs
 have rp1 := rp1.stp hs
 have q1 := q1.stp hs
 have r4 := r4.stp hs
 clear cb
 refine EL_do .plain rfl (D_storeOc (g := g5) (v := v4) Try.sizeOf76 rfl b5 rfl r4 fun g6 w6 hs b6 cb => ?_)
 clear cb
 have hfr := hfr.stp hs
 have rp1 := rp1.stp hs
 have q1 := q1.stp hs
 refine EL_nil (thn_n (E_joinC h (fun (s : Unit) e w => ∃ (g : Gh) , Fr gI wI g w) (fun X380 k6 d7 h => ?_) ?_))
 ·refine E_block ?_
  obtain ⟨z1, hx, h⟩ := bsome h
  refine E_join (fun e w => ∃ (g : Gh) , Fr gI wI g w ∧ e 1 = up1 ∧ RV g.m w (x1 : List LoomRun) up1 ∧ e 2 = .int .i64 (x2) ∧ e 3 = p1 ∧ PT g.m w (x0 : LoomLoomMill) p1 ∧ e 7 = p5 ∧ OB 2007 g w 76 (y2 : LoomRun) p5 ∧ e 12 = .bool (z1)) (fun Q' hQ => ?_) (fun mA tA hR => ?_)
  ·replace h := hx
   clear hx
   refine E_seq (E_region (EL_pur (v := fPtr p1 2) (P_fieldAddr at_96_1 rfl (PT.ptr q1)) .plain rfl ?_))
   have j8 := PT_field (part_LoomLoomMill_1).1 q1
   refine EL_do .plain rfl (D_load (g := g6) Try.isAgg25 Try.sizeOf25 rfl j8 fun uA k8 => ?_)
   refine EL_pur (v := .int .i64 (((x0).orders).length : Int)) (P_len Try.underlying25 rfl k8) .plain rfl ?_
   refine EL_pur (v := .int .i64 ((w64 ((((x0).orders).length : Int) - (1 : Int))))) (P_int rfl rfl rfl) .plain rfl ?_
   refine EL_pur (v := fPtr p5 0) (P_fieldAddr at_76_0 rfl (OB.ptr b6)) .plain rfl ?_
   refine EL_do .plain rfl (D_loadF (g := g6) part_LoomRun_0.1 Try.isAgg3 Try.sizeOf3 rfl b6 fun vA l8 => ?_)
   obtain rfl := RV_int.1 l8
   refine EL_do .plain rfl (D_buildSlice (g := g6) 3019 (xs := ([(y2).Order] : List Int)) (vs := [.int .i64 ((y2).Order)]) Try.underlying22 Try.sizeOf3 Try.zeroValue3 rfl rfl (.cons rfl .nil) (RVs.cons (RV_int.2 rfl) RVs.nil) rfl rfl fun m8 xA n8 hs o407 o8 hxt hfl => ?_)
   have hfr := hfr.stp hs
   have rp1 := rp1.stp hs
   have q1 := q1.stp hs
   have b6 := b6.stp hs rfl
   obtain ⟨z3, e7, h⟩ := bsome h
   refine EL_do .plain rfl (D_call (g := m8) (vs := [.int .i64 (0), .int .i64 ((w64 ((((x0).orders).length : Int) - (1 : Int)))), n8]) en81 (.cons rfl (.cons rfl (.cons rfl .nil))) (wk81 o8 e7) fun z4 nA yA hs hr => ?_)
   have hfr := hfr.ext hs
   have rp1 := rp1.ext hs
   have q1 := q1.ext hs
   have b6 := b6.ext hs
   subst hr
   refine EL_pur (v := .bool (!z3)) (P_not rfl) .plain rfl ?_
   refine EL_at (.bool (!z3)) rfl rfl ?_
   refine EL_nil (thn_n ?_)
   rcases csome h with ⟨c5, h⟩ | ⟨c5, h⟩
   ·refine E_ct c5 rfl ?_
    refine E_skip ?_
    obtain rfl := sinj h
    exact hQ _ _ ⟨z4, hfr, rfl, rp1, rfl, rfl, q1, rfl, b6, rfl⟩
   ·refine E_cf c5 rfl ?_
    refine E_seq (E_region (EL_pur (v := fPtr p1 0) (P_fieldAddr at_96_0 rfl (PT.ptr q1)) .plain rfl ?_))
    have l6 := PT_field (part_LoomLoomMill_0).1 q1
    refine EL_pur (v := fPtr (fPtr p1 0) 0) (P_fieldAddr at_24_0 rfl (PT.ptr l6)) .plain rfl ?_
    have p8 := PT_field (part_LoomMill_0).1 l6
    refine EL_do .plain rfl (D_load (g := z4) Try.isAgg22 Try.sizeOf22 rfl p8 fun zA q8 => ?_)
    refine EL_pur (v := .int .i64 ((((x0).LoomMill).Widths).length : Int)) (P_len Try.underlying22 rfl q8) .plain rfl ?_
    refine EL_pur (v := .int .i64 ((w64 (((((x0).LoomMill).Widths).length : Int) - (1 : Int))))) (P_int rfl rfl rfl) .plain rfl ?_
    refine EL_pur (v := fPtr p5 1) (P_fieldAddr at_76_1 rfl (OB.ptr b6)) .plain rfl ?_
    refine EL_do .plain rfl (D_loadF (g := z4) part_LoomRun_1.1 Try.isAgg3 Try.sizeOf3 rfl b6 fun aB r8 => ?_)
    obtain rfl := RV_int.1 r8
    refine EL_do .plain rfl (D_buildSlice (g := z4) 3029 (xs := ([(y2).Loom] : List Int)) (vs := [.int .i64 ((y2).Loom)]) Try.underlying22 Try.sizeOf3 Try.zeroValue3 rfl rfl (.cons rfl .nil) (RVs.cons (RV_int.2 rfl) RVs.nil) rfl rfl fun t8 bB v8 hs o416 x8 hxt hfl => ?_)
    have hfr := hfr.stp hs
    have rp1 := rp1.stp hs
    have q1 := q1.stp hs
    have b6 := b6.stp hs rfl
    obtain ⟨c4, g7, h⟩ := bsome h
    refine EL_do .plain rfl (D_call (g := t8) (vs := [.int .i64 (0), .int .i64 ((w64 (((((x0).LoomMill).Widths).length : Int) - (1 : Int)))), v8]) en81 (.cons rfl (.cons rfl (.cons rfl .nil))) (wk81 x8 g7) fun t5 oA cB hs hr => ?_)
    have hfr := hfr.ext hs
    have rp1 := rp1.ext hs
    have q1 := q1.ext hs
    have b6 := b6.ext hs
    subst hr
    refine EL_pur (v := .bool (!c4)) (P_not rfl) .plain rfl ?_
    refine EL_at (.bool (!c4)) rfl rfl ?_
    refine EL_nil (thn_n ?_)
    rcases csome h with ⟨d5, h⟩ | ⟨d5, h⟩
    ·refine E_ct d5 rfl ?_
     refine E_skip ?_
     obtain rfl := sinj h
     exact hQ _ _ ⟨t5, hfr, rfl, rp1, rfl, rfl, q1, rfl, b6, rfl⟩
    ·refine E_cf d5 rfl ?_
     refine E_region (EL_pur (v := fPtr p5 2) (P_fieldAddr at_76_2 rfl (OB.ptr b6)) .plain rfl ?_)
     refine EL_do .plain rfl (D_loadF (g := t5) part_LoomRun_2.1 Try.isAgg3 Try.sizeOf3 rfl b6 fun dB y8 => ?_)
     obtain rfl := RV_int.1 y8
     refine EL_do .plain rfl (D_buildSlice (g := t5) 3034 (xs := ([(y2).From] : List Int)) (vs := [.int .i64 ((y2).From)]) Try.underlying22 Try.sizeOf3 Try.zeroValue3 rfl rfl (.cons rfl .nil) (RVs.cons (RV_int.2 rfl) RVs.nil) rfl rfl fun z8 eB a9 hs o422 b9 hxt hfl => ?_)
     have hfr := hfr.stp hs
     have rp1 := rp1.stp hs
     have q1 := q1.stp hs
     have b6 := b6.stp hs rfl
     obtain ⟨x4, i7, h⟩ := bsome h
     refine EL_do .plain rfl (D_call (g := z8) (vs := [a9]) en71 (.cons rfl .nil) (wk71 b9 i7) fun c9 pA iB hs hr => ?_)
     have hfr := hfr.ext hs
     have rp1 := rp1.ext hs
     have q1 := q1.ext hs
     have b6 := b6.ext hs
     subst hr
     refine EL_pur (v := .bool (!x4)) (P_not rfl) .plain rfl ?_
     refine EL_at (.bool (!x4)) rfl rfl ?_
     refine EL_nil ?_
     obtain rfl := sinj h
     exact hQ _ _ ⟨c9, hfr, rfl, rp1, rfl, rfl, q1, rfl, b6, rfl⟩
  ·clear hx
   obtain ⟨m6, hfr, n6, o5, m4, q5, d3, n4, j1, o4⟩ := hR
   rcases csome h with ⟨i5, h⟩ | ⟨i5, h⟩
   ·refine E_cond_true (Eq.trans (show ev _ _ = .bool (z1) from o4) (congrArg Value.bool i5)) ?_
    refine E_seq (E_region (EL_at (.int .i64 (7)) rfl rfl ?_))
    refine EL_nil (thn_n (E_ret (blk_r ?_)))
    refine thn_r ?_
    obtain rfl := sinj h
    exact end1 rfl rfl (show _ = .int .i64 (7) from rfl) ⟨_, hfr, rfl⟩
   ·refine E_cond_false (Eq.trans (show ev _ _ = .bool (z1) from o4) (congrArg Value.bool i5)) ?_
    obtain ⟨j2, hx, h⟩ := bsome h
    refine E_join (fun e w => ∃ (g : Gh) , Fr gI wI g w ∧ e 3 = p1 ∧ PT g.m w (x0 : LoomLoomMill) p1 ∧ e 7 = p5 ∧ OB 2007 g w 76 (y2 : LoomRun) p5 ∧ e 37 = .bool (j2)) (fun Q' hQ => ?_) (fun qA jB hR => ?_)
    ·replace h := hx
     clear hx
     rcases csome h with ⟨j0, h⟩ | ⟨j0, h⟩
     ·refine L_loadO (x := .tmp 41) part_LoomRun_0.1 Try.isAgg3 Try.sizeOf3 j1 fun kB d9 j7 => ?_
      obtain rfl := RV_int.1 d9
      obtain ⟨o3, z5, h⟩ := bsome h
      have o6 := PT_idx o5 z5
      have e9 := PT_field (part_LoomRun_0).1 o6
      refine L_load (x := .tmp 47) Try.isAgg3 Try.sizeOf3 e9 fun lB g9 m7 => ?_
      obtain rfl := RV_int.1 g9
      refine E_drawL (g := m6) (n := 14) [] [0, 1, 2, 3, 4, 5, 6, 7, 8, 9, 10, 11, 12, 13] rfl mixed (by kernel_rfl) trivial ?_
      refine L_pur (c := .int .i64 (x2)) rfl rfl .plain (fun _ _ hd => P_move m4) ?_
      refine L_pur (c := .bool ((decide (x2 > (0 : Int))))) rfl rfl .plain (fun _ _ hd => P_int rfl rfl rfl) ?_
      refine L_pur (c := .bool ((decide (x2 > (0 : Int))))) rfl rfl .plain (fun _ _ hd => P_move rfl) ?_
      refine L_pur (c := fPtr p5 0) rfl rfl (.yes2 rfl rfl j0) (fun _ _ hd => P_fieldAddr at_76_0 n4 (OB.ptr j1)) ?_
      refine L_ld (c := .int .i64 ((y2).Order)) rfl rfl (.yes2 rfl rfl j0) (fun _ _ h => ⟨h.ch, fun b hb _ => h.below.block b hb⟩) j7 rfl ?_
      refine L_pur (c := up1) rfl rfl (.yes2 rfl rfl j0) (fun _ _ hd => P_move n6) ?_
      refine L_pur (c := .int .i64 (x2)) rfl rfl (.yes2 rfl rfl j0) (fun _ _ hd => P_move m4) ?_
      refine L_pur (c := .int .i64 ((w64 (x2 - (1 : Int))))) rfl rfl (.yes2 rfl rfl j0) (fun _ _ hd => P_int rfl rfl rfl) ?_
      refine L_pur (c := ePtr up1 (w64 (x2 - (1 : Int))) 3) rfl rfl (.yes2 rfl rfl j0) (fun _ _ hd => P_indexAddr (α := LoomRun) Try.underlying31 Try.sizeOf76 rfl o5 rfl z5) ?_
      refine L_pur (c := fPtr (ePtr up1 (w64 (x2 - (1 : Int))) 3) 0) rfl rfl (.yes2 rfl rfl j0) (fun _ _ hd => P_fieldAddr at_76_0 rfl (PT.ptr o6)) ?_
      refine L_ld (c := .int .i64 ((o3).Order)) rfl rfl (.yes2 rfl rfl j0) (fun _ _ h => h.ch) m7 rfl ?_
      refine L_pur (c := .bool ((decide ((y2).Order ≤ (o3).Order)))) rfl rfl (.yes2 rfl rfl j0) (fun _ _ hd => P_int rfl rfl rfl) ?_
      refine L_pur (c := .bool ((decide ((y2).Order ≤ (o3).Order)))) rfl rfl .plain (fun _ _ hd => P_pick (b := (decide (x2 > (0 : Int)))) rfl (pick_t j0 rfl)) ?_
      refine L_pur (c := .bool ((decide ((y2).Order ≤ (o3).Order)))) rfl rfl .plain (fun _ _ hd => P_assign rfl) ?_
      refine L_nil fun i9 mB hall => ?_
      have hs := hall.1
      have hfr := hfr.ext hs
      have d3 := d3.ext hs
      have j1 := j1.ext hs
      clear hs hall
      refine EL_nil ?_
      obtain rfl := sinj h
      exact hQ _ _ ⟨i9, hfr, q5, d3, n4, j1, rfl⟩
     ·refine E_drawL (g := m6) (n := 14) [] [0, 1, 2, 3, 4, 5, 6, 7, 8, 9, 10, 11, 12, 13] rfl mixed (by kernel_rfl) trivial ?_
      refine L_pur (c := .int .i64 (x2)) rfl rfl .plain (fun _ _ hd => P_move m4) ?_
      refine L_pur (c := .bool ((decide (x2 > (0 : Int))))) rfl rfl .plain (fun _ _ hd => P_int rfl rfl rfl) ?_
      refine L_pur (c := .bool ((decide (x2 > (0 : Int))))) rfl rfl .plain (fun _ _ hd => P_move rfl) ?_
      refine L_skip rfl (.no2 rfl rfl j0 rfl) ?_
      refine L_skip rfl (.no2 rfl rfl j0 rfl) ?_
      refine L_skip rfl (.no2 rfl rfl j0 rfl) ?_
      refine L_skip rfl (.no2 rfl rfl j0 rfl) ?_
      refine L_skip rfl (.no2 rfl rfl j0 rfl) ?_
      refine L_skip rfl (.no2 rfl rfl j0 rfl) ?_
      refine L_skip rfl (.no2 rfl rfl j0 rfl) ?_
      refine L_skip rfl (.no2 rfl rfl j0 rfl) ?_
      refine L_skip rfl (.no2 rfl rfl j0 rfl) ?_
      refine L_pur (c := .bool false) rfl rfl .plain (fun _ _ hd => P_pick (b := (decide (x2 > (0 : Int)))) rfl (pick_f j0 rfl)) ?_
      refine L_pur (c := .bool false) rfl rfl .plain (fun _ _ hd => P_assign rfl) ?_
      refine L_nil fun j9 nB hall => ?_
      have hs := hall.1
      have hfr := hfr.ext hs
      have d3 := d3.ext hs
      have j1 := j1.ext hs
      clear hs hall
      refine EL_nil ?_
      obtain rfl := sinj h
      exact hQ _ _ ⟨j9, hfr, q5, d3, n4, j1, rfl⟩
    ·clear hx
     obtain ⟨k9, hfr, j3, u0, i3, o0, p4⟩ := hR
     rcases csome h with ⟨j5, h⟩ | ⟨j5, h⟩
     ·refine E_cond_true (Eq.trans (show ev _ _ = .bool (j2) from p4) (congrArg Value.bool j5)) ?_
      refine E_seq (E_region (EL_at (.int .i64 (4)) rfl rfl ?_))
      refine EL_nil (thn_n (E_ret (blk_r ?_)))
      refine thn_r ?_
      obtain rfl := sinj h
      exact end1 rfl rfl (show _ = .int .i64 (4) from rfl) ⟨_, hfr, rfl⟩
     ·refine E_cond_false (Eq.trans (show ev _ _ = .bool (j2) from p4) (congrArg Value.bool j5)) ?_
      refine E_seq ?_
      have l9 := PT_field (part_LoomLoomMill_1).1 u0
      refine L_load (x := .tmp 52) Try.isAgg25 Try.sizeOf25 l9 fun u5 p6 n7 => ?_
      refine L_loadO (x := .tmp 54) part_LoomRun_0.1 Try.isAgg3 Try.sizeOf3 o0 fun oB m9 o7 => ?_
      obtain rfl := RV_int.1 m9
      obtain ⟨d4, c6, h⟩ := bsome h
      have q6 := PT_idx p6 c6
      have n9 := PT_field (part_LoomOrder_0).1 q6
      refine L_load (x := .tmp 57) Try.isAgg3 Try.sizeOf3 n9 fun pB o9 p7 => ?_
      obtain rfl := RV_int.1 o9
      have r6 := PT_field (part_LoomLoomMill_0).1 u0
      have p9 := PT_field (part_LoomMill_0).1 r6
      refine L_load (x := .tmp 60) Try.isAgg22 Try.sizeOf22 p9 fun t6 u6 q7 => ?_
      refine L_loadO (x := .tmp 62) part_LoomRun_1.1 Try.isAgg3 Try.sizeOf3 o0 fun qB q9 t7 => ?_
      obtain rfl := RV_int.1 q9
      obtain ⟨i4, d6, h⟩ := bsome h
      have r9 := PT_idx u6 d6
      refine L_load (x := .tmp 64) Try.isAgg3 Try.sizeOf3 r9 fun rB t9 u7 => ?_
      obtain rfl := RV_int.1 t9
      refine E_drawL (g := k9) (n := 16) [] [0, 1, 2, 3, 4, 5, 6, 7, 8, 9, 10, 11, 12, 13, 14, 15] rfl mixed (by kernel_rfl) trivial ?_
      refine L_pur (c := fPtr p1 2) rfl rfl .plain (fun _ _ hd => P_fieldAddr at_96_1 j3 (PT.ptr u0)) ?_
      refine L_ld (c := u5) rfl rfl .plain (fun _ _ h => h.ch) n7 rfl ?_
      refine L_pur (c := fPtr p5 0) rfl rfl .plain (fun _ _ hd => P_fieldAddr at_76_0 i3 (OB.ptr o0)) ?_
      refine L_ld (c := .int .i64 ((y2).Order)) rfl rfl .plain (fun _ _ h => ⟨h.ch, fun b hb _ => h.below.block b hb⟩) o7 rfl ?_
      refine L_pur (c := ePtr u5 (y2).Order 5) rfl rfl .plain (fun _ _ hd => P_indexAddr (α := LoomOrder) Try.underlying25 Try.sizeOf82 rfl p6 rfl c6) ?_
      refine L_pur (c := fPtr (ePtr u5 (y2).Order 5) 0) rfl rfl .plain (fun _ _ hd => P_fieldAddr at_82_0 rfl (PT.ptr q6)) ?_
      refine L_ld (c := .int .i64 ((d4).Width)) rfl rfl .plain (fun _ _ h => h.ch) p7 rfl ?_
      refine L_pur (c := fPtr p1 0) rfl rfl .plain (fun _ _ hd => P_fieldAddr at_96_0 j3 (PT.ptr u0)) ?_
      refine L_pur (c := fPtr (fPtr p1 0) 0) rfl rfl .plain (fun _ _ hd => P_fieldAddr at_24_0 rfl (PT.ptr r6)) ?_
      refine L_ld (c := t6) rfl rfl .plain (fun _ _ h => h.ch) q7 rfl ?_
      refine L_pur (c := fPtr p5 1) rfl rfl .plain (fun _ _ hd => P_fieldAddr at_76_1 i3 (OB.ptr o0)) ?_
      refine L_ld (c := .int .i64 ((y2).Loom)) rfl rfl .plain (fun _ _ h => ⟨h.ch, fun b hb _ => h.below.block b hb⟩) t7 rfl ?_
      refine L_pur (c := ePtr t6 (y2).Loom 1) rfl rfl .plain (fun _ _ hd => P_indexAddr (α := Int) Try.underlying22 Try.sizeOf3 rfl u6 rfl d6) ?_
      refine L_ld (c := .int .i64 (i4)) rfl rfl .plain (fun _ _ h => h.ch) u7 rfl ?_
      refine L_pur (c := .bool ((decide ((d4).Width > i4)))) rfl rfl .plain (fun _ _ hd => P_int rfl rfl rfl) ?_
      refine L_pur (c := .bool ((decide ((d4).Width > i4)))) rfl rfl .plain (fun _ _ hd => P_assign rfl) ?_
      refine L_nil fun u9 sB hall => ?_
      have hs := hall.1
      have hfr := hfr.ext hs
      have u0 := u0.ext hs
      have o0 := o0.ext hs
      clear hs hall
      refine EL_nil (thn_n ?_)
      rcases csome h with ⟨l5, h⟩ | ⟨l5, h⟩
      ·refine E_ct l5 rfl ?_
       refine E_seq (E_region (EL_at (.int .i64 (2)) rfl rfl ?_))
       refine EL_nil (thn_n (E_ret (blk_r ?_)))
       refine thn_r ?_
       obtain rfl := sinj h
       exact end1 rfl rfl (show _ = .int .i64 (2) from rfl) ⟨_, hfr, rfl⟩
      ·refine E_cf l5 rfl ?_
       obtain ⟨z2, hx, h⟩ := bsome h
       refine E_join (fun e w => ∃ (g : Gh) , Fr gI wI g w ∧ e 67 = .bool (z2)) (fun Q' hQ => ?_) (fun rA tB hR => ?_)
       ·replace h := hx
        clear hx
        refine E_seq (L_loadO (x := .tmp 68) part_LoomRun_2.1 Try.isAgg3 Try.sizeOf3 o0 fun uB v9 v7 => ?_)
        obtain rfl := RV_int.1 v9
        have x9 := PT_field (part_LoomLoomMill_1).1 u0
        refine L_load (x := .tmp 70) Try.isAgg25 Try.sizeOf25 x9 fun x5 v6 x7 => ?_
        refine L_loadO (x := .tmp 72) part_LoomRun_0.1 Try.isAgg3 Try.sizeOf3 o0 fun vB y9 y7 => ?_
        obtain rfl := RV_int.1 y9
        obtain ⟨p3, i6, h⟩ := bsome h
        have x6 := PT_idx v6 i6
        have z9 := PT_field (part_LoomOrder_3).1 x6
        refine L_load (x := .tmp 75) Try.isAgg3 Try.sizeOf3 z9 fun xB bA a8 => ?_
        obtain rfl := RV_int.1 bA
        refine E_drawL (g := u9) (n := 11) [] [0, 1, 2, 3, 4, 5, 6, 7, 8, 9, 10] rfl mixed (by kernel_rfl) trivial ?_
        refine L_pur (c := fPtr p5 2) rfl rfl .plain (fun _ _ hd => P_fieldAddr at_76_2 i3 (OB.ptr o0)) ?_
        refine L_ld (c := .int .i64 ((y2).From)) rfl rfl .plain (fun _ _ h => ⟨h.ch, fun b hb _ => h.below.block b hb⟩) v7 rfl ?_
        refine L_pur (c := fPtr p1 2) rfl rfl .plain (fun _ _ hd => P_fieldAddr at_96_1 j3 (PT.ptr u0)) ?_
        refine L_ld (c := x5) rfl rfl .plain (fun _ _ h => h.ch) x7 rfl ?_
        refine L_pur (c := fPtr p5 0) rfl rfl .plain (fun _ _ hd => P_fieldAddr at_76_0 i3 (OB.ptr o0)) ?_
        refine L_ld (c := .int .i64 ((y2).Order)) rfl rfl .plain (fun _ _ h => ⟨h.ch, fun b hb _ => h.below.block b hb⟩) y7 rfl ?_
        refine L_pur (c := ePtr x5 (y2).Order 5) rfl rfl .plain (fun _ _ hd => P_indexAddr (α := LoomOrder) Try.underlying25 Try.sizeOf82 rfl v6 rfl i6) ?_
        refine L_pur (c := fPtr (ePtr x5 (y2).Order 5) 3) rfl rfl .plain (fun _ _ hd => P_fieldAddr at_82_3 rfl (PT.ptr x6)) ?_
        refine L_ld (c := .int .i64 ((p3).Early)) rfl rfl .plain (fun _ _ h => h.ch) a8 rfl ?_
        refine L_pur (c := .bool ((decide ((y2).From < (p3).Early)))) rfl rfl .plain (fun _ _ hd => P_int rfl rfl rfl) ?_
        refine L_pur (c := .bool ((decide ((y2).From < (p3).Early)))) rfl rfl .plain (fun _ _ hd => P_assign rfl) ?_
        refine L_nil fun y6 yB hall => ?_
        have hs := hall.1
        have hfr := hfr.ext hs
        have u0 := u0.ext hs
        have o0 := o0.ext hs
        clear hs hall
        refine EL_nil (thn_n ?_)
        rcases csome h with ⟨m5, h⟩ | ⟨m5, h⟩
        ·refine E_ct m5 rfl ?_
         refine E_skip ?_
         obtain rfl := sinj h
         exact hQ _ _ ⟨y6, hfr, rfl⟩
        ·refine E_cf m5 rfl ?_
         refine L_load (x := .tmp 3) Try.isAgg96 Try.sizeOf96 u0 fun z6 cA b8 => ?_
         refine L_loadO0 (x := .tmp 7) Try.isAgg76 Try.sizeOf76 o0 fun a7 dA c8 => ?_
         obtain ⟨u3, d8, h⟩ := bsome h
         have eA := PT_field (part_LoomLoomMill_1).1 u0
         refine L_load (x := .tmp 81) Try.isAgg25 Try.sizeOf25 eA fun y5 b7 e8 => ?_
         refine L_loadO (x := .tmp 83) part_LoomRun_0.1 Try.isAgg3 Try.sizeOf3 o0 fun zB gA g8 => ?_
         obtain rfl := RV_int.1 gA
         obtain ⟨j4, j6, h⟩ := bsome h
         have c7 := PT_idx b7 j6
         have iA := PT_field (part_LoomOrder_4).1 c7
         refine L_load (x := .tmp 86) Try.isAgg3 Try.sizeOf3 iA fun aC jA i8 => ?_
         obtain rfl := RV_int.1 jA
         refine E_drawL (g := y6) (n := 12) [(2, (fun v g w => v = .int .i64 (u3)))] [0, 1, 2, 3, 4, 5, 6, 7, 8, 9, 10, 11] rfl mixed (by kernel_rfl) (⟨fun _ => up_eq _, trivial⟩) ?_
         refine L_ld (c := z6) rfl rfl .plain (fun _ _ h => h.ch) b8 j3 ?_
         refine L_ld (c := a7) rfl rfl .plain (fun _ _ h => ⟨h.ch, fun b hb _ => h.below.block b hb⟩) c8 i3 ?_
         refine L_do (φ := fun v g w => v = .int .i64 (u3)) rfl rfl .plain (fun g w hd => D_call (g := g) (vs := [z6, a7]) en73 (.cons rfl (.cons rfl .nil)) (wk73 (cA.ext hd.1) (dA.ext hd.1) d8) fun g' w' v hs hr => ⟨g', hs, hr⟩) (fun bC hv => ?_)
         obtain ⟨_, _, _, rfl⟩ := hv
         refine L_pur (c := fPtr p1 2) rfl rfl .plain (fun _ _ hd => P_fieldAddr at_96_1 j3 (PT.ptr u0)) ?_
         refine L_ld (c := y5) rfl rfl .plain (fun _ _ h => h.ch) e8 rfl ?_
         refine L_pur (c := fPtr p5 0) rfl rfl .plain (fun _ _ hd => P_fieldAddr at_76_0 i3 (OB.ptr o0)) ?_
         refine L_ld (c := .int .i64 ((y2).Order)) rfl rfl .plain (fun _ _ h => ⟨h.ch, fun b hb _ => h.below.block b hb⟩) g8 rfl ?_
         refine L_pur (c := ePtr y5 (y2).Order 5) rfl rfl .plain (fun _ _ hd => P_indexAddr (α := LoomOrder) Try.underlying25 Try.sizeOf82 rfl b7 rfl j6) ?_
         refine L_pur (c := fPtr (ePtr y5 (y2).Order 5) 4) rfl rfl .plain (fun _ _ hd => P_fieldAddr at_82_4 rfl (PT.ptr c7)) ?_
         refine L_ld (c := .int .i64 ((j4).Late)) rfl rfl .plain (fun _ _ h => h.ch) i8 rfl ?_
         refine L_pur (c := .bool ((decide (u3 > (j4).Late)))) rfl rfl .plain (fun _ _ hd => P_int rfl rfl rfl) ?_
         refine L_pur (c := .bool ((decide (u3 > (j4).Late)))) rfl rfl .plain (fun _ _ hd => P_assign rfl) ?_
         refine L_nil fun kA cC hall => ?_
         have hs := hall.1
         have hfr := hfr.ext hs
         clear hs hall
         refine EL_nil ?_
         obtain rfl := sinj h
         exact hQ _ _ ⟨kA, hfr, rfl⟩
       ·clear hx
        obtain ⟨lA, hfr, u4⟩ := hR
        rcases csome h with ⟨n5, h⟩ | ⟨n5, h⟩
        ·refine E_cond_true (Eq.trans (show ev _ _ = .bool (z2) from u4) (congrArg Value.bool n5)) ?_
         refine E_seq (E_region (EL_at (.int .i64 (3)) rfl rfl ?_))
         refine EL_nil (thn_n (E_ret (blk_r ?_)))
         refine thn_r ?_
         obtain rfl := sinj h
         exact end1 rfl rfl (show _ = .int .i64 (3) from rfl) ⟨_, hfr, rfl⟩
        ·refine E_cond_false (Eq.trans (show ev _ _ = .bool (z2) from u4) (congrArg Value.bool n5)) ?_
         exact E_skip (blk_n (thn_n (d7 () _ _ ⟨lA, hfr⟩ h)))
 ·rintro _ sA dC ⟨eC, hfr⟩ h
  refine E_seq (E_region (EL_at (.int .i64 (0)) rfl rfl ?_))
  refine EL_nil (thn_n (E_ret ?_))
  obtain rfl := sinj h
  exact end1 rfl rfl (show _ = .int .i64 (0) from rfl) ⟨_, hfr, rfl⟩
/-- (griffe/loom.mill).soon -/
def f94 (x0 : LoomLoomMill) (x1 : List LoomRun) : Option (Int) :=
 (mks 1 (false : Bool) (((x1).length : Int))).bind fun y2 =>
 Option.bind (α := (List Bool)) (
  lp (σ := (List Bool) × Int) (fun z6 (m4, o0) =>
   bif (decide (o0 < ((((x0).LoomMill).Widths).length : Int))) then
    Option.bind (α := (List Bool)) (
     (f68 x1 o0).bind fun d3 =>
     lp (σ := (List Bool) × Int) (fun a7 (i3, j0) =>
      jn (σ := Unit) (fun (_ : Unit) =>
       Option.bind (α := (List Bool)) (
        (idx d3 j0).bind fun i6 =>
        (idx x1 i6).bind fun j3 =>
        (idx d3 j0).bind fun n4 =>
        (idx d3 (w64 (j0 - (1 : Int)))).bind fun d5 =>
        (idx x1 d5).bind fun b7 =>
        (f69 x0 b7 ((j3).Order)).bind fun i4 =>
        (idx i3 n4).bind fun a9 =>
        some ((List.set i3 (Int.toNat n4) ((decide ((j3).From < i4)))))
        ) fun o3 =>
       a7 (o3, (w64 (j0 + (1 : Int))))
       ) fun c7 =>
      bif (decide (j0 < ((d3).length : Int))) then
       c7 ()
      else
       some (i3)
      ) big (m4, (1 : Int))
     ) fun p3 =>
    z6 (p3, (w64 (o0 + (1 : Int))))
   else
    some (m4)
   ) big (y2, (0 : Int))
  ) fun o4 =>
 (f103 o4 true).bind fun i5 =>
 some (i5)
theorem en94 : Enters Try.prog 94 := enters_of Try.func94 (by kernel_rfl) rfl
theorem wk94 {gI : Gh} {wI : World} {x0 : LoomLoomMill} {x1 : List LoomRun} {up0 : Value} (rp0 : RV gI.m wI x0 up0) {up1 : Value} (rp1 : RV gI.m wI x1 up1) {r : Int} (h : f94 x0 x1 = some r) : Fn Try.prog 94 #[up0, up1] gI wI (fun _ _ v => v = .int .i64 (r)) := by
 unfold f94 at h
 refine fn_of_E Try.func94 rfl (Nat.le_of_ble_eq_true rfl) fun g0 hm hfr => ?_
 have rp0 : RV g0.m wI x0 up0 := hm ▸ rp0
 have rp1 : RV g0.m wI x1 up1 := hm ▸ rp1
 show E _ 60 none _ _ _ _ _
 refine E_seq (E_region (EL_do .plain rfl (D_box (g := g0) rfl rp0 fun g1 w1 p1 hs q1 => ?_)))
 have hfr := hfr.ext hs
 have rp1 := rp1.ext hs
 refine EL_at (.int .i64 (0)) rfl rfl ?_
 refine EL_nil (thn_n (E_seq (E_region (EL_mw up1 rfl rfl ?_))))
 refine EL_pur (v := .int .i64 ((x1).length : Int)) (P_len Try.underlying31 rfl rp1) .plain rfl ?_
 obtain ⟨y2, hy2, h⟩ := bsome h
 refine EL_do .plain rfl (D_makeSliceM (g := g1) 9012 (false : Bool) rfl Try.underlying101 info_4 rfl (fun _ _ => rfl) rfl rfl hy2 fun g3 w3 v3 hs b3 => ?_)
 have hfr := hfr.stp hs
 have rp1 := rp1.stp hs
 have q1 := q1.stp hs
 refine EL_at v3 rfl rfl ?_
 refine EL_nil (thn_n ?_)
 obtain ⟨o4, hx, h⟩ := bsome h
 refine E_join (fun e w => ∃ (g : Gh) , Fr gI wI g w ∧ e 5 = v3 ∧ OM 9012 g w 4 (o4 : List Bool) v3) (fun Q' hQ => ?_) (fun dA nA hR => ?_)
 ·replace h := hx
  clear hx
  refine E_seq (E_region (EL_pur (v := fPtr p1 0) (P_fieldAddr at_96_0 rfl (PT.ptr q1)) .plain rfl ?_))
  have d7 := PT_field (part_LoomLoomMill_0).1 q1
  refine EL_pur (v := fPtr (fPtr p1 0) 0) (P_fieldAddr at_24_0 rfl (PT.ptr d7)) .plain rfl ?_
  have b9 := PT_field (part_LoomMill_0).1 d7
  refine EL_do .plain rfl (D_load (g := g3) Try.isAgg22 Try.sizeOf22 rfl b9 fun oA c9 => ?_)
  refine EL_pur (v := .int .i64 ((((x0).LoomMill).Widths).length : Int)) (P_len Try.underlying22 rfl c9) .plain rfl ?_
  refine EL_mw (.int .i64 (0)) rfl rfl ?_
  refine EL_nil (thn_n (E_block ?_))
  refine E_lp h (fun (s : (List Bool) × Int) e w => ∃ (g : Gh) , Fr gI wI g w ∧ e 1 = up1 ∧ RV g.m w (x1 : List LoomRun) up1 ∧ e 2 = p1 ∧ PT g.m w (x0 : LoomLoomMill) p1 ∧ e 5 = v3 ∧ OM 9012 g w 4 (s.1 : List Bool) v3 ∧ e 16 = .int .i64 (((((x0).LoomMill).Widths).length : Int)) ∧ e 17 = .int .i64 (s.2)) ⟨g3, hfr, rfl, rp1, rfl, q1, rfl, b3, rfl, rfl⟩ (fun X284 z6 l8 => ?_)
  rintro ⟨m4, o0⟩ eA pA ⟨e7, hfr, m5, u3, g7, p4, n5, z3, x4, j4⟩ h
  refine E_seq (E_region (EL_pur (v := .bool ((decide (o0 < ((((x0).LoomMill).Widths).length : Int))))) (P_int j4 x4 rfl) .plain rfl ?_))
  refine EL_nil (thn_n (E_seq ?_))
  rcases csome h with ⟨j5, h⟩ | ⟨j5, h⟩
  ·refine E_ct j5 rfl ?_
   refine E_skip (thn_n ?_)
   obtain ⟨p3, hx, h⟩ := bsome h
   refine E_join (fun e w => ∃ (g : Gh) , Fr gI wI g w ∧ e 1 = up1 ∧ RV g.m w (x1 : List LoomRun) up1 ∧ e 2 = p1 ∧ PT g.m w (x0 : LoomLoomMill) p1 ∧ e 5 = v3 ∧ OM 9012 g w 4 (p3 : List Bool) v3 ∧ e 16 = .int .i64 (((((x0).LoomMill).Widths).length : Int)) ∧ e 17 = .int .i64 (o0)) (fun Q' hQ => ?_) (fun gA qA hR => ?_)
   ·replace h := hx
    clear hx
    refine E_block ?_
    refine E_seq (E_region (EL_mv j4 rfl ?_))
    refine EL_at (.int .i64 (o0)) rfl rfl ?_
    refine EL_nil (thn_n (E_seq (E_region (EL_mv m5 rfl ?_))))
    refine EL_mw (.int .i64 (o0)) rfl rfl ?_
    obtain ⟨d3, m8, h⟩ := bsome h
    refine EL_do .plain rfl (D_call (g := e7) (vs := [up1, .int .i64 (o0)]) en68 (.cons rfl (.cons rfl .nil)) (wk68 u3 m8) fun d9 iA z2 hs hr => ?_)
    have hfr := hfr.ext hs
    have u3 := u3.ext hs
    have p4 := p4.ext hs
    have z3 := z3.ext hs
    have e9 := hr
    refine EL_at z2 rfl rfl ?_
    refine EL_nil (thn_n (E_seq (E_region (EL_at (.int .i64 (1)) rfl rfl ?_))))
    refine EL_nil (thn_n (E_block ?_))
    refine E_lp h (fun (s : (List Bool) × Int) e w => ∃ (g : Gh) , Fr gI wI g w ∧ e 1 = up1 ∧ RV g.m w (x1 : List LoomRun) up1 ∧ e 2 = p1 ∧ PT g.m w (x0 : LoomLoomMill) p1 ∧ e 5 = v3 ∧ OM 9012 g w 4 (s.1 : List Bool) v3 ∧ e 7 = z2 ∧ RV g.m w (d3 : List Int) z2 ∧ e 8 = .int .i64 (s.2) ∧ e 16 = .int .i64 (((((x0).LoomMill).Widths).length : Int)) ∧ e 17 = .int .i64 (o0)) ⟨d9, hfr, m5, u3, g7, p4, n5, z3, rfl, e9, rfl, x4, j4⟩ (fun X424 a7 n8 => ?_)
    rintro ⟨i3, j0⟩ jA rA ⟨i7, hfr, o5, p5, q5, t5, u5, x5, y5, z5, b6, z4, c5⟩ h
    refine E_joinC h (fun (s : Unit) e w => ∃ (g : Gh) , Fr gI wI g w ∧ e 1 = up1 ∧ RV g.m w (x1 : List LoomRun) up1 ∧ e 2 = p1 ∧ PT g.m w (x0 : LoomLoomMill) p1 ∧ e 5 = v3 ∧ OM 9012 g w 4 (i3 : List Bool) v3 ∧ e 7 = z2 ∧ RV g.m w (d3 : List Int) z2 ∧ e 8 = .int .i64 (j0) ∧ e 16 = .int .i64 (((((x0).LoomMill).Widths).length : Int)) ∧ e 17 = .int .i64 (o0)) (fun X427 c7 o8 h => ?_) ?_
    ·refine E_seq (E_region (EL_mv b6 rfl ?_))
     refine EL_mv y5 rfl ?_
     refine EL_pur (v := .int .i64 ((d3).length : Int)) (P_len Try.underlying22 rfl z5) .plain rfl ?_
     refine EL_in (.bool ((decide (j0 < ((d3).length : Int))))) rfl rfl rfl rfl ?_
     refine EL_nil (thn_n ?_)
     rcases csome h with ⟨l5, h⟩ | ⟨l5, h⟩
     ·refine E_ct l5 rfl ?_
      exact E_skip (thn_n (o8 () _ _ ⟨i7, hfr, o5, p5, q5, t5, u5, x5, y5, z5, b6, z4, c5⟩ h))
     ·refine E_cf l5 rfl ?_
      refine E_exit ?_
      refine thn_e ?_
      refine thn_e ?_
      refine blk_hit ?_
      refine blk_n ?_
      obtain rfl := sinj h
      exact hQ _ _ ⟨i7, hfr, o5, p5, q5, t5, u5, x5, z4, c5⟩
    ·rintro _ kA sA ⟨j6, hfr, u4, j1, c6, z1, d6, j2, c4, u0, d4, r6, t6⟩ h
     obtain ⟨o3, hx, h⟩ := bsome h
     refine E_join (fun e w => ∃ (g : Gh) , Fr gI wI g w ∧ e 1 = up1 ∧ RV g.m w (x1 : List LoomRun) up1 ∧ e 2 = p1 ∧ PT g.m w (x0 : LoomLoomMill) p1 ∧ e 5 = v3 ∧ OM 9012 g w 4 (o3 : List Bool) v3 ∧ e 7 = z2 ∧ RV g.m w (d3 : List Int) z2 ∧ e 8 = .int .i64 (j0) ∧ e 16 = .int .i64 (((((x0).LoomMill).Widths).length : Int)) ∧ e 17 = .int .i64 (o0)) (fun Q' hQ => ?_) (fun lA tA hR => ?_)
     ·replace h := hx
      clear hx
      refine E_block ?_
      refine E_seq (E_region (EL_mv u4 rfl ?_))
      refine EL_mv c4 rfl ?_
      refine EL_mv d4 rfl ?_
      obtain ⟨i6, l6, h⟩ := bsome h
      refine EL_pur (v := ePtr z2 j0 1) (P_indexAddr (α := Int) Try.underlying22 Try.sizeOf3 rfl u0 rfl l6) .plain rfl ?_
      have g9 := PT_idx u0 l6
      refine EL_do .plain rfl (D_load (g := j6) Try.isAgg3 Try.sizeOf3 rfl g9 fun uA i9 => ?_)
      obtain rfl := RV_int.1 i9
      obtain ⟨j3, m6, h⟩ := bsome h
      refine EL_pur (v := ePtr up1 i6 3) (P_indexAddr (α := LoomRun) Try.underlying31 Try.sizeOf76 rfl j1 rfl m6) .plain rfl ?_
      have j9 := PT_idx j1 m6
      refine EL_do .plain rfl (D_load (g := j6) Try.isAgg76 Try.sizeOf76 rfl j9 fun k9 k6 => ?_)
      refine EL_do .plain rfl (D_allocOc (g := j6) 2009 (⟨0, 0, 0⟩ : LoomRun) Try.zeroValue76 (fun m w => ⟨_, (rep_two rep_int (rep_two rep_int rep_int)), rfl⟩) fun l9 vA j7 hs b499 cb => ?_)
      have hfr := hfr.stp hs
      have j1 := j1.stp hs
      have z1 := z1.stp hs
      have j2 := j2.stp hs rfl
      have u0 := u0.stp hs
      have k6 := k6.stp hs
      clear cb
      refine EL_do .plain rfl (D_storeOc (g := l9) (v := k9) Try.sizeOf76 rfl b499 rfl k6 fun m9 xA hs b500 cb => ?_)
      clear cb
      have hfr := hfr.stp hs
      have j1 := j1.stp hs
      have z1 := z1.stp hs
      have j2 := j2.stp hs rfl
      have u0 := u0.stp hs
      refine EL_nil (thn_n ?_)
      obtain ⟨n4, n6, h⟩ := bsome h
      have n9 := PT_idx u0 n6
      refine L_load (x := .tmp 39) Try.isAgg3 Try.sizeOf3 n9 fun yA o9 p8 => ?_
      obtain rfl := RV_int.1 o9
      refine L_loadO (x := .tmp 41) part_LoomRun_2.1 Try.isAgg3 Try.sizeOf3 b500 fun zA p9 q8 => ?_
      obtain rfl := RV_int.1 p9
      refine L_load (x := .tmp 2) Try.isAgg96 Try.sizeOf96 z1 fun m7 q9 r8 => ?_
      obtain ⟨d5, o6, h⟩ := bsome h
      have r9 := PT_idx u0 o6
      refine L_load (x := .tmp 48) Try.isAgg3 Try.sizeOf3 r9 fun aB t9 t8 => ?_
      obtain rfl := RV_int.1 t9
      obtain ⟨b7, p6, h⟩ := bsome h
      have u9 := PT_idx j1 p6
      refine L_load (x := .tmp 50) Try.isAgg76 Try.sizeOf76 u9 fun n7 v9 v8 => ?_
      refine L_loadO (x := .tmp 52) part_LoomRun_0.1 Try.isAgg3 Try.sizeOf3 b500 fun bB x9 x8 => ?_
      obtain rfl := RV_int.1 x9
      obtain ⟨i4, y8, h⟩ := bsome h
      obtain ⟨a9, q6, h⟩ := bsome h
      refine E_drawL (g := m9) (n := 21) [(18, (fun v g w => v = .int .i64 (i4)))] [0, 1, 2, 3, 4, 5, 6, 7, 8, 9, 10, 11, 12, 13, 14, 15, 16, 17, 18, 19, 20] rfl mixed (by kernel_rfl) (⟨fun _ => up_eq _, trivial⟩) ?_
      refine L_pur (c := v3) rfl rfl .plain (fun _ _ hd => P_move d6) ?_
      refine L_pur (c := z2) rfl rfl .plain (fun _ _ hd => P_move c4) ?_
      refine L_pur (c := .int .i64 (j0)) rfl rfl .plain (fun _ _ hd => P_move d4) ?_
      refine L_pur (c := ePtr z2 j0 1) rfl rfl .plain (fun _ _ hd => P_indexAddr (α := Int) Try.underlying22 Try.sizeOf3 rfl u0 rfl n6) ?_
      refine L_ld (c := .int .i64 (n4)) rfl rfl .plain (fun _ _ h => h.ch) p8 rfl ?_
      refine L_pur (c := fPtr j7 2) rfl rfl .plain (fun _ _ hd => P_fieldAddr at_76_2 rfl (OB.ptr b500)) ?_
      refine L_ld (c := .int .i64 ((j3).From)) rfl rfl .plain (fun _ _ h => ⟨h.ch, fun b hb _ => h.below.block b hb⟩) q8 rfl ?_
      refine L_ld (c := m7) rfl rfl .plain (fun _ _ h => h.ch) r8 c6 ?_
      refine L_pur (c := up1) rfl rfl .plain (fun _ _ hd => P_move u4) ?_
      refine L_pur (c := z2) rfl rfl .plain (fun _ _ hd => P_move c4) ?_
      refine L_pur (c := .int .i64 (j0)) rfl rfl .plain (fun _ _ hd => P_move d4) ?_
      refine L_pur (c := .int .i64 ((w64 (j0 - (1 : Int))))) rfl rfl .plain (fun _ _ hd => P_int rfl rfl rfl) ?_
      refine L_pur (c := ePtr z2 (w64 (j0 - (1 : Int))) 1) rfl rfl .plain (fun _ _ hd => P_indexAddr (α := Int) Try.underlying22 Try.sizeOf3 rfl u0 rfl o6) ?_
      refine L_ld (c := .int .i64 (d5)) rfl rfl .plain (fun _ _ h => h.ch) t8 rfl ?_
      refine L_pur (c := ePtr up1 d5 3) rfl rfl .plain (fun _ _ hd => P_indexAddr (α := LoomRun) Try.underlying31 Try.sizeOf76 rfl j1 rfl p6) ?_
      refine L_ld (c := n7) rfl rfl .plain (fun _ _ h => h.ch) v8 rfl ?_
      refine L_pur (c := fPtr j7 0) rfl rfl .plain (fun _ _ hd => P_fieldAddr at_76_0 rfl (OB.ptr b500)) ?_
      refine L_ld (c := .int .i64 ((j3).Order)) rfl rfl .plain (fun _ _ h => ⟨h.ch, fun b hb _ => h.below.block b hb⟩) x8 rfl ?_
      refine L_do (φ := fun v g w => v = .int .i64 (i4)) rfl rfl .plain (fun g w hd => D_call (g := g) (vs := [m7, n7, .int .i64 ((j3).Order)]) en69 (.cons rfl (.cons rfl (.cons rfl .nil))) (wk69 (q9.ext hd.1) (v9.ext hd.1) y8) fun g' w' v hs hr => ⟨g', hs, hr⟩) (fun cB hv => ?_)
      obtain ⟨_, _, _, rfl⟩ := hv
      refine L_pur (c := .bool ((decide ((j3).From < i4)))) rfl rfl .plain (fun _ _ hd => P_int rfl rfl rfl) ?_
      refine L_pur (c := ePtr v3 n4 1) rfl rfl .plain (fun _ _ hd => P_indexAddrM (α := Bool) Try.underlying101 Try.sizeOf4 rfl j2 rfl q6) ?_
      refine L_nil fun y9 dB hall => ?_
      have hs := hall.1
      have hfr := hfr.ext hs
      have j1 := j1.ext hs
      have z1 := z1.ext hs
      have j2 := j2.ext hs
      have u0 := u0.ext hs
      clear hs hall
      refine EL_do .plain rfl (D_storeM (g := y9) (α := Bool) (a' := ((decide ((j3).From < i4)))) Try.sizeOf4 rfl j2 q6 rfl (RV_bool.2 rfl) fun z9 eB hs b555 => ?_)
      have hfr := hfr.stp hs
      have j1 := j1.stp hs
      have z1 := z1.stp hs
      have u0 := u0.stp hs
      refine EL_nil (blk_n ?_)
      obtain rfl := sinj h
      exact hQ _ _ ⟨z9, hfr, u4, j1, c6, z1, d6, b555, c4, u0, d4, r6, t6⟩
     ·clear hx
      obtain ⟨bA, hfr, o7, p7, q7, t7, u7, v7, x7, y7, a8, u6, v6⟩ := hR
      refine E_region (EL_mv a8 rfl ?_)
      refine EL_in (.int .i64 ((w64 (j0 + (1 : Int))))) rfl rfl rfl rfl ?_
      refine EL_at (.int .i64 ((w64 (j0 + (1 : Int))))) rfl rfl ?_
      exact EL_nil (thn_n (n8 (o3, (w64 (j0 + (1 : Int)))) _ _ ⟨bA, hfr, o7, p7, q7, t7, u7, v7, x7, y7, rfl, u6, v6⟩ h))
   ·clear hx
    obtain ⟨cA, hfr, b8, c8, d8, e8, g8, i8, x6, y6⟩ := hR
    refine E_region (EL_in (.int .i64 ((w64 (o0 + (1 : Int))))) y6 rfl rfl rfl ?_)
    refine EL_mw (.int .i64 ((w64 (o0 + (1 : Int))))) rfl rfl ?_
    exact EL_nil (thn_n (l8 (p3, (w64 (o0 + (1 : Int)))) _ _ ⟨cA, hfr, b8, c8, d8, e8, g8, i8, x6, rfl⟩ h))
  ·refine E_cf j5 rfl ?_
   refine E_exit ?_
   refine thn_e ?_
   refine thn_e ?_
   refine blk_hit ?_
   obtain rfl := sinj h
   exact hQ _ _ ⟨e7, hfr, n5, z3⟩
 ·clear hx
  obtain ⟨iB, hfr, j8, k8⟩ := hR
  refine E_seq (E_region (EL_mv j8 rfl ?_))
  obtain ⟨gp559, hs, rp559⟩ := OM.pub k8
  have hfr := hfr.stp hs
  obtain ⟨i5, z8, h⟩ := bsome h
  refine EL_do .plain rfl (D_call (g := gp559) (vs := [v3, .bool true]) en103 (.cons rfl (.cons rfl .nil)) (wk103 rp559 z8) fun jB mA kB hs hr => ?_)
  have hfr := hfr.ext hs
  subst hr
  refine EL_at (.int .i64 (i5)) rfl rfl ?_
  refine EL_nil (thn_n (E_ret ?_))
  obtain rfl := sinj h
  exact end1 rfl rfl (show _ = .int .i64 (i5) from rfl) ⟨_, hfr, rfl⟩
/-- griffe/loom.Push$1 -/
def f70 (x0 : LoomRun) : Option (Bool) :=
 (f71 (([(x0).From] : List Int))).bind fun y6 =>
 some ((!y6))
theorem en70 : Enters Try.prog 70 := enters_of Try.func70 (by kernel_rfl) rfl
theorem wk70 {gI : Gh} {wI : World} {x0 : LoomRun} {up0 : Value} (rp0 : RV gI.m wI x0 up0) {r : Bool} (h : f70 x0 = some r) : Fn Try.prog 70 #[up0] gI wI (fun _ _ v => v = .bool (r)) := by
 unfold f70 at h
 refine fn_of_E Try.func70 rfl (Nat.le_of_ble_eq_true rfl) fun g0 hm hfr => ?_
 have rp0 : RV g0.m wI x0 up0 := hm ▸ rp0
 show E _ 8 none _ _ _ _ _
 refine E_seq (E_region (EL_do .plain rfl (D_box (g := g0) rfl rp0 fun g1 w1 p1 hs q1 => ?_)))
 have hfr := hfr.ext hs
 refine EL_at (.bool false) rfl rfl ?_
 refine EL_nil (thn_n (E_seq (E_region (EL_pur (v := fPtr p1 2) (P_fieldAddr at_76_2 rfl (PT.ptr q1)) .plain rfl ?_))))
 have q2 := PT_field (part_LoomRun_2).1 q1
 refine EL_do .plain rfl (D_load (g := g1) Try.isAgg3 Try.sizeOf3 rfl q2 fun v3 r3 => ?_)
 obtain rfl := RV_int.1 r3
 refine EL_do .plain rfl (D_buildSlice (g := g1) 3005 (xs := ([(x0).From] : List Int)) (vs := [.int .i64 ((x0).From)]) Try.underlying22 Try.sizeOf3 Try.zeroValue3 rfl rfl (.cons rfl .nil) (RVs.cons (RV_int.2 rfl) RVs.nil) rfl rfl fun g4 w4 v4 hs o4 r4 hxt hfl => ?_)
 have hfr := hfr.stp hs
 obtain ⟨y6, j0, h⟩ := bsome h
 refine EL_do .plain rfl (D_call (g := g4) (vs := [v4]) en71 (.cons rfl .nil) (wk71 r4 j0) fun g5 w5_ v5 hs hr => ?_)
 have hfr := hfr.ext hs
 subst hr
 refine EL_pur (v := .bool (!y6)) (P_not rfl) .plain rfl ?_
 refine EL_at (.bool (!y6)) rfl rfl ?_
 refine EL_nil (thn_n (E_ret ?_))
 obtain rfl := sinj h
 exact end1 rfl rfl (show _ = .bool (!y6) from rfl) ⟨_, hfr, rfl⟩
/-- (griffe/loom.mill).holds -/
def f78 (x0 : LoomLoomMill) (x1 : List LoomRun) : Option (Int × Int) :=
 jn (σ := Unit) (fun (_ : Unit) =>
  jn (σ := Unit) (fun (_ : Unit) =>
   jn (σ := Unit) (fun (_ : Unit) =>
    some ((0 : Int), (0 : Int))
    ) fun d5 =>
   (f94 x0 x1).bind fun o0 =>
   bif (decide (o0 ≥ (0 : Int))) then
    some (o0, (6 : Int))
   else
    d5 ()
   ) fun i5 =>
  lp (σ := Int) (fun j5 j0 =>
   bif (decide (j0 < ((x1).length : Int))) then
    jn (σ := Unit) (fun (_ : Unit) =>
     j5 ((w64 (j0 + (1 : Int))))
     ) fun l5 =>
    (f93 x0 x1 j0).bind fun u0 =>
    bif (u0 != (0 : Int)) then
     some (j0, u0)
    else
     l5 ()
   else
    i5 ()
   ) big ((0 : Int))
  ) fun k5 =>
 bif (decide (((x1).length : Int) > (((x0).orders).length : Int))) then
  some ((0 : Int), (5 : Int))
 else
  k5 ()
theorem en78 : Enters Try.prog 78 := enters_of Try.func78 (by kernel_rfl) rfl
theorem wk78 {gI : Gh} {wI : World} {x0 : LoomLoomMill} {x1 : List LoomRun} {up0 : Value} (rp0 : RV gI.m wI x0 up0) {up1 : Value} (rp1 : RV gI.m wI x1 up1) {r : Int × Int} (h : f78 x0 x1 = some r) : Fn Try.prog 78 #[up0, up1] gI wI (fun m w v => ∃ y0 y1, v = .tuple #[y0, y1] ∧ y0 = .int .i64 (r.1) ∧ y1 = .int .i64 (r.2)) := by
 unfold f78 at h
 refine fn_of_E Try.func78 rfl (Nat.le_of_ble_eq_true rfl) fun g0 hm hfr => ?_
 have rp0 : RV g0.m wI x0 up0 := hm ▸ rp0
 have rp1 : RV g0.m wI x1 up1 := hm ▸ rp1
 show E _ 35 none _ _ _ _ _
 refine E_seq (E_region (EL_do .plain rfl (D_box (g := g0) rfl rp0 fun g1 w1 p1 hs q1 => ?_)))
 have hfr := hfr.ext hs
 have rp1 := rp1.ext hs
 refine EL_at (.int .i64 (0)) rfl rfl ?_
 refine EL_at (.int .i64 (0)) rfl rfl ?_
 refine EL_nil (thn_n (E_joinC h (fun (s : Unit) e w => ∃ (g : Gh) , Fr gI wI g w ∧ e 1 = up1 ∧ RV g.m w (x1 : List LoomRun) up1 ∧ e 2 = p1 ∧ PT g.m w (x0 : LoomLoomMill) p1) (fun X5 k5 hk5 h => ?_) ?_))
 ·refine E_seq (E_region (EL_mw up1 rfl rfl ?_))
  refine EL_pur (v := .int .i64 ((x1).length : Int)) (P_len Try.underlying31 rfl rp1) .plain rfl ?_
  refine EL_pur (v := fPtr p1 2) (P_fieldAddr at_96_1 rfl (PT.ptr q1)) .plain rfl ?_
  have q6 := PT_field (part_LoomLoomMill_1).1 q1
  refine EL_do .plain rfl (D_load (g := g1) Try.isAgg25 Try.sizeOf25 rfl q6 fun v7 r7 => ?_)
  refine EL_pur (v := .int .i64 (((x0).orders).length : Int)) (P_len Try.underlying25 rfl r7) .plain rfl ?_
  refine EL_pur (v := .bool ((decide (((x1).length : Int) > (((x0).orders).length : Int))))) (P_int rfl rfl rfl) .plain rfl ?_
  refine EL_nil (thn_n ?_)
  rcases csome h with ⟨u3, h⟩ | ⟨u3, h⟩
  ·refine E_ct u3 rfl ?_
   refine E_seq (E_region (EL_at (.int .i64 (0)) rfl rfl ?_))
   refine EL_at (.int .i64 (5)) rfl rfl ?_
   refine EL_nil (thn_n (E_ret (thn_r ?_)))
   obtain rfl := sinj h
   exact end2 rfl rfl (show _ = .int .i64 (0) from rfl) (show _ = .int .i64 (5) from rfl) ⟨_, hfr, _, _, rfl, rfl, rfl⟩
  ·refine E_cf u3 rfl ?_
   exact E_skip (thn_n (hk5 () _ _ ⟨g1, hfr, rfl, rp1, rfl, q1⟩ h))
 ·rintro _ t6 w9 ⟨g9, hfr, z3, c4, n5, o5⟩ h
  refine E_joinC h (fun (s : Unit) e w => ∃ (g : Gh) , Fr gI wI g w ∧ e 1 = up1 ∧ RV g.m w (x1 : List LoomRun) up1 ∧ e 2 = p1 ∧ PT g.m w (x0 : LoomLoomMill) p1) (fun X23 i5 p5 h => ?_) ?_
  ·refine E_seq (E_region (EL_mv z3 rfl ?_))
   refine EL_pur (v := .int .i64 ((x1).length : Int)) (P_len Try.underlying31 rfl c4) .plain rfl ?_
   refine EL_mw (.int .i64 (0)) rfl rfl ?_
   refine EL_nil (thn_n (E_block ?_))
   refine E_lp h (fun (s : Int) e w => ∃ (g : Gh) , Fr gI wI g w ∧ e 1 = up1 ∧ RV g.m w (x1 : List LoomRun) up1 ∧ e 2 = p1 ∧ PT g.m w (x0 : LoomLoomMill) p1 ∧ e 16 = .int .i64 (((x1).length : Int)) ∧ e 17 = .int .i64 (s)) ⟨g9, hfr, z3, c4, n5, o5, rfl, rfl⟩ (fun X24 j5 q5 => ?_)
   rintro j0 l6 u6 ⟨d4, hfr, z2, j1, d3, z1, i3, j2⟩ h
   refine E_seq (E_region (EL_in (.bool ((decide (j0 < ((x1).length : Int))))) j2 i3 rfl rfl ?_))
   refine EL_nil (thn_n (E_seq ?_))
   rcases csome h with ⟨j3, h⟩ | ⟨j3, h⟩
   ·refine E_ct j3 rfl ?_
    refine E_skip (thn_n (E_joinC h (fun (s : Unit) e w => ∃ (g : Gh) , Fr gI wI g w ∧ e 1 = up1 ∧ RV g.m w (x1 : List LoomRun) up1 ∧ e 2 = p1 ∧ PT g.m w (x0 : LoomLoomMill) p1 ∧ e 16 = .int .i64 (((x1).length : Int)) ∧ e 17 = .int .i64 (j0)) (fun X31 l5 t5 h => ?_) ?_))
    ·refine E_block ?_
     refine E_seq (E_region (EL_mv j2 rfl ?_))
     refine EL_at (.int .i64 (j0)) rfl rfl ?_
     refine EL_nil (thn_n (E_seq (E_region (EL_do .plain rfl (D_load (g := d4) Try.isAgg96 Try.sizeOf96 d3 z1 fun z5 b6 => ?_)))))
     refine EL_mv z2 rfl ?_
     refine EL_mw (.int .i64 (j0)) rfl rfl ?_
     obtain ⟨u0, u5, h⟩ := bsome h
     refine EL_do .plain rfl (D_call (g := d4) (vs := [z5, up1, .int .i64 (j0)]) en93 (.cons rfl (.cons rfl (.cons rfl .nil))) (wk93 b6 j1 u5) fun c6 m6 v6 hs hr => ?_)
     have hfr := hfr.ext hs
     have j1 := j1.ext hs
     have z1 := z1.ext hs
     subst hr
     refine EL_at (.int .i64 (u0)) rfl rfl ?_
     refine EL_nil (thn_n (E_seq (E_region (EL_mw (.int .i64 (u0)) rfl rfl ?_))))
     refine EL_in (.bool ((u0 != (0 : Int)))) rfl rfl rfl rfl ?_
     refine EL_nil (thn_n ?_)
     rcases csome h with ⟨o3, h⟩ | ⟨o3, h⟩
     ·refine E_ct o3 rfl ?_
      refine E_seq (E_region (EL_mw (.int .i64 (j0)) rfl rfl ?_))
      refine EL_mw (.int .i64 (u0)) rfl rfl ?_
      refine EL_at (.int .i64 (j0)) rfl rfl ?_
      refine EL_at (.int .i64 (u0)) rfl rfl ?_
      refine EL_nil (thn_n (E_ret (blk_r ?_)))
      refine thn_r ?_
      refine thn_r ?_
      refine blk_r ?_
      refine thn_r ?_
      obtain rfl := sinj h
      exact end2 rfl rfl (show _ = .int .i64 (j0) from rfl) (show _ = .int .i64 (u0) from rfl) ⟨_, hfr, _, _, rfl, rfl, rfl⟩
     ·refine E_cf o3 rfl ?_
      exact E_skip (blk_n (thn_n (t5 () _ _ ⟨c6, hfr, z2, j1, d3, z1, i3, j2⟩ h)))
    ·rintro _ n6 x6 ⟨d6, hfr, m4, n4, o4, p4, i4, j4⟩ h
     refine E_region (EL_in (.int .i64 ((w64 (j0 + (1 : Int))))) j4 rfl rfl rfl ?_)
     refine EL_mw (.int .i64 ((w64 (j0 + (1 : Int))))) rfl rfl ?_
     exact EL_nil (thn_n (q5 ((w64 (j0 + (1 : Int)))) _ _ ⟨d6, hfr, m4, n4, o4, p4, i4, rfl⟩ h))
   ·refine E_cf j3 rfl ?_
    refine E_exit ?_
    refine thn_e ?_
    refine thn_e ?_
    refine blk_hit ?_
    exact thn_n (p5 () _ _ ⟨d4, hfr, z2, j1, d3, z1⟩ h)
  ·rintro _ o6 y6 ⟨m5, hfr, u4, x4, z4, c5⟩ h
   refine E_joinC h (fun (s : Unit) e w => ∃ (g : Gh) , Fr gI wI g w) (fun X42 d5 x5 h => ?_) ?_
   ·refine E_seq (E_region (EL_do .plain rfl (D_load (g := m5) Try.isAgg96 Try.sizeOf96 z4 c5 fun i6 j6 => ?_)))
    refine EL_mv u4 rfl ?_
    obtain ⟨o0, y5, h⟩ := bsome h
    refine EL_do .plain rfl (D_call (g := m5) (vs := [i6, up1]) en94 (.cons rfl (.cons rfl .nil)) (wk94 j6 x4 y5) fun k6 p6 z6 hs hr => ?_)
    have hfr := hfr.ext hs
    subst hr
    refine EL_at (.int .i64 (o0)) rfl rfl ?_
    refine EL_nil (thn_n (E_seq (E_region (EL_mw (.int .i64 (o0)) rfl rfl ?_))))
    refine EL_in (.bool ((decide (o0 ≥ (0 : Int))))) rfl rfl rfl rfl ?_
    refine EL_nil (thn_n ?_)
    rcases csome h with ⟨p3, h⟩ | ⟨p3, h⟩
    ·refine E_ct p3 rfl ?_
     refine E_seq (E_region (EL_mw (.int .i64 (o0)) rfl rfl ?_))
     refine EL_at (.int .i64 (o0)) rfl rfl ?_
     refine EL_at (.int .i64 (6)) rfl rfl ?_
     refine EL_nil (thn_n (E_ret (thn_r ?_)))
     obtain rfl := sinj h
     exact end2 rfl rfl (show _ = .int .i64 (o0) from rfl) (show _ = .int .i64 (6) from rfl) ⟨_, hfr, _, _, rfl, rfl, rfl⟩
    ·refine E_cf p3 rfl ?_
     exact E_skip (thn_n (x5 () _ _ ⟨k6, hfr⟩ h))
   ·rintro _ r6 a7 ⟨b7, hfr⟩ h
    refine E_seq (E_region (EL_at (.int .i64 (0)) rfl rfl ?_))
    refine EL_at (.int .i64 (0)) rfl rfl ?_
    refine EL_nil (thn_n (E_ret ?_))
    obtain rfl := sinj h
    exact end2 rfl rfl (show _ = .int .i64 (0) from rfl) (show _ = .int .i64 (0) from rfl) ⟨_, hfr, _, _, rfl, rfl, rfl⟩
/-- griffe/loom.open$1 -/
def f79 (x0 : LoomOrder) : Option (Bool) :=
 (f80 x0).bind fun y4 =>
 some ((!y4))
theorem en79 : Enters Try.prog 79 := enters_of Try.func79 (by kernel_rfl) rfl
theorem wk79 {gI : Gh} {wI : World} {x0 : LoomOrder} {up0 : Value} (rp0 : RV gI.m wI x0 up0) {r : Bool} (h : f79 x0 = some r) : Fn Try.prog 79 #[up0] gI wI (fun _ _ v => v = .bool (r)) := by
 unfold f79 at h
 refine fn_of_E Try.func79 rfl (Nat.le_of_ble_eq_true rfl) fun g0 hm hfr => ?_
 have rp0 : RV g0.m wI x0 up0 := hm ▸ rp0
 show E _ 6 none _ _ _ _ _
 refine E_seq (E_region (EL_do .plain rfl (D_box (g := g0) rfl rp0 fun g1 w1 p1 hs q1 => ?_)))
 have hfr := hfr.ext hs
 refine EL_at (.bool false) rfl rfl ?_
 refine EL_nil (thn_n (E_seq (E_region (EL_do .plain rfl (D_load (g := g1) Try.isAgg82 Try.sizeOf82 rfl q1 fun v2 r2 => ?_)))))
 obtain ⟨y4, j0, h⟩ := bsome h
 refine EL_do .plain rfl (D_call (g := g1) (vs := [v2]) en80 (.cons rfl .nil) (wk80 r2 j0) fun g3 w3_ v3 hs hr => ?_)
 have hfr := hfr.ext hs
 subst hr
 refine EL_pur (v := .bool (!y4)) (P_not rfl) .plain rfl ?_
 refine EL_at (.bool (!y4)) rfl rfl ?_
 refine EL_nil (thn_n (E_ret ?_))
 obtain rfl := sinj h
 exact end1 rfl rfl (show _ = .bool (!y4) from rfl) ⟨_, hfr, rfl⟩
/-- griffe/loom.open -/
def f50 (x0 : LoomMill) (x1 : List LoomOrder) : Option (LoomLoomMill × Int) :=
 jn (σ := LoomLoomMill) (fun i5 =>
  some ((⟨x0, x1⟩ : LoomLoomMill), (0 : Int))
  ) fun m6 =>
 Option.bind (α := Bool) (
  bif (decide ((((x0).Widths).length : Int) > (3 : Int))) then
   some ((decide ((((x0).Widths).length : Int) > (3 : Int))))
  else
   some ((decide (((x1).length : Int) > (7 : Int))))
  ) fun z2 =>
 bif z2 then
  some ((⟨⟨[], 0⟩, []⟩ : LoomLoomMill), (5 : Int))
 else
  Option.bind (α := Bool) (
   bif ((((x0).Widths).length : Int) == (0 : Int)) then
    some (((((x0).Widths).length : Int) == (0 : Int)))
   else
    (f81 ((1 : Int)) ((100 : Int)) ((x0).Widths)).bind fun o3 =>
    bif (!o3) then
     some ((!o3))
    else
     (f81 ((0 : Int)) ((20 : Int)) (([(x0).Change] : List Int))).bind fun p3 =>
     bif (!p3) then
      some ((!p3))
     else
      (f82 x1 ((fun a0 => f79 a0))).bind fun j5 =>
      some (j5)
   ) fun z1 =>
  bif z1 then
   some ((⟨⟨[], 0⟩, []⟩ : LoomLoomMill), (2 : Int))
  else
   m6 ((⟨⟨[], 0⟩, []⟩ : LoomLoomMill))
theorem en50 : Enters Try.prog 50 := enters_of Try.func50 (by kernel_rfl) rfl
theorem wk50 {gI : Gh} {wI : World} {x0 : LoomMill} {x1 : List LoomOrder} {up0 : Value} (rp0 : RV gI.m wI x0 up0) {up1 : Value} (rp1 : RV gI.m wI x1 up1) {r : LoomLoomMill × Int} (h : f50 x0 x1 = some r) : Fn Try.prog 50 #[up0, up1] gI wI (fun m w v => ∃ y0 y1, v = .tuple #[y0, y1] ∧ RV m w (r.1) y0 ∧ y1 = .int .i64 (r.2)) := by
 unfold f50 at h
 refine fn_of_E Try.func50 rfl (Nat.le_of_ble_eq_true rfl) fun g0 hm hfr => ?_
 have rp0 : RV g0.m wI x0 up0 := hm ▸ rp0
 have rp1 : RV g0.m wI x1 up1 := hm ▸ rp1
 show E _ 37 none _ _ _ _ _
 refine E_seq (E_region (EL_do .plain rfl (D_box (g := g0) rfl rp0 fun g1 w1 p1 hs q1 => ?_)))
 have hfr := hfr.ext hs
 have rp1 := rp1.ext hs
 refine EL_do .plain rfl (D_allocOc (g := g1) 2004 (⟨⟨[], 0⟩, []⟩ : LoomLoomMill) Try.zeroValue96 (fun m w => ⟨_, (rep_two (rep_two rep_nil rep_int) rep_nil), rfl⟩) fun g2 w2 p2 hs b2 cb => ?_)
 have hfr := hfr.stp hs
 have rp1 := rp1.stp hs
 have q1 := q1.stp hs
 have l5 : OSF 2004 60400 0 g2 w2 3 96 ([] : List Int) p2 := cb.osf (by rfl)
 have m5 : OSF 2004 60402 2 g2 w2 82 96 ([] : List LoomOrder) p2 := cb.osf (by rfl)
 clear cb
 refine EL_at (.int .i64 (0)) rfl rfl ?_
 refine EL_nil (thn_n (E_seq (E_region (EL_at (.func (.func 79) #[] #[]) rfl rfl ?_))))
 refine EL_nil (thn_n (E_joinC h (fun (s : LoomLoomMill) e w => ∃ (g : Gh) , Fr gI wI g w ∧ e 1 = up1 ∧ RV g.m w (x1 : List LoomOrder) up1 ∧ e 2 = p1 ∧ PT g.m w (x0 : LoomMill) p1 ∧ e 4 = p2 ∧ OB 2004 g w 96 (s : LoomLoomMill) p2 ∧ OSF 2004 60400 0 g w 3 96 (((s).LoomMill).Widths) p2 ∧ OSF 2004 60402 2 g w 82 96 ((s).orders) p2) (fun X51 m6 y6 h => ?_) ?_))
 ·refine E_block ?_
  obtain ⟨z2, hx, h⟩ := bsome h
  refine E_join (fun e w => ∃ (g : Gh) , Fr gI wI g w ∧ e 1 = up1 ∧ RV g.m w (x1 : List LoomOrder) up1 ∧ e 2 = p1 ∧ PT g.m w (x0 : LoomMill) p1 ∧ e 4 = p2 ∧ OB 2004 g w 96 ((⟨⟨[], 0⟩, []⟩ : LoomLoomMill) : LoomLoomMill) p2 ∧ OSF 2004 60400 0 g w 3 96 ((((⟨⟨[], 0⟩, []⟩ : LoomLoomMill)).LoomMill).Widths) p2 ∧ OSF 2004 60402 2 g w 82 96 (((⟨⟨[], 0⟩, []⟩ : LoomLoomMill)).orders) p2 ∧ e 6 = .func (.func 79) #[] #[] ∧ e 7 = .bool (z2)) (fun Q' hQ => ?_) (fun i8 e7 hR => ?_)
  ·replace h := hx
   clear hx
   refine E_seq (E_region (EL_pur (v := fPtr p1 0) (P_fieldAddr at_24_0 rfl (PT.ptr q1)) .plain rfl ?_))
   have g7 := PT_field (part_LoomMill_0).1 q1
   refine EL_do .plain rfl (D_load (g := g2) Try.isAgg22 Try.sizeOf22 rfl g7 fun q8 i7 => ?_)
   refine EL_pur (v := .int .i64 (((x0).Widths).length : Int)) (P_len Try.underlying22 rfl i7) .plain rfl ?_
   refine EL_pur (v := .bool ((decide ((((x0).Widths).length : Int) > (3 : Int))))) (P_int rfl rfl rfl) .plain rfl ?_
   refine EL_pur (v := .bool ((decide ((((x0).Widths).length : Int) > (3 : Int))))) (P_assign rfl) .plain rfl ?_
   refine EL_nil (thn_n ?_)
   rcases csome h with ⟨d4, h⟩ | ⟨d4, h⟩
   ·refine E_ct d4 rfl ?_
    refine E_skip ?_
    obtain rfl := sinj h
    exact hQ _ _ ⟨g2, hfr, rfl, rp1, rfl, q1, rfl, b2, l5, m5, rfl, rfl⟩
   ·refine E_cf d4 rfl ?_
    refine E_region (EL_mw up1 rfl rfl ?_)
    refine EL_pur (v := .int .i64 ((x1).length : Int)) (P_len Try.underlying25 rfl rp1) .plain rfl ?_
    refine EL_in (.bool ((decide (((x1).length : Int) > (7 : Int))))) rfl rfl rfl rfl ?_
    refine EL_at (.bool ((decide (((x1).length : Int) > (7 : Int))))) rfl rfl ?_
    refine EL_nil ?_
    obtain rfl := sinj h
    exact hQ _ _ ⟨g2, hfr, rfl, rp1, rfl, q1, rfl, b2, l5, m5, rfl, rfl⟩
  ·clear hx
   obtain ⟨i3, hfr, d3, o0, j1, j0, j2, u0, u4_0_58, u4_2_58, b6, c5⟩ := hR
   rcases csome h with ⟨i4, h⟩ | ⟨i4, h⟩
   ·refine E_cond_true (Eq.trans (show ev _ _ = .bool (z2) from c5) (congrArg Value.bool i4)) ?_
    refine E_seq (E_region ?_)
    have n6 : RV i3.m e7 (⟨⟨[], 0⟩, []⟩ : LoomLoomMill) (.agg (setCh [[.slice none 0 0, .int .i64 0], [.slice none 0 0]] []).flatten.toArray) := RV_build rfl (rep_pair ((rep_two rep_nil rep_int)) (rep_last (rep_nil)))
    generalize j4 : (Value.agg (setCh [[.slice none 0 0, .int .i64 0], [.slice none 0 0]] []).flatten.toArray) = o6 at n6
    refine EL_pur (v := o6) (j4 ▸ P_build (vs := []) [[.slice none 0 0, .int .i64 0], [.slice none 0 0]] lay_96 rfl rfl .nil trivial) .plain rfl ?_
    refine EL_do .plain rfl (D_storeOc (g := i3) (v := o6) Try.sizeOf96 j2 u0 rfl n6 fun p6 q6 hs b61 cb => ?_)
    have b8 : OSF 2004 60400 0 p6 q6 3 96 ([] : List Int) p2 := cb.osf (by rw [← j4]; rfl)
    have c8 : OSF 2004 60402 2 p6 q6 82 96 ([] : List LoomOrder) p2 := cb.osf (by rw [← j4]; rfl)
    clear cb
    have hfr := hfr.stp hs
    refine EL_at (.int .i64 (5)) rfl rfl ?_
    refine EL_nil (thn_n (E_ret (blk_r ?_)))
    refine thn_r ?_
    obtain rfl := sinj h
    obtain ⟨ad62, cv62, hp62, z6, cr62⟩ := ob_read Try.isAgg96 Try.sizeOf96 b61
    exact endm_ct rfl rfl ((show _ = p2 from j2).trans hp62) z6 (show _ = .int .i64 (5) from rfl) ⟨_, hfr, _, _, rfl, cr62, rfl⟩
   ·refine E_cond_false (Eq.trans (show ev _ _ = .bool (z2) from c5) (congrArg Value.bool i4)) ?_
    obtain ⟨z1, hx, h⟩ := bsome h
    refine E_join (fun e w => ∃ (g : Gh) , Fr gI wI g w ∧ e 1 = up1 ∧ RV g.m w (x1 : List LoomOrder) up1 ∧ e 2 = p1 ∧ PT g.m w (x0 : LoomMill) p1 ∧ e 4 = p2 ∧ OB 2004 g w 96 ((⟨⟨[], 0⟩, []⟩ : LoomLoomMill) : LoomLoomMill) p2 ∧ OSF 2004 60400 0 g w 3 96 ((((⟨⟨[], 0⟩, []⟩ : LoomLoomMill)).LoomMill).Widths) p2 ∧ OSF 2004 60402 2 g w 82 96 (((⟨⟨[], 0⟩, []⟩ : LoomLoomMill)).orders) p2 ∧ e 16 = .bool (z1)) (fun Q' hQ => ?_) (fun j8 j7 hR => ?_)
    ·replace h := hx
     clear hx
     refine E_seq (E_region (EL_pur (v := fPtr p1 0) (P_fieldAddr at_24_0 j1 (PT.ptr j0)) .plain rfl ?_))
     have m7 := PT_field (part_LoomMill_0).1 j0
     refine EL_do .plain rfl (D_load (g := i3) Try.isAgg22 Try.sizeOf22 rfl m7 fun r8 n7 => ?_)
     refine EL_pur (v := .int .i64 (((x0).Widths).length : Int)) (P_len Try.underlying22 rfl n7) .plain rfl ?_
     refine EL_in (.bool (((((x0).Widths).length : Int) == (0 : Int)))) rfl rfl rfl rfl ?_
     refine EL_at (.bool (((((x0).Widths).length : Int) == (0 : Int)))) rfl rfl ?_
     refine EL_nil (thn_n ?_)
     rcases csome h with ⟨m4, h⟩ | ⟨m4, h⟩
     ·refine E_ct m4 rfl ?_
      refine E_skip ?_
      obtain rfl := sinj h
      exact hQ _ _ ⟨i3, hfr, d3, o0, j1, j0, j2, u0, u4_0_58, u4_2_58, rfl⟩
     ·refine E_cf m4 rfl ?_
      refine E_seq (E_region (EL_pur (v := fPtr p1 0) (P_fieldAddr at_24_0 j1 (PT.ptr j0)) .plain rfl ?_))
      have o7 := PT_field (part_LoomMill_0).1 j0
      refine EL_do .plain rfl (D_load (g := i3) Try.isAgg22 Try.sizeOf22 rfl o7 fun p7 q7 => ?_)
      obtain ⟨o3, a7, h⟩ := bsome h
      refine EL_do .plain rfl (D_call (g := i3) (vs := [.int .i64 (1), .int .i64 (100), p7]) en81 (.cons rfl (.cons rfl (.cons rfl .nil))) (wk81 q7 a7) fun n5 k8 t8 hs hr => ?_)
      have hfr := hfr.ext hs
      have o0 := o0.ext hs
      have j0 := j0.ext hs
      have u4_0_58 := u4_0_58.ext hs
      have u4_2_58 := u4_2_58.ext hs
      have u0 := u0.ext hs
      subst hr
      refine EL_pur (v := .bool (!o3)) (P_not rfl) .plain rfl ?_
      refine EL_at (.bool (!o3)) rfl rfl ?_
      refine EL_nil (thn_n ?_)
      rcases csome h with ⟨n4, h⟩ | ⟨n4, h⟩
      ·refine E_ct n4 rfl ?_
       refine E_skip ?_
       obtain rfl := sinj h
       exact hQ _ _ ⟨n5, hfr, d3, o0, j1, j0, j2, u0, u4_0_58, u4_2_58, rfl⟩
      ·refine E_cf n4 rfl ?_
       refine E_seq (E_region (EL_pur (v := fPtr p1 1) (P_fieldAddr at_24_1 j1 (PT.ptr j0)) .plain rfl ?_))
       have t7 := PT_field (part_LoomMill_1).1 j0
       refine EL_do .plain rfl (D_load (g := n5) Try.isAgg3 Try.sizeOf3 rfl t7 fun v8 u7 => ?_)
       obtain rfl := RV_int.1 u7
       refine EL_do .plain rfl (D_buildSlice (g := n5) 3027 (xs := ([(x0).Change] : List Int)) (vs := [.int .i64 ((x0).Change)]) Try.underlying22 Try.sizeOf3 Try.zeroValue3 rfl rfl (.cons rfl .nil) (RVs.cons (RV_int.2 rfl) RVs.nil) rfl rfl fun v7 x8 x7 hs o89 y7 hxt hfl => ?_)
       have hfr := hfr.stp hs
       have o0 := o0.stp hs
       have j0 := j0.stp hs
       have u4_0_58 := u4_0_58.stp hs rfl
       have u4_2_58 := u4_2_58.stp hs rfl
       have u0 := u0.stp hs rfl
       obtain ⟨p3, b7, h⟩ := bsome h
       refine EL_do .plain rfl (D_call (g := v7) (vs := [.int .i64 (0), .int .i64 (20), x7]) en81 (.cons rfl (.cons rfl (.cons rfl .nil))) (wk81 y7 b7) fun r6 l8 y8 hs hr => ?_)
       have hfr := hfr.ext hs
       have o0 := o0.ext hs
       have j0 := j0.ext hs
       have u4_0_58 := u4_0_58.ext hs
       have u4_2_58 := u4_2_58.ext hs
       have u0 := u0.ext hs
       subst hr
       refine EL_pur (v := .bool (!p3)) (P_not rfl) .plain rfl ?_
       refine EL_at (.bool (!p3)) rfl rfl ?_
       refine EL_nil (thn_n ?_)
       rcases csome h with ⟨o4, h⟩ | ⟨o4, h⟩
       ·refine E_ct o4 rfl ?_
        refine E_skip ?_
        obtain rfl := sinj h
        exact hQ _ _ ⟨r6, hfr, d3, o0, j1, j0, j2, u0, u4_0_58, u4_2_58, rfl⟩
       ·refine E_cf o4 rfl ?_
        refine E_region (EL_mv d3 rfl ?_)
        refine EL_mv b6 rfl ?_
        obtain ⟨j5, c7, h⟩ := bsome h
        refine EL_do .plain rfl (D_call (g := r6) (vs := [up1, .func (.func 79) #[] #[]]) en82 (.cons rfl (.cons rfl .nil)) (wk82 o0 ⟨79, #[], #[], rfl, en79, fun g' w' hch a0 b0 r hu0 hr => by exact Fn.mono (wk79 hu0  hr) fun _ _ _ h => RV_bool.2 h⟩ c7) fun a8 m8 z8 hs hr => ?_)
        have hfr := hfr.ext hs
        have o0 := o0.ext hs
        have j0 := j0.ext hs
        have u4_0_58 := u4_0_58.ext hs
        have u4_2_58 := u4_2_58.ext hs
        have u0 := u0.ext hs
        subst hr
        refine EL_at (.bool (j5)) rfl rfl ?_
        refine EL_nil ?_
        obtain rfl := sinj h
        exact hQ _ _ ⟨a8, hfr, d3, o0, j1, j0, j2, u0, u4_0_58, u4_2_58, rfl⟩
    ·clear hx
     obtain ⟨o5, hfr, c6, d6, i6, j6, j3, d5, u4_0_95, u4_2_95, u3⟩ := hR
     rcases csome h with ⟨p4, h⟩ | ⟨p4, h⟩
     ·refine E_cond_true (Eq.trans (show ev _ _ = .bool (z1) from u3) (congrArg Value.bool p4)) ?_
      refine E_seq (E_region ?_)
      have t6 : RV o5.m j7 (⟨⟨[], 0⟩, []⟩ : LoomLoomMill) (.agg (setCh [[.slice none 0 0, .int .i64 0], [.slice none 0 0]] []).flatten.toArray) := RV_build rfl (rep_pair ((rep_two rep_nil rep_int)) (rep_last (rep_nil)))
      generalize u4 : (Value.agg (setCh [[.slice none 0 0, .int .i64 0], [.slice none 0 0]] []).flatten.toArray) = u6 at t6
      refine EL_pur (v := u6) (u4 ▸ P_build (vs := []) [[.slice none 0 0, .int .i64 0], [.slice none 0 0]] lay_96 rfl rfl .nil trivial) .plain rfl ?_
      refine EL_do .plain rfl (D_storeOc (g := o5) (v := u6) Try.sizeOf96 j3 d5 rfl t6 fun v6 x6 hs b98 cb => ?_)
      have d8 : OSF 2004 60400 0 v6 x6 3 96 ([] : List Int) p2 := cb.osf (by rw [← u4]; rfl)
      have e8 : OSF 2004 60402 2 v6 x6 82 96 ([] : List LoomOrder) p2 := cb.osf (by rw [← u4]; rfl)
      clear cb
      have hfr := hfr.stp hs
      refine EL_at (.int .i64 (2)) rfl rfl ?_
      refine EL_nil (thn_n (E_ret (blk_r ?_)))
      refine thn_r ?_
      obtain rfl := sinj h
      obtain ⟨ad99, cv99, hp99, d7, cr99⟩ := ob_read Try.isAgg96 Try.sizeOf96 b98
      exact endm_ct rfl rfl ((show _ = p2 from j3).trans hp99) d7 (show _ = .int .i64 (2) from rfl) ⟨_, hfr, _, _, rfl, cr99, rfl⟩
     ·refine E_cond_false (Eq.trans (show ev _ _ = .bool (z1) from u3) (congrArg Value.bool p4)) ?_
      exact E_skip (blk_n (thn_n (y6 ((⟨⟨[], 0⟩, []⟩ : LoomLoomMill)) _ _ ⟨o5, hfr, c6, d6, i6, j6, j3, d5, u4_0_95, u4_2_95⟩ h)))
 ·rintro i5 g8 n8 ⟨x4, hfr, p5, z3, q5, t5, c4, u5, u4_0_100, u4_2_100⟩ h
  refine E_seq (E_region (EL_do .plain rfl (D_load (g := x4) Try.isAgg24 Try.sizeOf24 q5 t5 fun z4 x5 => ?_)))
  refine EL_mv p5 rfl ?_
  have y5 : RV x4.m _ (⟨x0, x1⟩ : LoomLoomMill) (.agg (setCh [[.slice none 0 0, .int .i64 0], [.slice none 0 0]] [(0, z4), (1, up1)]).flatten.toArray) := RV_build rfl (rep_pair (RV.cells x5) (rep_last (RV.cells z3)))
  generalize k6 : (Value.agg (setCh [[.slice none 0 0, .int .i64 0], [.slice none 0 0]] [(0, z4), (1, up1)]).flatten.toArray) = z5 at y5
  refine EL_pur (v := z5) (k6 ▸ P_build (vs := [(0, z4), (1, up1)]) [[.slice none 0 0, .int .i64 0], [.slice none 0 0]] lay_96 rfl rfl (.cons rfl (.cons rfl .nil)) ⟨⟨_, rfl, cells_size x5⟩, ⟨⟨_, rfl, cells_size z3⟩, trivial⟩⟩) .plain rfl ?_
  refine EL_do .plain rfl (D_storeOc (g := x4) (v := z5) Try.sizeOf96 c4 u5 rfl y5 fun o8 p8 hs b103 cb => ?_)
  clear cb
  have hfr := hfr.stp hs
  refine EL_at (.int .i64 (0)) rfl rfl ?_
  refine EL_nil (thn_n (E_ret ?_))
  obtain rfl := sinj h
  obtain ⟨ad104, cv104, hp104, l6, cr104⟩ := ob_read Try.isAgg96 Try.sizeOf96 b103
  exact endm_ct rfl rfl ((show _ = p2 from c4).trans hp104) l6 (show _ = .int .i64 (0) from rfl) ⟨_, hfr, _, _, rfl, cr104, rfl⟩
/-- griffe/loom.newStill -/
def f65 (x0 : LoomMill) (x1 : List LoomOrder) (x2 : List LoomRun) (x3 : LoomStop) : Option (LoomStill × Int) :=
 (f50 x0 x1).bind fun y6 =>
 Option.bind (α := Int) (
  bif (y6.2 == (0 : Int)) then
   (f78 (y6.1) x2).bind fun o3 =>
   some (o3.2)
  else
   some (y6.2)
  ) fun j1 =>
 jn (σ := LoomStill) (fun u5 =>
  some ((⟨y6.1, x3⟩ : LoomStill), (0 : Int))
  ) fun v6 =>
 bif (j1 != (0 : Int)) then
  some ((⟨⟨⟨[], 0⟩, []⟩, ⟨0, ⟨0, 0⟩⟩⟩ : LoomStill), j1)
 else
  (f81 ((0 : Int)) ((w64 ((((x0).Widths).length : Int) - (1 : Int)))) (([(x3).Loom] : List Int))).bind fun y81 =>
  bif (!y81) then
   some ((⟨⟨⟨[], 0⟩, []⟩, ⟨0, ⟨0, 0⟩⟩⟩ : LoomStill), (7 : Int))
  else
   Option.bind (α := Bool) (
    (f71 (([((x3).Days).Low, ((x3).Days).High] : List Int))).bind fun y110 =>
    bif (!y110) then
     some ((!y110))
    else
     some ((decide (((x3).Days).Low > ((x3).Days).High)))
    ) fun d3 =>
   bif d3 then
    some ((⟨⟨⟨[], 0⟩, []⟩, ⟨0, ⟨0, 0⟩⟩⟩ : LoomStill), (2 : Int))
   else
    v6 ((⟨⟨⟨[], 0⟩, []⟩, ⟨0, ⟨0, 0⟩⟩⟩ : LoomStill))
theorem en65 : Enters Try.prog 65 := enters_of Try.func65 (by kernel_rfl) rfl
theorem wk65 {gI : Gh} {wI : World} {x0 : LoomMill} {x1 : List LoomOrder} {x2 : List LoomRun} {x3 : LoomStop} {up0 : Value} (rp0 : RV gI.m wI x0 up0) {up1 : Value} (rp1 : RV gI.m wI x1 up1) {up2 : Value} (rp2 : RV gI.m wI x2 up2) {up3 : Value} (rp3 : RV gI.m wI x3 up3) {r : LoomStill × Int} (h : f65 x0 x1 x2 x3 = some r) : Fn Try.prog 65 #[up0, up1, up2, up3] gI wI (fun m w v => ∃ y0 y1, v = .tuple #[y0, y1] ∧ RV m w (r.1) y0 ∧ y1 = .int .i64 (r.2)) := by
 unfold f65 at h
 refine fn_of_E Try.func65 rfl (Nat.le_of_ble_eq_true rfl) fun g0 hm hfr => ?_
 have rp0 : RV g0.m wI x0 up0 := hm ▸ rp0
 have rp1 : RV g0.m wI x1 up1 := hm ▸ rp1
 have rp2 : RV g0.m wI x2 up2 := hm ▸ rp2
 have rp3 : RV g0.m wI x3 up3 := hm ▸ rp3
 show E _ 62 none _ _ _ _ _
 refine E_seq (E_region (EL_do .plain rfl (D_box (g := g0) rfl rp0 fun g1 w1 p1 hs q1 => ?_)))
 have hfr := hfr.ext hs
 have rp1 := rp1.ext hs
 have rp2 := rp2.ext hs
 have rp3 := rp3.ext hs
 refine EL_do .plain rfl (D_box (g := g1) rfl rp3 fun g2 w2 p2 hs q2 => ?_)
 have hfr := hfr.ext hs
 have rp1 := rp1.ext hs
 have rp2 := rp2.ext hs
 have q1 := q1.ext hs
 refine EL_do .plain rfl (D_allocOc (g := g2) 2008 (⟨⟨⟨[], 0⟩, []⟩, ⟨0, ⟨0, 0⟩⟩⟩ : LoomStill) Try.zeroValue113 (fun m w => ⟨_, (rep_two (rep_two (rep_two rep_nil rep_int) rep_nil) (rep_two rep_int (rep_two rep_int rep_int))), rfl⟩) fun g3 w3 p3 hs b3 cb => ?_)
 have hfr := hfr.stp hs
 have rp1 := rp1.stp hs
 have rp2 := rp2.stp hs
 have q1 := q1.stp hs
 have q2 := q2.stp hs
 have j2 : OSF 2008 60800 0 g3 w3 3 113 ([] : List Int) p3 := cb.osf (by rfl)
 have z2 : OSF 2008 60802 2 g3 w3 82 113 ([] : List LoomOrder) p3 := cb.osf (by rfl)
 clear cb
 refine EL_at (.int .i64 (0)) rfl rfl ?_
 refine EL_nil (thn_n (E_seq (E_region (EL_do .plain rfl (D_load (g := g3) Try.isAgg24 Try.sizeOf24 rfl q1 fun v4 r4 => ?_)))))
 refine EL_mw up1 rfl rfl ?_
 obtain ⟨y6, c8, h⟩ := bsome h
 refine EL_do .plain rfl (D_call (g := g3) (vs := [v4, up1]) en50 (.cons rfl (.cons rfl .nil)) (wk50 r4 rp1 c8) fun g5 w5_ v5 hs hr => ?_)
 have hfr := hfr.ext hs
 have rp2 := rp2.ext hs
 have q1 := q1.ext hs
 have q2 := q2.ext hs
 have j2 := j2.ext hs
 have z2 := z2.ext hs
 have b3 := b3.ext hs
 obtain ⟨u4, c9, rfl, x4, rfl⟩ := hr
 refine EL_mw (.tuple #[u4, .int .i64 (y6.2)]) rfl rfl ?_
 refine EL_pur (v := u4) (P_extract rfl rfl) .plain rfl ?_
 refine EL_pur (v := .int .i64 (y6.2)) (P_extract rfl rfl) .plain rfl ?_
 refine EL_do .plain rfl (D_allocOc (g := g5) 2010 (⟨⟨[], 0⟩, []⟩ : LoomLoomMill) Try.zeroValue96 (fun m w => ⟨_, (rep_two (rep_two rep_nil rep_int) rep_nil), rfl⟩) fun g7 w7 p7 hs b7 cb => ?_)
 have hfr := hfr.stp hs
 have rp2 := rp2.stp hs
 have q1 := q1.stp hs
 have q2 := q2.stp hs
 have j2 := j2.stp hs rfl
 have z2 := z2.stp hs rfl
 have b3 := b3.stp hs rfl
 have x4 := x4.stp hs
 have d9 : OSF 2010 61000 0 g7 w7 3 96 ([] : List Int) p7 := cb.osf (by rfl)
 have e9 : OSF 2010 61002 2 g7 w7 82 96 ([] : List LoomOrder) p7 := cb.osf (by rfl)
 clear cb
 refine EL_do .plain rfl (D_storeOc (g := g7) (v := u4) Try.sizeOf96 rfl b7 rfl x4 fun g8 w8 hs b8 cb => ?_)
 clear cb
 have hfr := hfr.stp hs
 have rp2 := rp2.stp hs
 have q1 := q1.stp hs
 have q2 := q2.stp hs
 have j2 := j2.stp hs rfl
 have z2 := z2.stp hs rfl
 have b3 := b3.stp hs rfl
 refine EL_at (.int .i64 (y6.2)) rfl rfl ?_
 refine EL_nil (thn_n ?_)
 obtain ⟨j1, hx, h⟩ := bsome h
 refine E_join (fun e w => ∃ (g : Gh) , Fr gI wI g w ∧ e 4 = p1 ∧ PT g.m w (x0 : LoomMill) p1 ∧ e 7 = p2 ∧ PT g.m w (x3 : LoomStop) p2 ∧ e 8 = p3 ∧ OB 2008 g w 113 ((⟨⟨⟨[], 0⟩, []⟩, ⟨0, ⟨0, 0⟩⟩⟩ : LoomStill) : LoomStill) p3 ∧ OSF 2008 60800 0 g w 3 113 (((((⟨⟨⟨[], 0⟩, []⟩, ⟨0, ⟨0, 0⟩⟩⟩ : LoomStill)).mill).LoomMill).Widths) p3 ∧ OSF 2008 60802 2 g w 82 113 ((((⟨⟨⟨[], 0⟩, []⟩, ⟨0, ⟨0, 0⟩⟩⟩ : LoomStill)).mill).orders) p3 ∧ e 9 = .int .i64 (j1) ∧ e 10 = p7 ∧ OB 2010 g w 96 (y6.1 : LoomLoomMill) p7) (fun Q' hQ => ?_) (fun g9 y9 hR => ?_)
 ·replace h := hx
  clear hx
  refine E_seq (E_region (EL_mw (.int .i64 (y6.2)) rfl rfl ?_))
  refine EL_in (.bool ((y6.2 == (0 : Int)))) rfl rfl rfl rfl ?_
  refine EL_nil (thn_n ?_)
  rcases csome h with ⟨z4, h⟩ | ⟨z4, h⟩
  ·refine E_ct z4 rfl ?_
   refine E_region (EL_do .plain rfl (D_loadO (g := g8) Try.isAgg96 Try.sizeOf96 rfl b8 fun d8 e8 => ?_))
   refine EL_mw up2 rfl rfl ?_
   obtain ⟨o3, x6, h⟩ := bsome h
   refine EL_do .plain rfl (D_call (g := g8) (vs := [d8, up2]) en78 (.cons rfl (.cons rfl .nil)) (wk78 e8 rp2 x6) fun i8 i9 z9 hs hr => ?_)
   have hfr := hfr.ext hs
   have q1 := q1.ext hs
   have q2 := q2.ext hs
   have j2 := j2.ext hs
   have z2 := z2.ext hs
   have b3 := b3.ext hs
   have b8 := b8.ext hs
   obtain ⟨x8, y8, rfl, rfl, rfl⟩ := hr
   refine EL_mw (.tuple #[.int .i64 (o3.1), .int .i64 (o3.2)]) rfl rfl ?_
   refine EL_pur (v := .int .i64 (o3.1)) (P_extract rfl rfl) .plain rfl ?_
   refine EL_pur (v := .int .i64 (o3.2)) (P_extract rfl rfl) .plain rfl ?_
   refine EL_at (.int .i64 (o3.2)) rfl rfl ?_
   refine EL_nil ?_
   obtain rfl := sinj h
   exact hQ _ _ ⟨i8, hfr, rfl, q1, rfl, q2, rfl, b3, j2, z2, rfl, rfl, b8⟩
  ·refine E_cf z4 rfl ?_
   refine E_skip ?_
   obtain rfl := sinj h
   exact hQ _ _ ⟨g8, hfr, rfl, q1, rfl, q2, rfl, b3, j2, z2, rfl, rfl, b8⟩
 ·clear hx
  obtain ⟨m4, hfr, p6, m5, i3, j0, z1, o0, u8_0_17, u8_2_17, n5, n4, u0⟩ := hR
  refine E_joinC h (fun (s : LoomStill) e w => ∃ (g : Gh) , Fr gI wI g w ∧ e 7 = p2 ∧ PT g.m w (x3 : LoomStop) p2 ∧ e 8 = p3 ∧ OB 2008 g w 113 (s : LoomStill) p3 ∧ OSF 2008 60800 0 g w 3 113 ((((s).mill).LoomMill).Widths) p3 ∧ OSF 2008 60802 2 g w 82 113 (((s).mill).orders) p3 ∧ e 10 = p7 ∧ OB 2010 g w 96 (y6.1 : LoomLoomMill) p7) (fun X70 v6 z6 h => ?_) ?_
  ·refine E_block ?_
   refine E_seq (E_region (EL_mv n5 rfl ?_))
   refine EL_in (.bool ((j1 != (0 : Int)))) rfl rfl rfl rfl ?_
   refine EL_at (.bool ((j1 != (0 : Int)))) rfl rfl ?_
   refine EL_nil (thn_n ?_)
   rcases csome h with ⟨c5, h⟩ | ⟨c5, h⟩
   ·refine E_ct c5 rfl ?_
    refine E_seq (E_region (EL_do .plain rfl (D_loadO (g := m4) Try.isAgg113 Try.sizeOf113 z1 o0 fun j8 k8 => ?_)))
    refine EL_mv n5 rfl ?_
    refine EL_do .plain rfl (D_storeOc (g := m4) (v := j8) Try.sizeOf113 z1 o0 rfl k8 fun bA cA hs b73 cb => ?_)
    clear cb
    have hfr := hfr.stp hs
    refine EL_at (.int .i64 (j1)) rfl rfl ?_
    refine EL_nil (thn_n (E_ret (blk_r ?_)))
    refine thn_r ?_
    obtain rfl := sinj h
    obtain ⟨ad74, cv74, hp74, a7, cr74⟩ := ob_read Try.isAgg113 Try.sizeOf113 b73
    exact endm_ct rfl rfl ((show _ = p3 from z1).trans hp74) a7 (show _ = .int .i64 (j1) from rfl) ⟨_, hfr, _, _, rfl, cr74, rfl⟩
   ·refine E_cf c5 rfl ?_
    refine E_seq (E_region (EL_pur (v := fPtr p1 0) (P_fieldAddr at_24_0 p6 (PT.ptr m5)) .plain rfl ?_))
    have l8 := PT_field (part_LoomMill_0).1 m5
    refine EL_do .plain rfl (D_load (g := m4) Try.isAgg22 Try.sizeOf22 rfl l8 fun dA m8 => ?_)
    refine EL_pur (v := .int .i64 (((x0).Widths).length : Int)) (P_len Try.underlying22 rfl m8) .plain rfl ?_
    refine EL_pur (v := .int .i64 ((w64 ((((x0).Widths).length : Int) - (1 : Int))))) (P_int rfl rfl rfl) .plain rfl ?_
    refine EL_pur (v := fPtr p2 0) (P_fieldAddr at_54_0 i3 (PT.ptr j0)) .plain rfl ?_
    have n8 := PT_field (part_LoomStop_0).1 j0
    refine EL_do .plain rfl (D_load (g := m4) Try.isAgg3 Try.sizeOf3 rfl n8 fun eA o8 => ?_)
    obtain rfl := RV_int.1 o8
    refine EL_do .plain rfl (D_buildSlice (g := m4) 3037 (xs := ([(x3).Loom] : List Int)) (vs := [.int .i64 ((x3).Loom)]) Try.underlying22 Try.sizeOf3 Try.zeroValue3 rfl rfl (.cons rfl .nil) (RVs.cons (RV_int.2 rfl) RVs.nil) rfl rfl fun p8 gA q8 hs o79 r8 hxt hfl => ?_)
    have hfr := hfr.stp hs
    have j0 := j0.stp hs
    have u8_0_17 := u8_0_17.stp hs rfl
    have u8_2_17 := u8_2_17.stp hs rfl
    have o0 := o0.stp hs rfl
    have u0 := u0.stp hs rfl
    obtain ⟨y81, c7, h⟩ := bsome h
    refine EL_do .plain rfl (D_call (g := p8) (vs := [.int .i64 (0), .int .i64 ((w64 ((((x0).Widths).length : Int) - (1 : Int)))), q8]) en81 (.cons rfl (.cons rfl (.cons rfl .nil))) (wk81 r8 c7) fun o4 j9 iA hs hr => ?_)
    have hfr := hfr.ext hs
    have j0 := j0.ext hs
    have u8_0_17 := u8_0_17.ext hs
    have u8_2_17 := u8_2_17.ext hs
    have o0 := o0.ext hs
    have u0 := u0.ext hs
    subst hr
    refine EL_pur (v := .bool (!y81)) (P_not rfl) .plain rfl ?_
    refine EL_at (.bool (!y81)) rfl rfl ?_
    refine EL_nil (thn_n ?_)
    rcases csome h with ⟨d5, h⟩ | ⟨d5, h⟩
    ·refine E_ct d5 rfl ?_
     refine E_seq (E_region (EL_do .plain rfl (D_loadO (g := o4) Try.isAgg113 Try.sizeOf113 z1 o0 fun t8 v8 => ?_)))
     refine EL_do .plain rfl (D_storeOc (g := o4) (v := t8) Try.sizeOf113 z1 o0 rfl v8 fun jA kA hs b84 cb => ?_)
     clear cb
     have hfr := hfr.stp hs
     refine EL_at (.int .i64 (7)) rfl rfl ?_
     refine EL_nil (thn_n (E_ret (blk_r ?_)))
     refine thn_r ?_
     obtain rfl := sinj h
     obtain ⟨ad85, cv85, hp85, d7, cr85⟩ := ob_read Try.isAgg113 Try.sizeOf113 b84
     exact endm_ct rfl rfl ((show _ = p3 from z1).trans hp85) d7 (show _ = .int .i64 (7) from rfl) ⟨_, hfr, _, _, rfl, cr85, rfl⟩
    ·refine E_cf d5 rfl ?_
     obtain ⟨d3, hx, h⟩ := bsome h
     refine E_join (fun e w => ∃ (g : Gh) , Fr gI wI g w ∧ e 7 = p2 ∧ PT g.m w (x3 : LoomStop) p2 ∧ e 8 = p3 ∧ OB 2008 g w 113 ((⟨⟨⟨[], 0⟩, []⟩, ⟨0, ⟨0, 0⟩⟩⟩ : LoomStill) : LoomStill) p3 ∧ OSF 2008 60800 0 g w 3 113 (((((⟨⟨⟨[], 0⟩, []⟩, ⟨0, ⟨0, 0⟩⟩⟩ : LoomStill)).mill).LoomMill).Widths) p3 ∧ OSF 2008 60802 2 g w 82 113 ((((⟨⟨⟨[], 0⟩, []⟩, ⟨0, ⟨0, 0⟩⟩⟩ : LoomStill)).mill).orders) p3 ∧ e 10 = p7 ∧ OB 2010 g w 96 (y6.1 : LoomLoomMill) p7 ∧ e 41 = .bool (d3)) (fun Q' hQ => ?_) (fun z8 k9 hR => ?_)
     ·replace h := hx
      clear hx
      refine E_seq (E_region (EL_pur (v := fPtr p2 1) (P_fieldAddr at_54_1 i3 (PT.ptr j0)) .plain rfl ?_))
      have x5 := PT_field (part_LoomStop_1).1 j0
      refine EL_pur (v := fPtr (fPtr p2 1) 0) (P_fieldAddr at_48_0 rfl (PT.ptr x5)) .plain rfl ?_
      have e7 := PT_field (part_Span_0).1 x5
      refine EL_do .plain rfl (D_load (g := o4) Try.isAgg3 Try.sizeOf3 rfl e7 fun l9 i7 => ?_)
      obtain rfl := RV_int.1 i7
      refine EL_pur (v := fPtr p2 1) (P_fieldAddr at_54_1 i3 (PT.ptr j0)) .plain rfl ?_
      have y5 := PT_field (part_LoomStop_1).1 j0
      refine EL_pur (v := fPtr (fPtr p2 1) 1) (P_fieldAddr at_48_1 rfl (PT.ptr y5)) .plain rfl ?_
      have j7 := PT_field (part_Span_1).1 y5
      refine EL_do .plain rfl (D_load (g := o4) Try.isAgg3 Try.sizeOf3 rfl j7 fun m9 m7 => ?_)
      obtain rfl := RV_int.1 m7
      refine EL_do .plain rfl (D_buildSlice (g := o4) 3048 (xs := ([((x3).Days).Low, ((x3).Days).High] : List Int)) (vs := [.int .i64 (((x3).Days).Low), .int .i64 (((x3).Days).High)]) Try.underlying22 Try.sizeOf3 Try.zeroValue3 rfl rfl (.cons rfl (.cons rfl .nil)) (RVs.cons (RV_int.2 rfl) (RVs.cons (RV_int.2 rfl) RVs.nil)) rfl rfl fun n7 n9 o7 hs o108 q7 hxt hfl => ?_)
      have hfr := hfr.stp hs
      have j0 := j0.stp hs
      have u8_0_17 := u8_0_17.stp hs rfl
      have u8_2_17 := u8_2_17.stp hs rfl
      have o0 := o0.stp hs rfl
      have u0 := u0.stp hs rfl
      obtain ⟨y110, q6, h⟩ := bsome h
      refine EL_do .plain rfl (D_call (g := n7) (vs := [o7]) en71 (.cons rfl .nil) (wk71 q7 q6) fun c4 a9 o9 hs hr => ?_)
      have hfr := hfr.ext hs
      have j0 := j0.ext hs
      have u8_0_17 := u8_0_17.ext hs
      have u8_2_17 := u8_2_17.ext hs
      have o0 := o0.ext hs
      have u0 := u0.ext hs
      subst hr
      refine EL_pur (v := .bool (!y110)) (P_not rfl) .plain rfl ?_
      refine EL_at (.bool (!y110)) rfl rfl ?_
      refine EL_nil (thn_n ?_)
      rcases csome h with ⟨d4, h⟩ | ⟨d4, h⟩
      ·refine E_ct d4 rfl ?_
       refine E_skip ?_
       obtain rfl := sinj h
       exact hQ _ _ ⟨c4, hfr, i3, j0, z1, o0, u8_0_17, u8_2_17, n4, u0, rfl⟩
      ·refine E_cf d4 rfl ?_
       refine E_region (EL_pur (v := fPtr p2 1) (P_fieldAddr at_54_1 i3 (PT.ptr j0)) .plain rfl ?_)
       have z5 := PT_field (part_LoomStop_1).1 j0
       refine EL_pur (v := fPtr (fPtr p2 1) 0) (P_fieldAddr at_48_0 rfl (PT.ptr z5)) .plain rfl ?_
       have t7 := PT_field (part_Span_0).1 z5
       refine EL_do .plain rfl (D_load (g := c4) Try.isAgg3 Try.sizeOf3 rfl t7 fun p9 u7 => ?_)
       obtain rfl := RV_int.1 u7
       refine EL_pur (v := fPtr p2 1) (P_fieldAddr at_54_1 i3 (PT.ptr j0)) .plain rfl ?_
       have b6 := PT_field (part_LoomStop_1).1 j0
       refine EL_pur (v := fPtr (fPtr p2 1) 1) (P_fieldAddr at_48_1 rfl (PT.ptr b6)) .plain rfl ?_
       have v7 := PT_field (part_Span_1).1 b6
       refine EL_do .plain rfl (D_load (g := c4) Try.isAgg3 Try.sizeOf3 rfl v7 fun q9 x7 => ?_)
       obtain rfl := RV_int.1 x7
       refine EL_in (.bool ((decide (((x3).Days).Low > ((x3).Days).High)))) rfl rfl rfl rfl ?_
       refine EL_at (.bool ((decide (((x3).Days).Low > ((x3).Days).High)))) rfl rfl ?_
       refine EL_nil ?_
       obtain rfl := sinj h
       exact hQ _ _ ⟨c4, hfr, i3, j0, z1, o0, u8_0_17, u8_2_17, n4, u0, rfl⟩
     ·clear hx
      obtain ⟨i5, hfr, c6, d6, j3, u3, u8_0_118, u8_2_118, o5, p5, z3⟩ := hR
      rcases csome h with ⟨i4, h⟩ | ⟨i4, h⟩
      ·refine E_cond_true (Eq.trans (show ev _ _ = .bool (d3) from z3) (congrArg Value.bool i4)) ?_
       refine E_seq (E_region (EL_do .plain rfl (D_loadO (g := i5) Try.isAgg113 Try.sizeOf113 j3 u3 fun y7 a8 => ?_)))
       refine EL_do .plain rfl (D_storeOc (g := i5) (v := y7) Try.sizeOf113 j3 u3 rfl a8 fun r9 t9 hs b121 cb => ?_)
       clear cb
       have hfr := hfr.stp hs
       refine EL_at (.int .i64 (2)) rfl rfl ?_
       refine EL_nil (thn_n (E_ret (blk_r ?_)))
       refine thn_r ?_
       obtain rfl := sinj h
       obtain ⟨ad122, cv122, hp122, r6, cr122⟩ := ob_read Try.isAgg113 Try.sizeOf113 b121
       exact endm_ct rfl rfl ((show _ = p3 from j3).trans hp122) r6 (show _ = .int .i64 (2) from rfl) ⟨_, hfr, _, _, rfl, cr122, rfl⟩
      ·refine E_cond_false (Eq.trans (show ev _ _ = .bool (d3) from z3) (congrArg Value.bool i4)) ?_
       exact E_skip (blk_n (thn_n (z6 ((⟨⟨⟨[], 0⟩, []⟩, ⟨0, ⟨0, 0⟩⟩⟩ : LoomStill)) _ _ ⟨i5, hfr, c6, d6, j3, u3, u8_0_118, u8_2_118, o5, p5⟩ h)))
  ·rintro u5 b9 u9 ⟨j4, hfr, i6, j6, p4, k6, u8_0_123, u8_2_123, q5, t5⟩ h
   refine E_seq (E_region (EL_do .plain rfl (D_loadO (g := j4) Try.isAgg96 Try.sizeOf96 q5 t5 fun j5 l6 => ?_)))
   refine EL_do .plain rfl (D_load (g := j4) Try.isAgg54 Try.sizeOf54 i6 j6 fun l5 m6 => ?_)
   have n6 : RV j4.m _ (⟨y6.1, x3⟩ : LoomStill) (.agg (setCh [[.slice none 0 0, .int .i64 0, .slice none 0 0], [.int .i64 0, .int .i64 0, .int .i64 0]] [(0, j5), (1, l5)]).flatten.toArray) := RV_build rfl (rep_pair (RV.cells l6) (rep_last (RV.cells m6)))
   generalize t6 : (Value.agg (setCh [[.slice none 0 0, .int .i64 0, .slice none 0 0], [.int .i64 0, .int .i64 0, .int .i64 0]] [(0, j5), (1, l5)]).flatten.toArray) = o6 at n6
   refine EL_pur (v := o6) (t6 ▸ P_build (vs := [(0, j5), (1, l5)]) [[.slice none 0 0, .int .i64 0, .slice none 0 0], [.int .i64 0, .int .i64 0, .int .i64 0]] lay_113 rfl rfl (.cons rfl (.cons rfl .nil)) ⟨⟨_, rfl, cells_size l6⟩, ⟨⟨_, rfl, cells_size m6⟩, trivial⟩⟩) .plain rfl ?_
   refine EL_do .plain rfl (D_storeOc (g := j4) (v := o6) Try.sizeOf113 p4 k6 rfl n6 fun v9 x9 hs b127 cb => ?_)
   clear cb
   have hfr := hfr.stp hs
   refine EL_at (.int .i64 (0)) rfl rfl ?_
   refine EL_nil (thn_n (E_ret ?_))
   obtain rfl := sinj h
   obtain ⟨ad128, cv128, hp128, u6, cr128⟩ := ob_read Try.isAgg113 Try.sizeOf113 b127
   exact endm_ct rfl rfl ((show _ = p3 from p4).trans hp128) u6 (show _ = .int .i64 (0) from rfl) ⟨_, hfr, _, _, rfl, cr128, rfl⟩
/-- griffe/loom.Plan -/
def f17 (x0 : LoomMill) (x1 : List LoomOrder) : Option ((List LoomRun) × Int) :=
 (f50 x0 x1).bind fun y4 =>
 jn (σ := (List LoomRun)) (fun x4 =>
  jn (σ := (List LoomRun)) (fun k6 =>
   jn (σ := (List LoomRun)) (fun d5 =>
    some (d5, (0 : Int))
    ) fun p6 =>
   lp (σ := (List LoomRun) × (List (Int × LoomRun)) × Int) (fun q6 (z1, i5, j0) =>
    bif (decide (j0 < ((x1).length : Int))) then
     jn (σ := (List LoomRun) × (List (Int × LoomRun))) (fun (i4, j4) =>
      q6 (i4, j4, (w64 (j0 + (1 : Int))))
      ) fun r6 =>
     jn (σ := (List LoomRun) × (List (Int × LoomRun))) (fun (j5, j2) =>
      (apnd 24 j5 (([((mget j2 j0).getD (⟨0, 0, 0⟩ : LoomRun))] : List LoomRun))).bind fun y137 =>
      r6 (y137, j2)
      ) fun t6 =>
     (f54 (y4.1) j0 i5).bind fun m4 =>
     bif (!m4.1) then
      some ([], (9 : Int))
     else
      t6 (z1, m4.2)
    else
     p6 (z1)
    ) big (k6, ([] : List (Int × LoomRun)), (0 : Int))
   ) fun r8 =>
  (f52 (y4.1)).bind fun p4 =>
  (f51 (y4.1) p4 (([] : List (Int × LoomRun)))).bind fun c4 =>
  (f53 (y4.1)).bind fun l5 =>
  (idx c4 l5).bind fun m5 =>
  bif (!m5) then
   some ([], (9 : Int))
  else
   r8 (x4)
  ) fun k8 =>
 bif (y4.2 != (0 : Int)) then
  some ([], y4.2)
 else
  k8 ([])
theorem en17 : Enters Try.prog 17 := enters_of Try.func17 (by kernel_rfl) rfl
theorem wk17 {gI : Gh} {wI : World} {x0 : LoomMill} {x1 : List LoomOrder} {up0 : Value} (rp0 : RV gI.m wI x0 up0) {up1 : Value} (rp1 : RV gI.m wI x1 up1) {r : (List LoomRun) × Int} (h : f17 x0 x1 = some r) : Fn Try.prog 17 #[up0, up1] gI wI (fun m w v => ∃ y0 y1, v = .tuple #[y0, y1] ∧ RV m w (r.1) y0 ∧ y1 = .int .i64 (r.2)) := by
 unfold f17 at h
 refine fn_of_E Try.func17 rfl (Nat.le_of_ble_eq_true rfl) fun g0 hm hfr => ?_
 have rp0 : RV g0.m wI x0 up0 := hm ▸ rp0
 have rp1 : RV g0.m wI x1 up1 := hm ▸ rp1
 show E _ 47 none _ _ _ _ _
 refine E_seq (E_region (EL_do .plain rfl (D_box (g := g0) rfl rp0 fun g1 w1 p1 hs q1 => ?_)))
 have hfr := hfr.ext hs
 have rp1 := rp1.ext hs
 refine EL_at (.slice none 0 0) rfl rfl ?_
 refine EL_at (.int .i64 (0)) rfl rfl ?_
 refine EL_nil (thn_n (E_seq (E_region (EL_do .plain rfl (D_load (g := g1) Try.isAgg24 Try.sizeOf24 rfl q1 fun v2 r2 => ?_)))))
 refine EL_mw up1 rfl rfl ?_
 obtain ⟨y4, r9, h⟩ := bsome h
 refine EL_do .plain rfl (D_call (g := g1) (vs := [v2, up1]) en50 (.cons rfl (.cons rfl .nil)) (wk50 r2 rp1 r9) fun g3 w3_ v3 hs hr => ?_)
 have hfr := hfr.ext hs
 have rp1 := rp1.ext hs
 obtain ⟨z5, mA, rfl, c6, rfl⟩ := hr
 refine EL_mw (.tuple #[z5, .int .i64 (y4.2)]) rfl rfl ?_
 refine EL_pur (v := z5) (P_extract rfl rfl) .plain rfl ?_
 refine EL_pur (v := .int .i64 (y4.2)) (P_extract rfl rfl) .plain rfl ?_
 refine EL_do .plain rfl (D_allocOc (g := g3) 2006 (⟨⟨[], 0⟩, []⟩ : LoomLoomMill) Try.zeroValue96 (fun m w => ⟨_, (rep_two (rep_two rep_nil rep_int) rep_nil), rfl⟩) fun g5 w5 p5 hs b5 cb => ?_)
 have hfr := hfr.stp hs
 have rp1 := rp1.stp hs
 have c6 := c6.stp hs
 have nA : OSF 2006 60600 0 g5 w5 3 96 ([] : List Int) p5 := cb.osf (by rfl)
 have oA : OSF 2006 60602 2 g5 w5 82 96 ([] : List LoomOrder) p5 := cb.osf (by rfl)
 clear cb
 refine EL_do .plain rfl (D_storeOc (g := g5) (v := z5) Try.sizeOf96 rfl b5 rfl c6 fun g6 w6 hs b6 cb => ?_)
 clear cb
 have hfr := hfr.stp hs
 have rp1 := rp1.stp hs
 refine EL_at (.int .i64 (y4.2)) rfl rfl ?_
 refine EL_nil (thn_n (E_joinC h (fun (s : (List LoomRun)) e w => ∃ (g : Gh) (v4 : Value), Fr gI wI g w ∧ e 1 = up1 ∧ RV g.m w (x1 : List LoomOrder) up1 ∧ e 4 = v4 ∧ RV g.m w (s : List LoomRun) v4 ∧ OS 1004 g w 76 (s : List LoomRun) v4 ∧ e 6 = p5 ∧ OB 2006 g w 96 (y4.1 : LoomLoomMill) p5) (fun X8 k8 t9 h => ?_) ?_))
 ·refine E_seq (E_region (EL_mw (.int .i64 (y4.2)) rfl rfl ?_))
  refine EL_in (.bool ((y4.2 != (0 : Int)))) rfl rfl rfl rfl ?_
  refine EL_nil (thn_n ?_)
  rcases csome h with ⟨u6, h⟩ | ⟨u6, h⟩
  ·refine E_ct u6 rfl ?_
   refine E_seq (E_region (EL_mw (.int .i64 (y4.2)) rfl rfl ?_))
   refine EL_at (.slice none 0 0) rfl rfl ?_
   refine EL_at (.int .i64 (y4.2)) rfl rfl ?_
   refine EL_nil (thn_n (E_ret (thn_r ?_)))
   obtain rfl := sinj h
   exact end2 rfl rfl (show _ = .slice none 0 0 from rfl) (show _ = .int .i64 (y4.2) from rfl) ⟨_, hfr, _, _, rfl, RV_nil, rfl⟩
  ·refine E_cf u6 rfl ?_
   exact E_skip (thn_n (t9 ([]) _ _ ⟨g6, (.slice none 0 0), hfr, rfl, rp1, rfl, RV_nil, OS.nil, rfl, b6⟩ h))
 ·rintro x4 pA bB ⟨u9, t7, hfr, u7, d3, v7, i3, j3, d4, o0⟩ h
  refine E_seq (E_region (EL_do .plain rfl (D_makeMap (g := u9) (Value.int .i64) LoomRun 8018 fun v9 cB j1 hs m11 => ?_)))
  have hfr := hfr.stp hs
  have d3 := d3.stp hs
  have i3 := i3.stp hs
  have j3 := j3.stp hs rfl
  have o0 := o0.stp hs rfl
  refine EL_at j1 rfl rfl ?_
  refine EL_nil (thn_n (E_joinC h (fun (s : (List LoomRun)) e w => ∃ (g : Gh) (v4 : Value), Fr gI wI g w ∧ e 1 = up1 ∧ RV g.m w (x1 : List LoomOrder) up1 ∧ e 4 = v4 ∧ RV g.m w (s : List LoomRun) v4 ∧ OS 1004 g w 76 (s : List LoomRun) v4 ∧ e 6 = p5 ∧ OB 2006 g w 96 (y4.1 : LoomLoomMill) p5 ∧ e 7 = j1 ∧ MP (Value.int .i64) 8018 g w (([] : List (Int × LoomRun)) : List (Int × LoomRun)) j1) (fun X41 r8 y8 h => ?_) ?_))
  ·refine E_seq (L_loadO0 (x := .tmp 6) Try.isAgg96 Try.sizeOf96 o0 fun t8 x9 z8 => ?_)
   refine L_loadO0 (x := .tmp 6) Try.isAgg96 Try.sizeOf96 o0 fun v8 y9 a9 => ?_
   obtain ⟨p4, b9, h⟩ := bsome h
   obtain ⟨c4, c9, h⟩ := bsome h
   refine L_loadO0 (x := .tmp 6) Try.isAgg96 Try.sizeOf96 o0 fun x8 z9 d9 => ?_
   obtain ⟨l5, e9, h⟩ := bsome h
   obtain ⟨m5, d6, h⟩ := bsome h
   refine E_drawL (g := v9) (n := 10) [(2, (fun v g w => RV g.m w p4 v)), (4, (fun v g w => RV g.m w c4 v)), (6, (fun v g w => v = .int .i64 (l5))), (8, (fun v _ _ => v = .bool (m5)))] [0, 1, 2, 3, 4, 5, 6, 7, 8, 9] rfl mixed (by kernel_rfl) (⟨fun _ => up_rv, fun _ => up_rv, fun _ => up_eq _, fun _ => up_eq _, trivial⟩) ?_
   refine L_ld (c := t8) rfl rfl .plain (fun _ _ h => ⟨h.ch, fun b hb _ => h.below.block b hb⟩) z8 d4 ?_
   refine L_ld (c := v8) rfl rfl .plain (fun _ _ h => ⟨h.ch, fun b hb _ => h.below.block b hb⟩) a9 d4 ?_
   refine L_do (φ := fun v g w => RV g.m w p4 v) rfl rfl .plain (fun g w hd => D_call (g := g) (vs := [v8]) en52 (.cons rfl .nil) (wk52 (y9.ext hd.1) b9) fun g' w' v hs hr => ⟨g', hs, hr⟩) (fun v6 hv => ?_)
   obtain ⟨_, _, _, rq44⟩ := hv
   refine L_pur (c := j1) rfl rfl .plain (fun _ _ hd => P_move rfl) ?_
   refine L_do (φ := fun v g w => RV g.m w c4 v) rfl rfl .plain (fun g w hd => D_call (g := g) (vs := [t8, v6, j1]) en51 (.cons rfl (.cons rfl (.cons rfl .nil))) (wk51 (x9.ext hd.1) (word (A := fun g w => RV g.m w p4 v6) 2 rfl rfl (deps_of hd)) (m11.ext hd.1).r c9) fun g' w' v hs hr => ⟨g', hs, hr⟩) (fun n5 hv => ?_)
   obtain ⟨_, _, _, rq46⟩ := hv
   refine L_ld (c := x8) rfl rfl .plain (fun _ _ h => ⟨h.ch, fun b hb _ => h.below.block b hb⟩) d9 d4 ?_
   refine L_do (φ := fun v g w => v = .int .i64 (l5)) rfl rfl .plain (fun g w hd => D_call (g := g) (vs := [x8]) en53 (.cons rfl .nil) (wk53 (z9.ext hd.1) e9) fun g' w' v hs hr => ⟨g', hs, hr⟩) (fun dB hv => ?_)
   obtain ⟨_, _, _, rfl⟩ := hv
   refine L_pur (c := ePtr n5 l5 1) rfl rfl .plain (fun _ _ hd => P_indexAddr (α := Bool) Try.underlying101 Try.sizeOf4 rfl (word (A := fun g w => RV g.m w c4 n5) 4 rfl rfl (deps_of hd)) rfl d6) ?_
   refine L_do (φ := (fun v _ _ => v = .bool (m5))) rfl rfl .plain (fun g w hd => D_load (g := g) Try.isAgg4 Try.sizeOf4 rfl (PT_idx (word (A := fun g w => RV g.m w c4 n5) 4 rfl rfl (hop 7 rfl rfl (deps_of hd))) d6) fun v r => ⟨g, Ext.refl g w, RV_bool.1 r⟩) (fun eB hv => ?_)
   obtain ⟨_, _, _, rfl⟩ := hv
   refine L_pur (c := .bool (!m5)) rfl rfl .plain (fun _ _ hd => P_not rfl) ?_
   refine L_nil fun bA iB hall => ?_
   have hs := hall.1
   have hfr := hfr.ext hs
   have d3 := d3.ext hs
   have i3 := i3.ext hs
   have j3 := j3.ext hs
   have o0 := o0.ext hs
   have m11 := m11.ext hs
   have jB := (word_all (A := fun g w => RV g.m w p4 v6) 2 rfl hall)
   have kB := (word_all (A := fun g w => RV g.m w c4 n5) 4 rfl hall)
   have lB := (PT_idx (word_all (A := fun g w => RV g.m w c4 n5) 4 rfl hall) d6)
   clear hs hall
   refine EL_nil (thn_n ?_)
   rcases csome h with ⟨i6, h⟩ | ⟨i6, h⟩
   ·refine E_ct i6 rfl ?_
    refine E_seq (E_region (EL_at (.slice none 0 0) rfl rfl ?_))
    refine EL_at (.int .i64 (9)) rfl rfl ?_
    refine EL_nil (thn_n (E_ret (thn_r ?_)))
    obtain rfl := sinj h
    exact end2 rfl rfl (show _ = .slice none 0 0 from rfl) (show _ = .int .i64 (9) from rfl) ⟨_, hfr, _, _, rfl, RV_nil, rfl⟩
   ·refine E_cf i6 rfl ?_
    exact E_skip (thn_n (y8 (x4) _ _ ⟨bA, (t7), hfr, u7, d3, v7, i3, j3, d4, o0, rfl, m11⟩ h))
  ·rintro k6 qA mB ⟨cA, x7, hfr, y7, a8, b8, c8, d8, e8, g8, i8, j8⟩ h
   refine E_joinC h (fun (s : (List LoomRun)) e w => ∃ (g : Gh) (v4 : Value), Fr gI wI g w ∧ e 4 = v4 ∧ RV g.m w (s : List LoomRun) v4 ∧ OS 1004 g w 76 (s : List LoomRun) v4) (fun X105 p6 l8 h => ?_) ?_
   ·refine E_seq (E_region (EL_mv y7 rfl ?_))
    refine EL_pur (v := .int .i64 ((x1).length : Int)) (P_len Try.underlying25 rfl a8) .plain rfl ?_
    refine EL_mw (.int .i64 (0)) rfl rfl ?_
    refine EL_nil (thn_n (E_block ?_))
    refine E_lp h (fun (s : (List LoomRun) × (List (Int × LoomRun)) × Int) e w => ∃ (g : Gh) (v4 : Value), Fr gI wI g w ∧ e 4 = v4 ∧ RV g.m w (s.1 : List LoomRun) v4 ∧ OS 1004 g w 76 (s.1 : List LoomRun) v4 ∧ e 6 = p5 ∧ OB 2006 g w 96 (y4.1 : LoomLoomMill) p5 ∧ e 7 = j1 ∧ MP (Value.int .i64) 8018 g w (s.2.1 : List (Int × LoomRun)) j1 ∧ e 30 = .int .i64 (((x1).length : Int)) ∧ e 31 = .int .i64 (s.2.2)) ⟨cA, (x7), hfr, b8, c8, d8, e8, g8, i8, j8, rfl, rfl⟩ (fun X106 q6 m8 => ?_)
    rintro ⟨z1, i5, j0⟩ gA rA ⟨j6, o5, hfr, q5, o3, p3, t5, u3, u5, x6, u4, z3⟩ h
    refine E_seq (E_region (EL_in (.bool ((decide (j0 < ((x1).length : Int))))) z3 u4 rfl rfl ?_))
    refine EL_nil (thn_n (E_seq ?_))
    rcases csome h with ⟨z4, h⟩ | ⟨z4, h⟩
    ·refine E_ct z4 rfl ?_
     refine E_skip (thn_n (E_joinC h (fun (s : (List LoomRun) × (List (Int × LoomRun))) e w => ∃ (g : Gh) (v4 : Value), Fr gI wI g w ∧ e 4 = v4 ∧ RV g.m w (s.1 : List LoomRun) v4 ∧ OS 1004 g w 76 (s.1 : List LoomRun) v4 ∧ e 6 = p5 ∧ OB 2006 g w 96 (y4.1 : LoomLoomMill) p5 ∧ e 7 = j1 ∧ MP (Value.int .i64) 8018 g w (s.2 : List (Int × LoomRun)) j1 ∧ e 30 = .int .i64 (((x1).length : Int)) ∧ e 31 = .int .i64 (j0)) (fun X123 r6 n8 h => ?_) ?_))
     ·refine E_block ?_
      refine E_seq (E_region (EL_mv z3 rfl ?_))
      refine EL_at (.int .i64 (j0)) rfl rfl ?_
      refine EL_nil (thn_n (E_joinC h (fun (s : (List LoomRun) × (List (Int × LoomRun))) e w => ∃ (g : Gh) (v4 : Value), Fr gI wI g w ∧ e 4 = v4 ∧ RV g.m w (s.1 : List LoomRun) v4 ∧ OS 1004 g w 76 (s.1 : List LoomRun) v4 ∧ e 6 = p5 ∧ OB 2006 g w 96 (y4.1 : LoomLoomMill) p5 ∧ e 7 = j1 ∧ MP (Value.int .i64) 8018 g w (s.2 : List (Int × LoomRun)) j1 ∧ e 8 = .int .i64 (j0) ∧ e 30 = .int .i64 (((x1).length : Int)) ∧ e 31 = .int .i64 (j0)) (fun X128 t6 o8 h => ?_) ?_))
      ·refine E_seq (E_region (EL_do .plain rfl (D_loadO (g := j6) Try.isAgg96 Try.sizeOf96 t5 u3 fun g9 i9 => ?_)))
       refine EL_mw (.int .i64 (j0)) rfl rfl ?_
       refine EL_mv u5 rfl ?_
       obtain ⟨m4, p8, h⟩ := bsome h
       refine EL_do .plain rfl (D_callM (g := j6) (i := 8018) (vs := [g9, .int .i64 (j0), j1]) en54 (.cons rfl (.cons rfl (.cons rfl .nil))) (wk54 i9 x6 p8) fun j9 iA sA hs hr => ?_)
       obtain ⟨hrv, b130⟩ := hr
       have hfr := hfr.stp hs
       have o3 := o3.stp hs
       have p3 := p3.stp hs rfl
       have u3 := u3.stp hs rfl
       subst hrv
       refine EL_pur (v := .bool (!m4.1)) (P_not rfl) .plain rfl ?_
       refine EL_nil (thn_n ?_)
       rcases csome h with ⟨c5, h⟩ | ⟨c5, h⟩
       ·refine E_ct c5 rfl ?_
        refine E_seq (E_region (EL_at (.slice none 0 0) rfl rfl ?_))
        refine EL_at (.int .i64 (9)) rfl rfl ?_
        refine EL_nil (thn_n (E_ret (thn_r ?_)))
        refine blk_r ?_
        refine thn_r ?_
        refine thn_r ?_
        refine blk_r ?_
        refine thn_r ?_
        obtain rfl := sinj h
        exact end2 rfl rfl (show _ = .slice none 0 0 from rfl) (show _ = .int .i64 (9) from rfl) ⟨_, hfr, _, _, rfl, RV_nil, rfl⟩
       ·refine E_cf c5 rfl ?_
        exact E_skip (thn_n (o8 (z1, m4.2) _ _ ⟨j9, (o5), hfr, q5, o3, p3, t5, u3, u5, b130, rfl, u4, z3⟩ h))
      ·rintro ⟨j5, j2⟩ jA tA ⟨y6, dA, hfr, z6, n4, o4, a7, z2, x5, u0, b7, l6, m6⟩ h
       refine E_region (EL_mv z6 rfl ?_)
       refine EL_mv x5 rfl ?_
       refine EL_mv b7 rfl ?_
       refine EL_do .plain rfl (D_lookup (g := y6) (z0 := (⟨0, 0, 0⟩ : LoomRun)) Try.underlying100 key_3 Try.zeroValue76 (fun m w => ⟨_, (rep_two rep_int (rep_two rep_int rep_int)), rfl⟩) rfl u0 rfl fun k9 l9 => ?_)
       refine EL_do .plain rfl (D_buildSlice (g := y6) 3043 (xs := ([((mget j2 j0).getD (⟨0, 0, 0⟩ : LoomRun))] : List LoomRun)) (vs := [k9]) Try.underlying31 Try.sizeOf76 Try.zeroValue76 rfl rfl (.cons rfl .nil) (RVs.cons l9 RVs.nil) rfl rfl fun m9 uA vA hs o135 n9 hxt hfl => ?_)
       have hfr := hfr.stp hs
       have n4 := n4.stp hs
       have o4 := o4.stp hs rfl
       have z2 := z2.stp hs rfl
       have u0 := u0.stp hs rfl
       obtain ⟨y137, q8, h⟩ := bsome h
       refine EL_do .plain rfl (D_append (g := m9) (i := 1004) Try.underlying31 info_76 rfl rfl o4 n4 rfl n9 q8 fun o9 xA c7 hs o136 p9 _ => ?_)
       have hfr := hfr.stp hs
       have z2 := z2.stp hs rfl
       have u0 := u0.stp hs rfl
       refine EL_at c7 rfl rfl ?_
       exact EL_nil (blk_n (thn_n (n8 (y137, j2) _ _ ⟨o9, (c7), hfr, rfl, p9, o136, a7, z2, x5, u0, l6, m6⟩ h)))
     ·rintro ⟨i4, j4⟩ kA yA ⟨q9, d7, hfr, e7, g7, i7, j7, m7, n7, o7, n6, o6⟩ h
      refine E_region (EL_in (.int .i64 ((w64 (j0 + (1 : Int))))) o6 rfl rfl rfl ?_)
      refine EL_mw (.int .i64 ((w64 (j0 + (1 : Int))))) rfl rfl ?_
      exact EL_nil (thn_n (m8 (i4, j4, (w64 (j0 + (1 : Int)))) _ _ ⟨q9, (d7), hfr, e7, g7, i7, j7, m7, n7, o7, n6, rfl⟩ h))
    ·refine E_cf z4 rfl ?_
     refine E_exit ?_
     refine thn_e ?_
     refine thn_e ?_
     refine blk_hit ?_
     exact thn_n (l8 (z1) _ _ ⟨j6, (o5), hfr, q5, o3, p3⟩ h)
   ·rintro d5 lA zA ⟨aB, y5, hfr, p7, q7, eA⟩ h
    refine E_seq (E_region (EL_mv p7 rfl ?_))
    refine EL_at y5 rfl rfl ?_
    refine EL_at (.int .i64 (0)) rfl rfl ?_
    refine EL_nil (thn_n (E_ret ?_))
    obtain rfl := sinj h
    exact end2 rfl rfl (show _ = y5 from rfl) (show _ = .int .i64 (0) from rfl) ⟨_, hfr, _, _, rfl, q7, rfl⟩
/-- griffe/loom.Against -/
def f23 (x0 : LoomMill) (x1 : List LoomOrder) : Option ((List Int) × Int) :=
 (f50 x0 x1).bind fun y4 =>
 jn (σ := Unit) (fun (_ : Unit) =>
  (f52 (y4.1)).bind fun j1 =>
  (f51 (y4.1) j1 ([])).bind fun z1 =>
  (f55 (((x1).length : Int)) ((fun a0 => f56 a0 z1))).bind fun u0 =>
  jn (σ := Unit) (fun (_ : Unit) =>
   some (u0.1, (0 : Int))
   ) fun j4 =>
  bif (!u0.2) then
   some ([], (7 : Int))
  else
   j4 ()
  ) fun k8 =>
 bif (y4.2 != (0 : Int)) then
  some ([], y4.2)
 else
  k8 ()
theorem en23 : Enters Try.prog 23 := enters_of Try.func23 (by kernel_rfl) rfl
theorem wk23 {gI : Gh} {wI : World} {x0 : LoomMill} {x1 : List LoomOrder} {up0 : Value} (rp0 : RV gI.m wI x0 up0) {up1 : Value} (rp1 : RV gI.m wI x1 up1) {r : (List Int) × Int} (h : f23 x0 x1 = some r) : Fn Try.prog 23 #[up0, up1] gI wI (fun m w v => ∃ y0 y1, v = .tuple #[y0, y1] ∧ RV m w (r.1) y0 ∧ y1 = .int .i64 (r.2)) := by
 unfold f23 at h
 refine fn_of_E Try.func23 rfl (Nat.le_of_ble_eq_true rfl) fun g0 hm hfr => ?_
 have rp0 : RV g0.m wI x0 up0 := hm ▸ rp0
 have rp1 : RV g0.m wI x1 up1 := hm ▸ rp1
 show E _ 34 none _ _ _ _ _
 refine E_seq (E_region (EL_do .plain rfl (D_box (g := g0) rfl rp0 fun g1 w1 p1 hs q1 => ?_)))
 have hfr := hfr.ext hs
 have rp1 := rp1.ext hs
 refine EL_at (.slice none 0 0) rfl rfl ?_
 refine EL_at (.int .i64 (0)) rfl rfl ?_
 refine EL_nil (thn_n (E_seq (E_region (EL_do .plain rfl (D_load (g := g1) Try.isAgg24 Try.sizeOf24 rfl q1 fun v2 r2 => ?_)))))
 refine EL_mw up1 rfl rfl ?_
 obtain ⟨y4, d5, h⟩ := bsome h
 refine EL_do .plain rfl (D_call (g := g1) (vs := [v2, up1]) en50 (.cons rfl (.cons rfl .nil)) (wk50 r2 rp1 d5) fun g3 w3_ v3 hs hr => ?_)
 have hfr := hfr.ext hs
 have rp1 := rp1.ext hs
 obtain ⟨z2, u5, rfl, d3, rfl⟩ := hr
 refine EL_mw (.tuple #[z2, .int .i64 (y4.2)]) rfl rfl ?_
 refine EL_pur (v := z2) (P_extract rfl rfl) .plain rfl ?_
 refine EL_pur (v := .int .i64 (y4.2)) (P_extract rfl rfl) .plain rfl ?_
 refine EL_do .plain rfl (D_allocOc (g := g3) 2006 (⟨⟨[], 0⟩, []⟩ : LoomLoomMill) Try.zeroValue96 (fun m w => ⟨_, (rep_two (rep_two rep_nil rep_int) rep_nil), rfl⟩) fun g5 w5 p5 hs b5 cb => ?_)
 have hfr := hfr.stp hs
 have rp1 := rp1.stp hs
 have d3 := d3.stp hs
 have x5 : OSF 2006 60600 0 g5 w5 3 96 ([] : List Int) p5 := cb.osf (by rfl)
 have y5 : OSF 2006 60602 2 g5 w5 82 96 ([] : List LoomOrder) p5 := cb.osf (by rfl)
 clear cb
 refine EL_do .plain rfl (D_storeOc (g := g5) (v := z2) Try.sizeOf96 rfl b5 rfl d3 fun g6 w6 hs b6 cb => ?_)
 clear cb
 have hfr := hfr.stp hs
 have rp1 := rp1.stp hs
 refine EL_at (.int .i64 (y4.2)) rfl rfl ?_
 refine EL_nil (thn_n (E_joinC h (fun (s : Unit) e w => ∃ (g : Gh) , Fr gI wI g w ∧ e 1 = up1 ∧ RV g.m w (x1 : List LoomOrder) up1 ∧ e 6 = p5 ∧ OB 2006 g w 96 (y4.1 : LoomLoomMill) p5) (fun X8 k8 i5 h => ?_) ?_))
 ·refine E_seq (E_region (EL_mw (.int .i64 (y4.2)) rfl rfl ?_))
  refine EL_in (.bool ((y4.2 != (0 : Int)))) rfl rfl rfl rfl ?_
  refine EL_nil (thn_n ?_)
  rcases csome h with ⟨p3, h⟩ | ⟨p3, h⟩
  ·refine E_ct p3 rfl ?_
   refine E_seq (E_region (EL_mw (.int .i64 (y4.2)) rfl rfl ?_))
   refine EL_at (.slice none 0 0) rfl rfl ?_
   refine EL_at (.int .i64 (y4.2)) rfl rfl ?_
   refine EL_nil (thn_n (E_ret (thn_r ?_)))
   obtain rfl := sinj h
   exact end2 rfl rfl (show _ = .slice none 0 0 from rfl) (show _ = .int .i64 (y4.2) from rfl) ⟨_, hfr, _, _, rfl, RV_nil, rfl⟩
  ·refine E_cf p3 rfl ?_
   exact E_skip (thn_n (i5 () _ _ ⟨g6, hfr, rfl, rp1, rfl, b6⟩ h))
 ·rintro _ z5 i6 ⟨j5, hfr, z3, j0, j3, o3⟩ h
  refine E_seq (L_loadO0 (x := .tmp 6) Try.isAgg96 Try.sizeOf96 o3 fun m4 l5 p4 => ?_)
  refine L_loadO0 (x := .tmp 6) Try.isAgg96 Try.sizeOf96 o3 fun n4 m5 hl12 => ?_
  obtain ⟨j1, u4, h⟩ := bsome h
  obtain ⟨z1, x4, h⟩ := bsome h
  refine E_drawL (g := j5) (n := 5) [(2, (fun v g w => RV g.m w j1 v)), (3, (fun v g w => RV g.m w z1 v)), (4, (fun v g w => OB 2008 g w 101 ([] : List Bool) v))] [0, 1, 2, 3, 4] rfl mixed (by kernel_rfl) (⟨fun _ => up_rv, fun _ => up_rv, fun _ => up_ob, trivial⟩) ?_
  refine L_ld (c := m4) rfl rfl .plain (fun _ _ h => ⟨h.ch, fun b hb _ => h.below.block b hb⟩) p4 j3 ?_
  refine L_ld (c := n4) rfl rfl .plain (fun _ _ h => ⟨h.ch, fun b hb _ => h.below.block b hb⟩) hl12 j3 ?_
  refine L_do (φ := fun v g w => RV g.m w j1 v) rfl rfl .plain (fun g w hd => D_call (g := g) (vs := [n4]) en52 (.cons rfl .nil) (wk52 (m5.ext hd.1) u4) fun g' w' v hs hr => ⟨g', hs, hr⟩) (fun u3 hv => ?_)
  obtain ⟨_, _, _, rq13⟩ := hv
  refine L_do (φ := fun v g w => RV g.m w z1 v) rfl rfl .plain (fun g w hd => D_call (g := g) (vs := [m4, u3, .map none]) en51 (.cons rfl (.cons rfl (.cons rfl .nil))) (wk51 (l5.ext hd.1) (word (A := fun g w => RV g.m w j1 u3) 2 rfl rfl (deps_of hd)) MR.nil x4) fun g' w' v hs hr => ⟨g', hs, hr⟩) (fun o4 hv => ?_)
  obtain ⟨_, _, _, rq15⟩ := hv
  refine L_do (φ := fun v g w => OB 2008 g w 101 ([] : List Bool) v) rfl rfl .plain (fun g w hd => D_allocX (g := g) 2008 ([] : List Bool) Try.zeroValue101 (fun m w => ⟨_, rep_nil, rfl⟩) fun g' w' v hs b => ⟨g', hs, b⟩) (fun j2 hv => ?_)
  clear hv
  refine L_nil fun n5 j6 hall => ?_
  have hs := hall.1
  have hfr := hfr.ext hs
  have j0 := j0.ext hs
  have k6 := (word_all (A := fun g w => RV g.m w j1 u3) 2 rfl hall)
  have o5 := (word_all (A := fun g w => RV g.m w z1 o4) 3 rfl hall)
  have b25 := (word_all (A := fun g w => OB 2008 g w 101 ([] : List Bool) j2) 4 rfl hall)
  clear hs hall
  refine EL_do .plain rfl (D_storeOc (g := n5) (v := o4) Try.sizeOf101 rfl b25 rfl o5 fun l6 m6 hs b26 cb => ?_)
  clear cb
  have hfr := hfr.stp hs
  have j0 := j0.stp hs
  obtain ⟨gp26, hs, qp26⟩ := OB.pub b26
  have hfr := hfr.stp hs
  have j0 := j0.stp hs
  refine EL_nil (thn_n (E_seq (E_region (EL_mv z3 rfl ?_))))
  refine EL_pur (v := .int .i64 ((x1).length : Int)) (P_len Try.underlying25 rfl j0) .plain rfl ?_
  refine EL_pur (v := (.func (.func 56) #[] #[j2])) (P_makeFunc (capf_0_1 (show ev _ _ = j2 from rfl))) .plain rfl ?_
  obtain ⟨u0, z4, h⟩ := bsome h
  refine EL_do .plain rfl (D_call (g := gp26) (vs := [.int .i64 ((x1).length : Int), (.func (.func 56) #[] #[j2])]) en55 (.cons rfl (.cons rfl .nil)) (wk55 ⟨56, #[], #[j2], rfl, en56, fun g' w' hch a0 b0 r hu0 hr => by obtain rfl := RV_int.1 hu0; exact Fn.mono (wk56  (qp26.ch hch) hr) fun _ _ _ h => RV_bool.2 h⟩ z4) fun q5 c6 n6 hs hr => ?_)
  have hfr := hfr.ext hs
  obtain ⟨o0, t5, rfl, c4, rfl⟩ := hr
  refine EL_mw (.tuple #[o0, .bool (u0.2)]) rfl rfl ?_
  refine EL_pur (v := o0) (P_extract rfl rfl) .plain rfl ?_
  refine EL_pur (v := .bool (u0.2)) (P_extract rfl rfl) .plain rfl ?_
  refine EL_at o0 rfl rfl ?_
  refine EL_at (.bool (u0.2)) rfl rfl ?_
  refine EL_nil (thn_n (E_joinC h (fun (s : Unit) e w => ∃ (g : Gh) , Fr gI wI g w ∧ e 9 = o0 ∧ RV g.m w (u0.1 : List Int) o0) (fun X30 j4 c5 h => ?_) ?_))
  ·refine E_seq (E_region (EL_mw (.bool (u0.2)) rfl rfl ?_))
   refine EL_pur (v := .bool (!u0.2)) (P_not rfl) .plain rfl ?_
   refine EL_nil (thn_n ?_)
   rcases csome h with ⟨i3, h⟩ | ⟨i3, h⟩
   ·refine E_ct i3 rfl ?_
    refine E_seq (E_region (EL_at (.slice none 0 0) rfl rfl ?_))
    refine EL_at (.int .i64 (7)) rfl rfl ?_
    refine EL_nil (thn_n (E_ret (thn_r ?_)))
    obtain rfl := sinj h
    exact end2 rfl rfl (show _ = .slice none 0 0 from rfl) (show _ = .int .i64 (7) from rfl) ⟨_, hfr, _, _, rfl, RV_nil, rfl⟩
   ·refine E_cf i3 rfl ?_
    exact E_skip (thn_n (c5 () _ _ ⟨q5, hfr, rfl, c4⟩ h))
  ·rintro _ d6 o6 ⟨p6, hfr, d4, i4⟩ h
   refine E_seq (E_region (EL_mv d4 rfl ?_))
   refine EL_at o0 rfl rfl ?_
   refine EL_at (.int .i64 (0)) rfl rfl ?_
   refine EL_nil (thn_n (E_ret ?_))
   obtain rfl := sinj h
   exact end2 rfl rfl (show _ = o0 from rfl) (show _ = .int .i64 (0) from rfl) ⟨_, hfr, _, _, rfl, i4, rfl⟩
/-- griffe/loom.Left -/
def f24 (x0 : LoomMill) (x1 : List LoomOrder) : Option ((List Int) × Int) :=
 (f50 x0 x1).bind fun y4 =>
 jn (σ := Unit) (fun (_ : Unit) =>
  (f52 (y4.1)).bind fun j1 =>
  (f51 (y4.1) j1 ([])).bind fun j2 =>
  (f55 (((x1).length : Int)) ((fun a0 => f57 a0 j2 (y4.1)))).bind fun z2 =>
  some (z2.1, (0 : Int))
  ) fun k8 =>
 bif (y4.2 != (0 : Int)) then
  some ([], y4.2)
 else
  k8 ()
theorem en24 : Enters Try.prog 24 := enters_of Try.func24 (by kernel_rfl) rfl
theorem wk24 {gI : Gh} {wI : World} {x0 : LoomMill} {x1 : List LoomOrder} {up0 : Value} (rp0 : RV gI.m wI x0 up0) {up1 : Value} (rp1 : RV gI.m wI x1 up1) {r : (List Int) × Int} (h : f24 x0 x1 = some r) : Fn Try.prog 24 #[up0, up1] gI wI (fun m w v => ∃ y0 y1, v = .tuple #[y0, y1] ∧ RV m w (r.1) y0 ∧ y1 = .int .i64 (r.2)) := by
 unfold f24 at h
 refine fn_of_E Try.func24 rfl (Nat.le_of_ble_eq_true rfl) fun g0 hm hfr => ?_
 have rp0 : RV g0.m wI x0 up0 := hm ▸ rp0
 have rp1 : RV g0.m wI x1 up1 := hm ▸ rp1
 show E _ 32 none _ _ _ _ _
 refine E_seq (E_region (EL_do .plain rfl (D_box (g := g0) rfl rp0 fun g1 w1 p1 hs q1 => ?_)))
 have hfr := hfr.ext hs
 have rp1 := rp1.ext hs
 refine EL_at (.slice none 0 0) rfl rfl ?_
 refine EL_at (.int .i64 (0)) rfl rfl ?_
 refine EL_nil (thn_n (E_seq (E_region (EL_do .plain rfl (D_load (g := g1) Try.isAgg24 Try.sizeOf24 rfl q1 fun v2 r2 => ?_)))))
 refine EL_mw up1 rfl rfl ?_
 obtain ⟨y4, p4, h⟩ := bsome h
 refine EL_do .plain rfl (D_call (g := g1) (vs := [v2, up1]) en50 (.cons rfl (.cons rfl .nil)) (wk50 r2 rp1 p4) fun g3 w3_ v3 hs hr => ?_)
 have hfr := hfr.ext hs
 have rp1 := rp1.ext hs
 obtain ⟨i3, l5, rfl, j3, rfl⟩ := hr
 refine EL_mw (.tuple #[i3, .int .i64 (y4.2)]) rfl rfl ?_
 refine EL_pur (v := i3) (P_extract rfl rfl) .plain rfl ?_
 refine EL_pur (v := .int .i64 (y4.2)) (P_extract rfl rfl) .plain rfl ?_
 refine EL_do .plain rfl (D_allocOc (g := g3) 2006 (⟨⟨[], 0⟩, []⟩ : LoomLoomMill) Try.zeroValue96 (fun m w => ⟨_, (rep_two (rep_two rep_nil rep_int) rep_nil), rfl⟩) fun g5 w5 p5 hs b5 cb => ?_)
 have hfr := hfr.stp hs
 have rp1 := rp1.stp hs
 have j3 := j3.stp hs
 have m5 : OSF 2006 60600 0 g5 w5 3 96 ([] : List Int) p5 := cb.osf (by rfl)
 have n5 : OSF 2006 60602 2 g5 w5 82 96 ([] : List LoomOrder) p5 := cb.osf (by rfl)
 clear cb
 refine EL_do .plain rfl (D_storeOc (g := g5) (v := i3) Try.sizeOf96 rfl b5 rfl j3 fun g6 w6 hs b6 cb => ?_)
 clear cb
 have hfr := hfr.stp hs
 have rp1 := rp1.stp hs
 obtain ⟨gp6, hs, qp6⟩ := OB.pub b6
 have hfr := hfr.stp hs
 have rp1 := rp1.stp hs
 refine EL_at (.int .i64 (y4.2)) rfl rfl ?_
 refine EL_nil (thn_n (E_joinC h (fun (s : Unit) e w => ∃ (g : Gh) , Fr gI wI g w ∧ e 1 = up1 ∧ RV g.m w (x1 : List LoomOrder) up1 ∧ e 6 = p5 ∧ PT g.m w (y4.1 : LoomLoomMill) p5) (fun X8 k8 u4 h => ?_) ?_))
 ·refine E_seq (E_region (EL_mw (.int .i64 (y4.2)) rfl rfl ?_))
  refine EL_in (.bool ((y4.2 != (0 : Int)))) rfl rfl rfl rfl ?_
  refine EL_nil (thn_n ?_)
  rcases csome h with ⟨o3, h⟩ | ⟨o3, h⟩
  ·refine E_ct o3 rfl ?_
   refine E_seq (E_region (EL_mw (.int .i64 (y4.2)) rfl rfl ?_))
   refine EL_at (.slice none 0 0) rfl rfl ?_
   refine EL_at (.int .i64 (y4.2)) rfl rfl ?_
   refine EL_nil (thn_n (E_ret (thn_r ?_)))
   obtain rfl := sinj h
   exact end2 rfl rfl (show _ = .slice none 0 0 from rfl) (show _ = .int .i64 (y4.2) from rfl) ⟨_, hfr, _, _, rfl, RV_nil, rfl⟩
  ·refine E_cf o3 rfl ?_
   exact E_skip (thn_n (u4 () _ _ ⟨gp6, hfr, rfl, rp1, rfl, qp6⟩ h))
 ·rintro _ o5 t5 ⟨x4, hfr, u3, o0, z1, j0⟩ h
  refine E_seq (L_load (x := .tmp 6) Try.isAgg96 Try.sizeOf96 j0 fun c4 z4 j4 => ?_)
  refine L_load (x := .tmp 6) Try.isAgg96 Try.sizeOf96 j0 fun d4 c5 hl12 => ?_
  obtain ⟨j1, m4, h⟩ := bsome h
  obtain ⟨j2, n4, h⟩ := bsome h
  refine E_drawL (g := x4) (n := 5) [(2, (fun v g w => RV g.m w j1 v)), (3, (fun v g w => RV g.m w j2 v)), (4, (fun v g w => OB 2008 g w 101 ([] : List Bool) v))] [0, 1, 2, 3, 4] rfl mixed (by kernel_rfl) (⟨fun _ => up_rv, fun _ => up_rv, fun _ => up_ob, trivial⟩) ?_
  refine L_ld (c := c4) rfl rfl .plain (fun _ _ h => h.ch) j4 z1 ?_
  refine L_ld (c := d4) rfl rfl .plain (fun _ _ h => h.ch) hl12 z1 ?_
  refine L_do (φ := fun v g w => RV g.m w j1 v) rfl rfl .plain (fun g w hd => D_call (g := g) (vs := [d4]) en52 (.cons rfl .nil) (wk52 (c5.ext hd.1) m4) fun g' w' v hs hr => ⟨g', hs, hr⟩) (fun p3 hv => ?_)
  obtain ⟨_, _, _, rq13⟩ := hv
  refine L_do (φ := fun v g w => RV g.m w j2 v) rfl rfl .plain (fun g w hd => D_call (g := g) (vs := [c4, p3, .map none]) en51 (.cons rfl (.cons rfl (.cons rfl .nil))) (wk51 (z4.ext hd.1) (word (A := fun g w => RV g.m w j1 p3) 2 rfl rfl (deps_of hd)) MR.nil n4) fun g' w' v hs hr => ⟨g', hs, hr⟩) (fun i4 hv => ?_)
  obtain ⟨_, _, _, rq15⟩ := hv
  refine L_do (φ := fun v g w => OB 2008 g w 101 ([] : List Bool) v) rfl rfl .plain (fun g w hd => D_allocX (g := g) 2008 ([] : List Bool) Try.zeroValue101 (fun m w => ⟨_, rep_nil, rfl⟩) fun g' w' v hs b => ⟨g', hs, b⟩) (fun d3 hv => ?_)
  clear hv
  refine L_nil fun d5 u5 hall => ?_
  have hs := hall.1
  have hfr := hfr.ext hs
  have o0 := o0.ext hs
  have j0 := j0.ext hs
  have x5 := (word_all (A := fun g w => RV g.m w j1 p3) 2 rfl hall)
  have i5 := (word_all (A := fun g w => RV g.m w j2 i4) 3 rfl hall)
  have b25 := (word_all (A := fun g w => OB 2008 g w 101 ([] : List Bool) d3) 4 rfl hall)
  clear hs hall
  refine EL_do .plain rfl (D_storeOc (g := d5) (v := i4) Try.sizeOf101 rfl b25 rfl i5 fun y5 z5 hs b26 cb => ?_)
  clear cb
  have hfr := hfr.stp hs
  have o0 := o0.stp hs
  have j0 := j0.stp hs
  obtain ⟨gp26, hs, qp26⟩ := OB.pub b26
  have hfr := hfr.stp hs
  have o0 := o0.stp hs
  have j0 := j0.stp hs
  refine EL_nil (thn_n (E_seq (E_region (EL_mv u3 rfl ?_))))
  refine EL_pur (v := .int .i64 ((x1).length : Int)) (P_len Try.underlying25 rfl o0) .plain rfl ?_
  refine EL_pur (v := (.func (.func 57) #[] #[d3, p5])) (P_makeFunc (capf_0_2 (show ev _ _ = d3 from rfl) (show ev _ _ = p5 from z1))) .plain rfl ?_
  obtain ⟨z2, o4, h⟩ := bsome h
  refine EL_do .plain rfl (D_call (g := gp26) (vs := [.int .i64 ((x1).length : Int), (.func (.func 57) #[] #[d3, p5])]) en55 (.cons rfl (.cons rfl .nil)) (wk55 ⟨57, #[], #[d3, p5], rfl, en57, fun g' w' hch a0 b0 r hu0 hr => by obtain rfl := RV_int.1 hu0; exact Fn.mono (wk57  (qp26.ch hch) (j0.ch hch) hr) fun _ _ _ h => RV_bool.2 h⟩ o4) fun c6 q5 d6 hs hr => ?_)
  have hfr := hfr.ext hs
  obtain ⟨u0, j5, rfl, z3, rfl⟩ := hr
  refine EL_mw (.tuple #[u0, .bool (z2.2)]) rfl rfl ?_
  refine EL_pur (v := u0) (P_extract rfl rfl) .plain rfl ?_
  refine EL_pur (v := .bool (z2.2)) (P_extract rfl rfl) .plain rfl ?_
  refine EL_at u0 rfl rfl ?_
  refine EL_at (.bool (z2.2)) rfl rfl ?_
  refine EL_nil (thn_n (E_seq (E_region (EL_mw u0 rfl rfl ?_))))
  refine EL_at u0 rfl rfl ?_
  refine EL_at (.int .i64 (0)) rfl rfl ?_
  refine EL_nil (thn_n (E_ret ?_))
  obtain rfl := sinj h
  exact end2 rfl rfl (show _ = u0 from rfl) (show _ = .int .i64 (0) from rfl) ⟨_, hfr, _, _, rfl, z3, rfl⟩
/-- griffe/loom.Fewest -/
def f25 (x0 : LoomMill) (x1 : List LoomOrder) : Option ((List Int) × Int) :=
 (f50 x0 x1).bind fun y4 =>
 jn (σ := Unit) (fun (_ : Unit) =>
  (f55 ((((x0).Widths).length : Int)) ((fun a0 => f58 a0 (y4.1)))).bind fun o0 =>
  jn (σ := Unit) (fun (_ : Unit) =>
   some (o0.1, (0 : Int))
   ) fun z3 =>
  bif (!o0.2) then
   some ([], (9 : Int))
  else
   z3 ()
  ) fun k8 =>
 bif (y4.2 != (0 : Int)) then
  some ([], y4.2)
 else
  k8 ()
theorem en25 : Enters Try.prog 25 := enters_of Try.func25 (by kernel_rfl) rfl
theorem wk25 {gI : Gh} {wI : World} {x0 : LoomMill} {x1 : List LoomOrder} {up0 : Value} (rp0 : RV gI.m wI x0 up0) {up1 : Value} (rp1 : RV gI.m wI x1 up1) {r : (List Int) × Int} (h : f25 x0 x1 = some r) : Fn Try.prog 25 #[up0, up1] gI wI (fun m w v => ∃ y0 y1, v = .tuple #[y0, y1] ∧ RV m w (r.1) y0 ∧ y1 = .int .i64 (r.2)) := by
 unfold f25 at h
 refine fn_of_E Try.func25 rfl (Nat.le_of_ble_eq_true rfl) fun g0 hm hfr => ?_
 have rp0 : RV g0.m wI x0 up0 := hm ▸ rp0
 have rp1 : RV g0.m wI x1 up1 := hm ▸ rp1
 show E _ 30 none _ _ _ _ _
 refine E_seq (E_region (EL_do .plain rfl (D_box (g := g0) rfl rp0 fun g1 w1 p1 hs q1 => ?_)))
 have hfr := hfr.ext hs
 have rp1 := rp1.ext hs
 refine EL_at (.slice none 0 0) rfl rfl ?_
 refine EL_at (.int .i64 (0)) rfl rfl ?_
 refine EL_nil (thn_n (E_seq (E_region (EL_do .plain rfl (D_load (g := g1) Try.isAgg24 Try.sizeOf24 rfl q1 fun v2 r2 => ?_)))))
 refine EL_mw up1 rfl rfl ?_
 obtain ⟨y4, j4, h⟩ := bsome h
 refine EL_do .plain rfl (D_call (g := g1) (vs := [v2, up1]) en50 (.cons rfl (.cons rfl .nil)) (wk50 r2 rp1 j4) fun g3 w3_ v3 hs hr => ?_)
 have hfr := hfr.ext hs
 have q1 := q1.ext hs
 obtain ⟨u0, x4, rfl, j1, rfl⟩ := hr
 refine EL_mw (.tuple #[u0, .int .i64 (y4.2)]) rfl rfl ?_
 refine EL_pur (v := u0) (P_extract rfl rfl) .plain rfl ?_
 refine EL_pur (v := .int .i64 (y4.2)) (P_extract rfl rfl) .plain rfl ?_
 refine EL_do .plain rfl (D_allocOc (g := g3) 2006 (⟨⟨[], 0⟩, []⟩ : LoomLoomMill) Try.zeroValue96 (fun m w => ⟨_, (rep_two (rep_two rep_nil rep_int) rep_nil), rfl⟩) fun g5 w5 p5 hs b5 cb => ?_)
 have hfr := hfr.stp hs
 have q1 := q1.stp hs
 have j1 := j1.stp hs
 have z4 : OSF 2006 60600 0 g5 w5 3 96 ([] : List Int) p5 := cb.osf (by rfl)
 have c5 : OSF 2006 60602 2 g5 w5 82 96 ([] : List LoomOrder) p5 := cb.osf (by rfl)
 clear cb
 refine EL_do .plain rfl (D_storeOc (g := g5) (v := u0) Try.sizeOf96 rfl b5 rfl j1 fun g6 w6 hs b6 cb => ?_)
 clear cb
 have hfr := hfr.stp hs
 have q1 := q1.stp hs
 obtain ⟨gp6, hs, qp6⟩ := OB.pub b6
 have hfr := hfr.stp hs
 have q1 := q1.stp hs
 refine EL_at (.int .i64 (y4.2)) rfl rfl ?_
 refine EL_nil (thn_n (E_joinC h (fun (s : Unit) e w => ∃ (g : Gh) , Fr gI wI g w ∧ e 2 = p1 ∧ PT g.m w (x0 : LoomMill) p1 ∧ e 6 = p5 ∧ PT g.m w (y4.1 : LoomLoomMill) p5) (fun X8 k8 m4 h => ?_) ?_))
 ·refine E_seq (E_region (EL_mw (.int .i64 (y4.2)) rfl rfl ?_))
  refine EL_in (.bool ((y4.2 != (0 : Int)))) rfl rfl rfl rfl ?_
  refine EL_nil (thn_n ?_)
  rcases csome h with ⟨z2, h⟩ | ⟨z2, h⟩
  ·refine E_ct z2 rfl ?_
   refine E_seq (E_region (EL_mw (.int .i64 (y4.2)) rfl rfl ?_))
   refine EL_at (.slice none 0 0) rfl rfl ?_
   refine EL_at (.int .i64 (y4.2)) rfl rfl ?_
   refine EL_nil (thn_n (E_ret (thn_r ?_)))
   obtain rfl := sinj h
   exact end2 rfl rfl (show _ = .slice none 0 0 from rfl) (show _ = .int .i64 (y4.2) from rfl) ⟨_, hfr, _, _, rfl, RV_nil, rfl⟩
  ·refine E_cf z2 rfl ?_
   exact E_skip (thn_n (m4 () _ _ ⟨gp6, hfr, rfl, q1, rfl, qp6⟩ h))
 ·rintro _ d5 l5 ⟨c4, hfr, d3, j2, i3, j3⟩ h
  refine E_seq (E_region (EL_pur (v := fPtr p1 0) (P_fieldAddr at_24_0 d3 (PT.ptr j2)) .plain rfl ?_))
  have n4 := PT_field (part_LoomMill_0).1 j2
  refine EL_do .plain rfl (D_load (g := c4) Try.isAgg22 Try.sizeOf22 rfl n4 fun m5 o4 => ?_)
  refine EL_pur (v := .int .i64 (((x0).Widths).length : Int)) (P_len Try.underlying22 rfl o4) .plain rfl ?_
  refine EL_pur (v := (.func (.func 58) #[] #[p5])) (P_makeFunc (capf_0_1 (show ev _ _ = p5 from i3))) .plain rfl ?_
  obtain ⟨o0, d4, h⟩ := bsome h
  refine EL_do .plain rfl (D_call (g := c4) (vs := [.int .i64 (((x0).Widths).length : Int), (.func (.func 58) #[] #[p5])]) en55 (.cons rfl (.cons rfl .nil)) (wk55 ⟨58, #[], #[p5], rfl, en58, fun g' w' hch a0 b0 r hu0 hr => by obtain rfl := RV_int.1 hu0; exact Fn.mono (wk58  (j3.ch hch) hr) fun _ _ _ h => RV_bool.2 h⟩ d4) fun p4 i5 n5 hs hr => ?_)
  have hfr := hfr.ext hs
  obtain ⟨j0, u4, rfl, o3, rfl⟩ := hr
  refine EL_mw (.tuple #[j0, .bool (o0.2)]) rfl rfl ?_
  refine EL_pur (v := j0) (P_extract rfl rfl) .plain rfl ?_
  refine EL_pur (v := .bool (o0.2)) (P_extract rfl rfl) .plain rfl ?_
  refine EL_at j0 rfl rfl ?_
  refine EL_at (.bool (o0.2)) rfl rfl ?_
  refine EL_nil (thn_n (E_joinC h (fun (s : Unit) e w => ∃ (g : Gh) , Fr gI wI g w ∧ e 8 = j0 ∧ RV g.m w (o0.1 : List Int) j0) (fun X16 z3 i4 h => ?_) ?_))
  ·refine E_seq (E_region (EL_mw (.bool (o0.2)) rfl rfl ?_))
   refine EL_pur (v := .bool (!o0.2)) (P_not rfl) .plain rfl ?_
   refine EL_nil (thn_n ?_)
   rcases csome h with ⟨z1, h⟩ | ⟨z1, h⟩
   ·refine E_ct z1 rfl ?_
    refine E_seq (E_region (EL_at (.slice none 0 0) rfl rfl ?_))
    refine EL_at (.int .i64 (9)) rfl rfl ?_
    refine EL_nil (thn_n (E_ret (thn_r ?_)))
    obtain rfl := sinj h
    exact end2 rfl rfl (show _ = .slice none 0 0 from rfl) (show _ = .int .i64 (9) from rfl) ⟨_, hfr, _, _, rfl, RV_nil, rfl⟩
   ·refine E_cf z1 rfl ?_
    exact E_skip (thn_n (i4 () _ _ ⟨p4, hfr, rfl, o3⟩ h))
  ·rintro _ j5 o5 ⟨q5, hfr, p3, u3⟩ h
   refine E_seq (E_region (EL_mv p3 rfl ?_))
   refine EL_at j0 rfl rfl ?_
   refine EL_at (.int .i64 (0)) rfl rfl ?_
   refine EL_nil (thn_n (E_ret ?_))
   obtain rfl := sinj h
   exact end2 rfl rfl (show _ = j0 from rfl) (show _ = .int .i64 (0) from rfl) ⟨_, hfr, _, _, rfl, u3, rfl⟩
/-- griffe/loom.Over -/
def f30 (x0 : LoomMill) (x1 : List LoomOrder) : Option (Span × Int × Int) :=
 (f50 x0 x1).bind fun y5 =>
 jn (σ := Span × Int) (fun (x5, z5) =>
  Option.bind (α := Span × Int × Int) (
   lp (σ := Span × Int × Int × Int) (fun g9 (j4, m4, n4, j0) =>
    bif (decide (j0 < (300 : Int))) then
     Option.bind (α := Span × Int × Int) (
      lp (σ := Span × Int × Int × Int) (fun k94 (m4_95, s5_95, s8_95, s10_95) =>
       jn (σ := Unit) (fun (_ : Unit) =>
        Option.bind (α := Span × Int × Int) (
         (f64 (y5.1) j0 s10_95).bind fun y110 =>
         bif (decide ((w64 (y110 - (w64 ((w64 (s10_95 - j0)) * (((x0).Widths).length : Int))))) > s8_95)) then
          some ((⟨j0, s10_95⟩ : Span), y110, (w64 (y110 - (w64 ((w64 (s10_95 - j0)) * (((x0).Widths).length : Int))))))
         else
          some (m4_95, s5_95, s8_95)
         ) fun (m4_116, s5_116, s8_116) =>
        k94 (m4_116, s5_116, s8_116, (w64 (s10_95 + (1 : Int))))
        ) fun k97 =>
       bif (decide (s10_95 ≤ (300 : Int))) then
        k97 ()
       else
        some (m4_95, s5_95, s8_95)
       ) big (j4, m4, n4, (w64 (j0 + (1 : Int))))
      ) fun (j2, z2, d3) =>
     g9 (j2, z2, d3, (w64 (j0 + (1 : Int))))
    else
     some (j4, m4, n4)
    ) big (x5, z5, (0 : Int), (0 : Int))
   ) fun (j1, i3, j3) =>
  jn (σ := Span × Int) (fun (d5, o3) =>
   some (d5, o3, (0 : Int))
   ) fun z6 =>
  bif (j3 == (0 : Int)) then
   some (j1, (0 : Int), (7 : Int))
  else
   z6 (j1, i3)
  ) fun i9 =>
 bif (y5.2 != (0 : Int)) then
  some ((⟨0, 0⟩ : Span), (0 : Int), y5.2)
 else
  i9 ((⟨0, 0⟩ : Span), (0 : Int))
theorem en30 : Enters Try.prog 30 := enters_of Try.func30 (by kernel_rfl) rfl
theorem wk30 {gI : Gh} {wI : World} {x0 : LoomMill} {x1 : List LoomOrder} {up0 : Value} (rp0 : RV gI.m wI x0 up0) {up1 : Value} (rp1 : RV gI.m wI x1 up1) {r : Span × Int × Int} (h : f30 x0 x1 = some r) : Fn Try.prog 30 #[up0, up1] gI wI (fun m w v => ∃ y0 y1 y2, v = .tuple #[y0, y1, y2] ∧ RV m w (r.1) y0 ∧ y1 = .int .i64 (r.2.1) ∧ y2 = .int .i64 (r.2.2)) := by
 unfold f30 at h
 refine fn_of_E Try.func30 rfl (Nat.le_of_ble_eq_true rfl) fun g0 hm hfr => ?_
 have rp0 : RV g0.m wI x0 up0 := hm ▸ rp0
 have rp1 : RV g0.m wI x1 up1 := hm ▸ rp1
 show E _ 59 none _ _ _ _ _
 refine E_seq (E_region (EL_do .plain rfl (D_box (g := g0) rfl rp0 fun g1 w1 p1 hs q1 => ?_)))
 have hfr := hfr.ext hs
 have rp1 := rp1.ext hs
 refine EL_do .plain rfl (D_allocOc (g := g1) 2004 (⟨0, 0⟩ : Span) Try.zeroValue48 (fun m w => ⟨_, (rep_two rep_int rep_int), rfl⟩) fun g2 w2 p2 hs b2 cb => ?_)
 have hfr := hfr.stp hs
 have rp1 := rp1.stp hs
 have q1 := q1.stp hs
 clear cb
 refine EL_at (.int .i64 (0)) rfl rfl ?_
 refine EL_at (.int .i64 (0)) rfl rfl ?_
 refine EL_nil (thn_n (E_seq (E_region (EL_do .plain rfl (D_load (g := g2) Try.isAgg24 Try.sizeOf24 rfl q1 fun v3 r3 => ?_)))))
 refine EL_mw up1 rfl rfl ?_
 obtain ⟨y5, gA, h⟩ := bsome h
 refine EL_do .plain rfl (D_call (g := g2) (vs := [v3, up1]) en50 (.cons rfl (.cons rfl .nil)) (wk50 r3 rp1 gA) fun g4 w4_ v4 hs hr => ?_)
 have hfr := hfr.ext hs
 have q1 := q1.ext hs
 have b2 := b2.ext hs
 obtain ⟨n5, pA, rfl, o5, rfl⟩ := hr
 refine EL_mw (.tuple #[n5, .int .i64 (y5.2)]) rfl rfl ?_
 refine EL_pur (v := n5) (P_extract rfl rfl) .plain rfl ?_
 refine EL_pur (v := .int .i64 (y5.2)) (P_extract rfl rfl) .plain rfl ?_
 refine EL_do .plain rfl (D_allocOc (g := g4) 2007 (⟨⟨[], 0⟩, []⟩ : LoomLoomMill) Try.zeroValue96 (fun m w => ⟨_, (rep_two (rep_two rep_nil rep_int) rep_nil), rfl⟩) fun g6 w6 p6 hs b6 cb => ?_)
 have hfr := hfr.stp hs
 have q1 := q1.stp hs
 have b2 := b2.stp hs rfl
 have o5 := o5.stp hs
 have qA : OSF 2007 60700 0 g6 w6 3 96 ([] : List Int) p6 := cb.osf (by rfl)
 have rA : OSF 2007 60702 2 g6 w6 82 96 ([] : List LoomOrder) p6 := cb.osf (by rfl)
 clear cb
 refine EL_do .plain rfl (D_storeOc (g := g6) (v := n5) Try.sizeOf96 rfl b6 rfl o5 fun g7 w7 hs b7 cb => ?_)
 clear cb
 have hfr := hfr.stp hs
 have q1 := q1.stp hs
 have b2 := b2.stp hs rfl
 refine EL_at (.int .i64 (y5.2)) rfl rfl ?_
 refine EL_nil (thn_n (E_joinC h (fun (s : Span × Int) e w => ∃ (g : Gh) , Fr gI wI g w ∧ e 2 = p1 ∧ PT g.m w (x0 : LoomMill) p1 ∧ e 4 = p2 ∧ OB 2004 g w 48 (s.1 : Span) p2 ∧ e 5 = .int .i64 (s.2) ∧ e 7 = p6 ∧ OB 2007 g w 96 (y5.1 : LoomLoomMill) p6) (fun X12 i9 m9 h => ?_) ?_))
 ·refine E_seq (E_region (EL_mw (.int .i64 (y5.2)) rfl rfl ?_))
  refine EL_in (.bool ((y5.2 != (0 : Int)))) rfl rfl rfl rfl ?_
  refine EL_nil (thn_n ?_)
  rcases csome h with ⟨p5, h⟩ | ⟨p5, h⟩
  ·refine E_ct p5 rfl ?_
   refine E_seq (E_region (EL_do .plain rfl (D_loadO (g := g7) Try.isAgg48 Try.sizeOf48 rfl b2 fun iA jA => ?_)))
   refine EL_mw (.int .i64 (y5.2)) rfl rfl ?_
   refine EL_do .plain rfl (D_storeOc (g := g7) (v := iA) Try.sizeOf48 rfl b2 rfl jA fun lB mB hs b15 cb => ?_)
   clear cb
   have hfr := hfr.stp hs
   refine EL_at (.int .i64 (0)) rfl rfl ?_
   refine EL_at (.int .i64 (y5.2)) rfl rfl ?_
   refine EL_nil (thn_n (E_ret (thn_r ?_)))
   obtain rfl := sinj h
   obtain ⟨ad16, cv16, hp16, n9, cr16⟩ := ob_read Try.isAgg48 Try.sizeOf48 b15
   exact endm_ctt rfl rfl ((show _ = p2 from rfl).trans hp16) n9 (show _ = .int .i64 (0) from rfl) (show _ = .int .i64 (y5.2) from rfl) ⟨_, hfr, _, _, _, rfl, cr16, rfl, rfl⟩
  ·refine E_cf p5 rfl ?_
   exact E_skip (thn_n (m9 ((⟨0, 0⟩ : Span), (0 : Int)) _ _ ⟨g7, hfr, rfl, q1, rfl, b2, rfl, rfl, b7⟩ h))
 ·rintro ⟨x5, z5⟩ sA nB ⟨kA, hfr, j8, k8, l8, m8, n8, o8, p8⟩ h
  refine E_seq (E_region (EL_at (.int .i64 (0)) rfl rfl ?_))
  refine EL_nil (thn_n ?_)
  obtain ⟨⟨j1, i3, j3⟩, hx, h⟩ := bsome h
  refine E_join (fun e w => ∃ (g : Gh) , Fr gI wI g w ∧ e 4 = p2 ∧ OB 2004 g w 48 (j1 : Span) p2 ∧ e 5 = .int .i64 (i3) ∧ e 8 = .int .i64 (j3)) (fun Q' hQ => ?_) (fun lA tA hR => ?_)
  ·replace h := hx
   clear hx
   refine E_seq (E_region (EL_mw (.int .i64 (0)) rfl rfl ?_))
   refine EL_nil (thn_n (E_block ?_))
   refine E_lp h (fun (s : Span × Int × Int × Int) e w => ∃ (g : Gh) , Fr gI wI g w ∧ e 2 = p1 ∧ PT g.m w (x0 : LoomMill) p1 ∧ e 4 = p2 ∧ OB 2004 g w 48 (s.1 : Span) p2 ∧ e 5 = .int .i64 (s.2.1) ∧ e 7 = p6 ∧ OB 2007 g w 96 (y5.1 : LoomLoomMill) p6 ∧ e 8 = .int .i64 (s.2.2.1) ∧ e 23 = .int .i64 (s.2.2.2)) ⟨kA, hfr, j8, k8, l8, m8, n8, o8, p8, rfl, rfl⟩ (fun X68 g9 o9 => ?_)
   rintro ⟨j4, m4, n4, j0⟩ uA oB ⟨j9, hfr, q8, r8, c6, d6, i6, t8, v8, j6, c4⟩ h
   refine E_seq (E_region (EL_in (.bool ((decide (j0 < (300 : Int))))) c4 rfl rfl rfl ?_))
   refine EL_nil (thn_n (E_seq ?_))
   rcases csome h with ⟨q5, h⟩ | ⟨q5, h⟩
   ·refine E_ct q5 rfl ?_
    refine E_skip (thn_n ?_)
    obtain ⟨⟨j2, z2, d3⟩, hx, h⟩ := bsome h
    refine E_join (fun e w => ∃ (g : Gh) , Fr gI wI g w ∧ e 2 = p1 ∧ PT g.m w (x0 : LoomMill) p1 ∧ e 4 = p2 ∧ OB 2004 g w 48 (j2 : Span) p2 ∧ e 5 = .int .i64 (z2) ∧ e 7 = p6 ∧ OB 2007 g w 96 (y5.1 : LoomLoomMill) p6 ∧ e 8 = .int .i64 (d3) ∧ e 23 = .int .i64 (j0)) (fun Q' hQ => ?_) (fun mA vA hR => ?_)
    ·replace h := hx
     clear hx
     refine E_block ?_
     refine E_seq (E_region (EL_mv c4 rfl ?_))
     refine EL_at (.int .i64 (j0)) rfl rfl ?_
     refine EL_nil (thn_n (E_seq (E_region (EL_mw (.int .i64 (j0)) rfl rfl ?_))))
     refine EL_in (.int .i64 ((w64 (j0 + (1 : Int))))) rfl rfl rfl rfl ?_
     refine EL_at (.int .i64 ((w64 (j0 + (1 : Int))))) rfl rfl ?_
     refine EL_nil (thn_n (E_block ?_))
     refine E_lp h (fun (s : Span × Int × Int × Int) e w => ∃ (g : Gh) , Fr gI wI g w ∧ e 2 = p1 ∧ PT g.m w (x0 : LoomMill) p1 ∧ e 4 = p2 ∧ OB 2004 g w 48 (s.1 : Span) p2 ∧ e 5 = .int .i64 (s.2.1) ∧ e 7 = p6 ∧ OB 2007 g w 96 (y5.1 : LoomLoomMill) p6 ∧ e 8 = .int .i64 (s.2.2.1) ∧ e 9 = .int .i64 (j0) ∧ e 10 = .int .i64 (s.2.2.2) ∧ e 23 = .int .i64 (j0)) ⟨j9, hfr, q8, r8, c6, d6, i6, t8, v8, j6, rfl, rfl, c4⟩ (fun X94 k94 p9 => ?_)
     rintro ⟨m4_95, s5_95, s8_95, s10_95⟩ xA pB ⟨k9, hfr, k6, l6, m6, n6, o6, q6, r6, t6, x8, i5, j5⟩ h
     refine E_joinC h (fun (s : Unit) e w => ∃ (g : Gh) , Fr gI wI g w ∧ e 2 = p1 ∧ PT g.m w (x0 : LoomMill) p1 ∧ e 4 = p2 ∧ OB 2004 g w 48 (m4_95 : Span) p2 ∧ e 5 = .int .i64 (s5_95) ∧ e 7 = p6 ∧ OB 2007 g w 96 (y5.1 : LoomLoomMill) p6 ∧ e 8 = .int .i64 (s8_95) ∧ e 9 = .int .i64 (j0) ∧ e 10 = .int .i64 (s10_95) ∧ e 23 = .int .i64 (j0)) (fun X97 k97 q9 h => ?_) ?_
     ·refine E_seq (E_region (EL_mv i5 rfl ?_))
      refine EL_in (.bool ((decide (s10_95 ≤ (300 : Int))))) rfl rfl rfl rfl ?_
      refine EL_nil (thn_n ?_)
      rcases csome h with ⟨t5, h⟩ | ⟨t5, h⟩
      ·refine E_ct t5 rfl ?_
       exact E_skip (thn_n (q9 () _ _ ⟨k9, hfr, k6, l6, m6, n6, o6, q6, r6, t6, x8, i5, j5⟩ h))
      ·refine E_cf t5 rfl ?_
       refine E_exit ?_
       refine thn_e ?_
       refine thn_e ?_
       refine blk_hit ?_
       refine blk_n ?_
       obtain ⟨rfl, rfl, rfl⟩ := pairs3 h
       exact hQ _ _ ⟨k9, hfr, k6, l6, m6, n6, o6, q6, r6, t6, j5⟩
     ·rintro _ yA qB ⟨l9, hfr, o4, o0, p4, z3, y8, u4, u0, u6, p3, z1, l5⟩ h
      obtain ⟨⟨m4_116, s5_116, s8_116⟩, hx, h⟩ := bsome h
      refine E_join (fun e w => ∃ (g : Gh) , Fr gI wI g w ∧ e 2 = p1 ∧ PT g.m w (x0 : LoomMill) p1 ∧ e 4 = p2 ∧ OB 2004 g w 48 (m4_116 : Span) p2 ∧ e 5 = .int .i64 (s5_116) ∧ e 7 = p6 ∧ OB 2007 g w 96 (y5.1 : LoomLoomMill) p6 ∧ e 8 = .int .i64 (s8_116) ∧ e 9 = .int .i64 (j0) ∧ e 10 = .int .i64 (s10_95) ∧ e 23 = .int .i64 (j0)) (fun Q' hQ => ?_) (fun nA zA hR => ?_)
      ·replace h := hx
       clear hx
       refine E_block ?_
       refine E_seq (E_region (EL_do .plain rfl (D_loadO (g := l9) Try.isAgg96 Try.sizeOf96 u4 u0 fun r9 t9 => ?_)))
       refine EL_mv p3 rfl ?_
       refine EL_mv z1 rfl ?_
       obtain ⟨y110, z8, h⟩ := bsome h
       refine EL_do .plain rfl (D_call (g := l9) (vs := [r9, .int .i64 (j0), .int .i64 (s10_95)]) en64 (.cons rfl (.cons rfl (.cons rfl .nil))) (wk64 t9 z8) fun x4 a9 aB hs hr => ?_)
       have hfr := hfr.ext hs
       have o0 := o0.ext hs
       have z3 := z3.ext hs
       have u0 := u0.ext hs
       subst hr
       refine EL_at (.int .i64 (y110)) rfl rfl ?_
       refine EL_nil (thn_n (E_seq (E_region (EL_mw (.int .i64 (y110)) rfl rfl ?_))))
       refine EL_mv z1 rfl ?_
       refine EL_mv p3 rfl ?_
       refine EL_in (.int .i64 ((w64 (s10_95 - j0)))) rfl rfl rfl rfl ?_
       refine EL_pur (v := fPtr p1 0) (P_fieldAddr at_24_0 o4 (PT.ptr o0)) .plain rfl ?_
       have u9 := PT_field (part_LoomMill_0).1 o0
       refine EL_do .plain rfl (D_load (g := x4) Try.isAgg22 Try.sizeOf22 rfl u9 fun bB v9 => ?_)
       refine EL_pur (v := .int .i64 (((x0).Widths).length : Int)) (P_len Try.underlying22 rfl v9) .plain rfl ?_
       refine EL_pur (v := .int .i64 ((w64 ((w64 (s10_95 - j0)) * (((x0).Widths).length : Int))))) (P_int rfl rfl rfl) .plain rfl ?_
       refine EL_pur (v := .int .i64 ((w64 (y110 - (w64 ((w64 (s10_95 - j0)) * (((x0).Widths).length : Int))))))) (P_int rfl rfl rfl) .plain rfl ?_
       refine EL_pur (v := .int .i64 ((w64 (y110 - (w64 ((w64 (s10_95 - j0)) * (((x0).Widths).length : Int))))))) (P_assign rfl) .plain rfl ?_
       refine EL_nil (thn_n (E_seq (E_region (EL_pur (v := .int .i64 ((w64 (y110 - (w64 ((w64 (s10_95 - j0)) * (((x0).Widths).length : Int))))))) (P_move rfl) .plain rfl ?_))))
       refine EL_mv u6 rfl ?_
       refine EL_pur (v := .bool ((decide ((w64 (y110 - (w64 ((w64 (s10_95 - j0)) * (((x0).Widths).length : Int))))) > s8_95)))) (P_int rfl rfl rfl) .plain rfl ?_
       refine EL_nil (thn_n ?_)
       rcases csome h with ⟨z4, h⟩ | ⟨z4, h⟩
       ·refine E_ct z4 rfl ?_
        refine E_region (EL_mv p3 rfl ?_)
        refine EL_mv z1 rfl ?_
        have a7 : RV x4.m a9 (⟨j0, s10_95⟩ : Span) (.agg (setCh [[.int .i64 0], [.int .i64 0]] [(0, .int .i64 (j0)), (1, .int .i64 (s10_95))]).flatten.toArray) := RV_build rfl (rep_pair (rfl) (rep_last (rfl)))
        generalize b9 : (Value.agg (setCh [[.int .i64 0], [.int .i64 0]] [(0, .int .i64 (j0)), (1, .int .i64 (s10_95))]).flatten.toArray) = c7 at a7
        refine EL_pur (v := c7) (b9 ▸ P_build (vs := [(0, .int .i64 (j0)), (1, .int .i64 (s10_95))]) [[.int .i64 0], [.int .i64 0]] lay_48 rfl rfl (.cons rfl (.cons rfl .nil)) ⟨⟨_, rfl, rfl⟩, ⟨⟨_, rfl, rfl⟩, trivial⟩⟩) .plain rfl ?_
        refine EL_mw (.int .i64 (y110)) rfl rfl ?_
        refine EL_pur (v := .int .i64 ((w64 (y110 - (w64 ((w64 (s10_95 - j0)) * (((x0).Widths).length : Int))))))) (P_move rfl) .plain rfl ?_
        refine EL_do .plain rfl (D_storeOc (g := x4) (v := c7) Try.sizeOf48 p4 z3 rfl a7 fun x9 cB hs b115 cb => ?_)
        clear cb
        have hfr := hfr.stp hs
        have o0 := o0.stp hs
        have u0 := u0.stp hs rfl
        refine EL_at (.int .i64 (y110)) rfl rfl ?_
        refine EL_pur (v := .int .i64 ((w64 (y110 - (w64 ((w64 (s10_95 - j0)) * (((x0).Widths).length : Int))))))) (P_assign rfl) .plain rfl ?_
        refine EL_nil (blk_n ?_)
        obtain ⟨rfl, rfl, rfl⟩ := pairs3 h
        exact hQ _ _ ⟨x9, hfr, o4, o0, p4, b115, rfl, u4, u0, rfl, p3, z1, l5⟩
       ·refine E_cf z4 rfl ?_
        refine E_skip (blk_n ?_)
        obtain ⟨rfl, rfl, rfl⟩ := pairs3 h
        exact hQ _ _ ⟨x4, hfr, o4, o0, p4, z3, y8, u4, u0, u6, p3, z1, l5⟩
      ·clear hx
       obtain ⟨y9, hfr, d7, e7, i7, j7, m7, n7, o7, p7, q7, v6, x6⟩ := hR
       refine E_region (EL_mv v6 rfl ?_)
       refine EL_in (.int .i64 ((w64 (s10_95 + (1 : Int))))) rfl rfl rfl rfl ?_
       refine EL_at (.int .i64 ((w64 (s10_95 + (1 : Int))))) rfl rfl ?_
       exact EL_nil (thn_n (p9 (m4_116, s5_116, s8_116, (w64 (s10_95 + (1 : Int)))) _ _ ⟨y9, hfr, d7, e7, i7, j7, m7, n7, o7, p7, q7, rfl, x6⟩ h))
    ·clear hx
     obtain ⟨z9, hfr, t7, u7, v7, x7, y7, a8, b8, c8, y6⟩ := hR
     refine E_region (EL_in (.int .i64 ((w64 (j0 + (1 : Int))))) y6 rfl rfl rfl ?_)
     refine EL_mw (.int .i64 ((w64 (j0 + (1 : Int))))) rfl rfl ?_
     exact EL_nil (thn_n (o9 (j2, z2, d3, (w64 (j0 + (1 : Int)))) _ _ ⟨z9, hfr, t7, u7, v7, x7, y7, a8, b8, c8, rfl⟩ h))
   ·refine E_cf q5 rfl ?_
    refine E_exit ?_
    refine thn_e ?_
    refine thn_e ?_
    refine blk_hit ?_
    obtain ⟨rfl, rfl, rfl⟩ := pairs3 h
    exact hQ _ _ ⟨j9, hfr, c6, d6, i6, j6⟩
  ·clear hx
   obtain ⟨u5, hfr, u3, d4, d8, e8⟩ := hR
   refine E_joinC h (fun (s : Span × Int) e w => ∃ (g : Gh) , Fr gI wI g w ∧ e 4 = p2 ∧ OB 2004 g w 48 (s.1 : Span) p2 ∧ e 5 = .int .i64 (s.2)) (fun X123 z6 c9 h => ?_) ?_
   ·refine E_seq (E_region (EL_mv e8 rfl ?_))
    refine EL_in (.bool ((j3 == (0 : Int)))) rfl rfl rfl rfl ?_
    refine EL_nil (thn_n ?_)
    rcases csome h with ⟨c5, h⟩ | ⟨c5, h⟩
    ·refine E_ct c5 rfl ?_
     refine E_seq (E_region (EL_do .plain rfl (D_loadO (g := u5) Try.isAgg48 Try.sizeOf48 u3 d4 fun bA cA => ?_)))
     refine EL_do .plain rfl (D_storeOc (g := u5) (v := bA) Try.sizeOf48 u3 d4 rfl cA fun dB eB hs b126 cb => ?_)
     clear cb
     have hfr := hfr.stp hs
     refine EL_at (.int .i64 (0)) rfl rfl ?_
     refine EL_at (.int .i64 (7)) rfl rfl ?_
     refine EL_nil (thn_n (E_ret (thn_r ?_)))
     obtain rfl := sinj h
     obtain ⟨ad127, cv127, hp127, d9, cr127⟩ := ob_read Try.isAgg48 Try.sizeOf48 b126
     exact endm_ctt rfl rfl ((show _ = p2 from u3).trans hp127) d9 (show _ = .int .i64 (0) from rfl) (show _ = .int .i64 (7) from rfl) ⟨_, hfr, _, _, _, rfl, cr127, rfl, rfl⟩
    ·refine E_cf c5 rfl ?_
     exact E_skip (thn_n (c9 (j1, i3) _ _ ⟨u5, hfr, u3, d4, d8⟩ h))
   ·rintro ⟨d5, o3⟩ oA iB ⟨g8, hfr, i4, m5, i8⟩ h
    refine E_seq (E_region (EL_do .plain rfl (D_loadO (g := g8) Try.isAgg48 Try.sizeOf48 i4 m5 fun dA eA => ?_)))
    refine EL_mv i8 rfl ?_
    refine EL_do .plain rfl (D_storeOc (g := g8) (v := dA) Try.sizeOf48 i4 m5 rfl eA fun jB kB hs b130 cb => ?_)
    clear cb
    have hfr := hfr.stp hs
    refine EL_at (.int .i64 (o3)) rfl rfl ?_
    refine EL_at (.int .i64 (0)) rfl rfl ?_
    refine EL_nil (thn_n (E_ret ?_))
    obtain rfl := sinj h
    obtain ⟨ad131, cv131, hp131, e9, cr131⟩ := ob_read Try.isAgg48 Try.sizeOf48 b130
    exact endm_ctt rfl rfl ((show _ = p2 from i4).trans hp131) e9 (show _ = .int .i64 (o3) from rfl) (show _ = .int .i64 (0) from rfl) ⟨_, hfr, _, _, _, rfl, cr131, rfl, rfl⟩
/-- griffe/loom.Stops -/
def f33 (x0 : LoomMill) (x1 : List LoomOrder) (x2 : List LoomRun) (x3 : LoomStop) : Option ((List Int) × Int) :=
 (f65 x0 x1 x2 x3).bind fun y6 =>
 jn (σ := (List Int)) (fun c6 =>
  Option.bind (α := (List Int)) (
   lp (σ := (List Int) × Int) (fun a8 (u3, j0) =>
    bif (decide (j0 < ((x2).length : Int))) then
     Option.bind (α := (List Int)) (
      (idx x2 j0).bind fun y110 =>
      Option.bind (α := Bool) (
       bif ((y110).Loom == (x3).Loom) then
        (f66 (y6.1) y110).bind fun y132 =>
        some (y132)
       else
        some (false)
       ) fun j3 =>
      bif j3 then
       (apnd 8 u3 (([(y110).Order] : List Int))).bind fun q6 =>
       some (q6)
      else
       some (u3)
      ) fun p3 =>
     a8 (p3, (w64 (j0 + (1 : Int))))
    else
     some (u3)
    ) big (c6, (0 : Int))
   ) fun z3 =>
  some (z3, (0 : Int))
  ) fun c8 =>
 bif (y6.2 != (0 : Int)) then
  some ([], y6.2)
 else
  c8 ([])
theorem en33 : Enters Try.prog 33 := enters_of Try.func33 (by kernel_rfl) rfl
theorem wk33 {gI : Gh} {wI : World} {x0 : LoomMill} {x1 : List LoomOrder} {x2 : List LoomRun} {x3 : LoomStop} {up0 : Value} (rp0 : RV gI.m wI x0 up0) {up1 : Value} (rp1 : RV gI.m wI x1 up1) {up2 : Value} (rp2 : RV gI.m wI x2 up2) {up3 : Value} (rp3 : RV gI.m wI x3 up3) {r : (List Int) × Int} (h : f33 x0 x1 x2 x3 = some r) : Fn Try.prog 33 #[up0, up1, up2, up3] gI wI (fun m w v => ∃ y0 y1, v = .tuple #[y0, y1] ∧ RV m w (r.1) y0 ∧ y1 = .int .i64 (r.2)) := by
 unfold f33 at h
 refine fn_of_E Try.func33 rfl (Nat.le_of_ble_eq_true rfl) fun g0 hm hfr => ?_
 have rp0 : RV g0.m wI x0 up0 := hm ▸ rp0
 have rp1 : RV g0.m wI x1 up1 := hm ▸ rp1
 have rp2 : RV g0.m wI x2 up2 := hm ▸ rp2
 have rp3 : RV g0.m wI x3 up3 := hm ▸ rp3
 show E _ 47 none _ _ _ _ _
 refine E_seq (E_region (EL_do .plain rfl (D_box (g := g0) rfl rp0 fun g1 w1 p1 hs q1 => ?_)))
 have hfr := hfr.ext hs
 have rp1 := rp1.ext hs
 have rp2 := rp2.ext hs
 have rp3 := rp3.ext hs
 refine EL_do .plain rfl (D_box (g := g1) rfl rp3 fun g2 w2 p2 hs q2 => ?_)
 have hfr := hfr.ext hs
 have rp1 := rp1.ext hs
 have rp2 := rp2.ext hs
 have q1 := q1.ext hs
 refine EL_at (.slice none 0 0) rfl rfl ?_
 refine EL_at (.int .i64 (0)) rfl rfl ?_
 refine EL_nil (thn_n (E_seq (E_region (EL_do .plain rfl (D_load (g := g2) Try.isAgg24 Try.sizeOf24 rfl q1 fun v3 r3 => ?_)))))
 refine EL_mw up1 rfl rfl ?_
 refine EL_mw up2 rfl rfl ?_
 refine EL_do .plain rfl (D_load (g := g2) Try.isAgg54 Try.sizeOf54 rfl q2 fun v4 r4 => ?_)
 obtain ⟨y6, d9, h⟩ := bsome h
 refine EL_do .plain rfl (D_call (g := g2) (vs := [v3, up1, up2, v4]) en65 (.cons rfl (.cons rfl (.cons rfl (.cons rfl .nil)))) (wk65 r3 rp1 rp2 r4 d9) fun g5 w5_ v5 hs hr => ?_)
 have hfr := hfr.ext hs
 have rp2 := rp2.ext hs
 have q2 := q2.ext hs
 obtain ⟨t5, m9, rfl, u5, rfl⟩ := hr
 refine EL_mw (.tuple #[t5, .int .i64 (y6.2)]) rfl rfl ?_
 refine EL_pur (v := t5) (P_extract rfl rfl) .plain rfl ?_
 refine EL_pur (v := .int .i64 (y6.2)) (P_extract rfl rfl) .plain rfl ?_
 refine EL_do .plain rfl (D_allocOc (g := g5) 2010 (⟨⟨⟨[], 0⟩, []⟩, ⟨0, ⟨0, 0⟩⟩⟩ : LoomStill) Try.zeroValue113 (fun m w => ⟨_, (rep_two (rep_two (rep_two rep_nil rep_int) rep_nil) (rep_two rep_int (rep_two rep_int rep_int))), rfl⟩) fun g7 w7 p7 hs b7 cb => ?_)
 have hfr := hfr.stp hs
 have rp2 := rp2.stp hs
 have q2 := q2.stp hs
 have u5 := u5.stp hs
 have n9 : OSF 2010 61000 0 g7 w7 3 113 ([] : List Int) p7 := cb.osf (by rfl)
 have o9 : OSF 2010 61002 2 g7 w7 82 113 ([] : List LoomOrder) p7 := cb.osf (by rfl)
 clear cb
 refine EL_do .plain rfl (D_storeOc (g := g7) (v := t5) Try.sizeOf113 rfl b7 rfl u5 fun g8 w8 hs b8 cb => ?_)
 clear cb
 have hfr := hfr.stp hs
 have rp2 := rp2.stp hs
 have q2 := q2.stp hs
 refine EL_at (.int .i64 (y6.2)) rfl rfl ?_
 refine EL_nil (thn_n (E_joinC h (fun (s : (List Int)) e w => ∃ (g : Gh) (v8 : Value), Fr gI wI g w ∧ e 2 = up2 ∧ RV g.m w (x2 : List LoomRun) up2 ∧ e 7 = p2 ∧ PT g.m w (x3 : LoomStop) p2 ∧ e 8 = v8 ∧ RV g.m w (s : List Int) v8 ∧ OS 1008 g w 3 (s : List Int) v8 ∧ e 10 = p7 ∧ OB 2010 g w 113 (y6.1 : LoomStill) p7) (fun X10 c8 d8 h => ?_) ?_))
 ·refine E_seq (E_region (EL_mw (.int .i64 (y6.2)) rfl rfl ?_))
  refine EL_in (.bool ((y6.2 != (0 : Int)))) rfl rfl rfl rfl ?_
  refine EL_nil (thn_n ?_)
  rcases csome h with ⟨x5, h⟩ | ⟨x5, h⟩
  ·refine E_ct x5 rfl ?_
   refine E_seq (E_region (EL_mw (.int .i64 (y6.2)) rfl rfl ?_))
   refine EL_at (.slice none 0 0) rfl rfl ?_
   refine EL_at (.int .i64 (y6.2)) rfl rfl ?_
   refine EL_nil (thn_n (E_ret (thn_r ?_)))
   obtain rfl := sinj h
   exact end2 rfl rfl (show _ = .slice none 0 0 from rfl) (show _ = .int .i64 (y6.2) from rfl) ⟨_, hfr, _, _, rfl, RV_nil, rfl⟩
  ·refine E_cf x5 rfl ?_
   exact E_skip (thn_n (d8 ([]) _ _ ⟨g8, (.slice none 0 0), hfr, rfl, rp2, rfl, q2, rfl, RV_nil, OS.nil, rfl, b8⟩ h))
 ·rintro c6 p9 jA ⟨e9, m7, hfr, n7, d6, o7, q7, t7, u7, v7, r6, t6⟩ h
  obtain ⟨z3, hx, h⟩ := bsome h
  refine E_join (fun e w => ∃ (g : Gh) (v8 : Value), Fr gI wI g w ∧ e 8 = v8 ∧ RV g.m w (z3 : List Int) v8 ∧ OS 1008 g w 3 (z3 : List Int) v8) (fun Q' hQ => ?_) (fun i9 q9 hR => ?_)
  ·replace h := hx
   clear hx
   refine E_seq (E_region (EL_mv n7 rfl ?_))
   refine EL_pur (v := .int .i64 ((x2).length : Int)) (P_len Try.underlying31 rfl d6) .plain rfl ?_
   refine EL_mw (.int .i64 (0)) rfl rfl ?_
   refine EL_nil (thn_n (E_block ?_))
   refine E_lp h (fun (s : (List Int) × Int) e w => ∃ (g : Gh) (v8 : Value), Fr gI wI g w ∧ e 7 = p2 ∧ PT g.m w (x3 : LoomStop) p2 ∧ e 8 = v8 ∧ RV g.m w (s.1 : List Int) v8 ∧ OS 1008 g w 3 (s.1 : List Int) v8 ∧ e 10 = p7 ∧ OB 2010 g w 113 (y6.1 : LoomStill) p7 ∧ e 24 = up2 ∧ RV g.m w (x2 : List LoomRun) up2 ∧ e 25 = .int .i64 (((x2).length : Int)) ∧ e 26 = .int .i64 (s.2)) ⟨e9, (m7), hfr, o7, q7, t7, u7, v7, r6, t6, rfl, d6, rfl, rfl⟩ (fun X77 a8 e8 => ?_)
   rintro ⟨u3, j0⟩ r9 kA ⟨u6, c4, hfr, j5, j1, l5, z1, j2, n4, u0, o4, o0, p4, d4⟩ h
   refine E_seq (E_region (EL_in (.bool ((decide (j0 < ((x2).length : Int))))) d4 p4 rfl rfl ?_))
   refine EL_nil (thn_n (E_seq ?_))
   rcases csome h with ⟨y5, h⟩ | ⟨y5, h⟩
   ·refine E_ct y5 rfl ?_
    refine E_skip (thn_n ?_)
    obtain ⟨p3, hx, h⟩ := bsome h
    refine E_join (fun e w => ∃ (g : Gh) (v8 : Value), Fr gI wI g w ∧ e 7 = p2 ∧ PT g.m w (x3 : LoomStop) p2 ∧ e 8 = v8 ∧ RV g.m w (p3 : List Int) v8 ∧ OS 1008 g w 3 (p3 : List Int) v8 ∧ e 10 = p7 ∧ OB 2010 g w 113 (y6.1 : LoomStill) p7 ∧ e 24 = up2 ∧ RV g.m w (x2 : List LoomRun) up2 ∧ e 25 = .int .i64 (((x2).length : Int)) ∧ e 26 = .int .i64 (j0)) (fun Q' hQ => ?_) (fun j9 t9 hR => ?_)
    ·replace h := hx
     clear hx
     refine E_block ?_
     refine E_seq (E_region ?_)
     obtain ⟨y110, i6, h⟩ := bsome h
     refine EL_pur (v := ePtr up2 j0 3) (P_indexAddr (α := LoomRun) Try.underlying31 Try.sizeOf76 o4 o0 d4 i6) .plain rfl ?_
     have i8 := PT_idx o0 i6
     refine EL_do .plain rfl (D_load (g := u6) Try.isAgg76 Try.sizeOf76 rfl i8 fun j8 z5 => ?_)
     refine EL_do .plain rfl (D_allocOc (g := u6) 2012 (⟨0, 0, 0⟩ : LoomRun) Try.zeroValue76 (fun m w => ⟨_, (rep_two rep_int (rep_two rep_int rep_int)), rfl⟩) fun k8 u9 m5 hs b113 cb => ?_)
     have hfr := hfr.stp hs
     have j1 := j1.stp hs
     have z1 := z1.stp hs
     have j2 := j2.stp hs rfl
     have u0 := u0.stp hs rfl
     have o0 := o0.stp hs
     have z5 := z5.stp hs
     clear cb
     refine EL_do .plain rfl (D_storeOc (g := k8) (v := j8) Try.sizeOf76 rfl b113 rfl z5 fun m4 v9 hs b114 cb => ?_)
     clear cb
     have hfr := hfr.stp hs
     have j1 := j1.stp hs
     have z1 := z1.stp hs
     have j2 := j2.stp hs rfl
     have u0 := u0.stp hs rfl
     have o0 := o0.stp hs
     refine EL_nil (thn_n ?_)
     obtain ⟨j3, hx, h⟩ := bsome h
     refine E_join (fun e w => ∃ (g : Gh) , Fr gI wI g w ∧ e 7 = p2 ∧ PT g.m w (x3 : LoomStop) p2 ∧ e 8 = c4 ∧ RV g.m w (u3 : List Int) c4 ∧ OS 1008 g w 3 (u3 : List Int) c4 ∧ e 10 = p7 ∧ OB 2010 g w 113 (y6.1 : LoomStill) p7 ∧ e 12 = m5 ∧ OB 2012 g w 76 (y110 : LoomRun) m5 ∧ e 24 = up2 ∧ RV g.m w (x2 : List LoomRun) up2 ∧ e 25 = .int .i64 (((x2).length : Int)) ∧ e 26 = .int .i64 (j0) ∧ e 39 = .bool (j3)) (fun Q' hQ => ?_) (fun k9 x9 hR => ?_)
     ·replace h := hx
      clear hx
      refine E_region (EL_pur (v := fPtr m5 1) (P_fieldAddr at_76_1 rfl (OB.ptr b114)) .plain rfl ?_)
      refine EL_do .plain rfl (D_loadF (g := m4) part_LoomRun_1.1 Try.isAgg3 Try.sizeOf3 rfl b114 fun y9 l8 => ?_)
      obtain rfl := RV_int.1 l8
      refine EL_pur (v := fPtr p2 0) (P_fieldAddr at_54_0 j5 (PT.ptr j1)) .plain rfl ?_
      have m8 := PT_field (part_LoomStop_0).1 j1
      refine EL_do .plain rfl (D_load (g := m4) Try.isAgg3 Try.sizeOf3 rfl m8 fun z9 n8 => ?_)
      obtain rfl := RV_int.1 n8
      refine EL_in (.bool (((y110).Loom == (x3).Loom))) rfl rfl rfl rfl ?_
      refine EL_mw (.bool (((y110).Loom == (x3).Loom))) rfl rfl ?_
      rcases csome h with ⟨z2, h⟩ | ⟨z2, h⟩
      ·refine EL_do (.yes2 rfl rfl z2) rfl (D_loadO (g := m4) Try.isAgg113 Try.sizeOf113 n4 u0 fun o8 p8 => ?_)
       refine EL_do (.yes2 rfl rfl z2) rfl (D_loadO (g := m4) Try.isAgg76 Try.sizeOf76 rfl b114 fun q8 r8 => ?_)
       obtain ⟨y132, x7, h⟩ := bsome h
       refine EL_do (.yes2 rfl rfl z2) rfl (D_call (g := m4) (vs := [o8, q8]) en66 (.cons rfl (.cons rfl .nil)) (wk66 p8 r8 x7) fun t8 l9 bA hs hr => ?_)
       have hfr := hfr.ext hs
       have j1 := j1.ext hs
       have z1 := z1.ext hs
       have j2 := j2.ext hs
       have u0 := u0.ext hs
       have o0 := o0.ext hs
       have b114 := b114.ext hs
       subst hr
       refine EL_pur (v := .bool (y132)) (P_pick (b := ((y110).Loom == (x3).Loom)) rfl (pick_t z2 rfl)) .plain rfl ?_
       refine EL_nil ?_
       obtain rfl := sinj h
       exact hQ _ _ ⟨t8, hfr, j5, j1, l5, z1, j2, n4, u0, rfl, b114, o4, o0, p4, d4, rfl⟩
      ·refine EL_skip (.no2 rfl rfl z2 rfl) rfl ?_
       refine EL_skip (.no2 rfl rfl z2 rfl) rfl ?_
       refine EL_skip (.no2 rfl rfl z2 rfl) rfl ?_
       refine EL_pur (v := .bool false) (P_pick (b := ((y110).Loom == (x3).Loom)) rfl (pick_f z2 rfl)) .plain rfl ?_
       refine EL_nil ?_
       obtain rfl := sinj h
       exact hQ _ _ ⟨m4, hfr, j5, j1, l5, z1, j2, n4, u0, rfl, b114, o4, o0, p4, d4, rfl⟩
     ·clear hx
      obtain ⟨b6, hfr, o5, o3, p5, i4, j4, u4, d3, j6, x4, z4, i3, c5, d5, i5⟩ := hR
      rcases csome h with ⟨n5, h⟩ | ⟨n5, h⟩
      ·refine E_cond_true (Eq.trans (show ev _ _ = .bool (j3) from i5) (congrArg Value.bool n5)) ?_
       refine E_region (EL_mv p5 rfl ?_)
       refine EL_pur (v := fPtr m5 0) (P_fieldAddr at_76_0 j6 (OB.ptr x4)) .plain rfl ?_
       refine EL_do .plain rfl (D_loadF (g := b6) part_LoomRun_0.1 Try.isAgg3 Try.sizeOf3 rfl x4 fun cA x8 => ?_)
       obtain rfl := RV_int.1 x8
       refine EL_do .plain rfl (D_buildSlice (g := b6) 3043 (xs := ([(y110).Order] : List Int)) (vs := [.int .i64 ((y110).Order)]) Try.underlying22 Try.sizeOf3 Try.zeroValue3 rfl rfl (.cons rfl .nil) (RVs.cons (RV_int.2 rfl) RVs.nil) rfl rfl fun y8 dA eA hs o137 z8 hxt hfl => ?_)
       have hfr := hfr.stp hs
       have o3 := o3.stp hs
       have i4 := i4.stp hs
       have j4 := j4.stp hs rfl
       have d3 := d3.stp hs rfl
       have i3 := i3.stp hs
       obtain ⟨q6, y7, h⟩ := bsome h
       refine EL_do .plain rfl (D_append (g := y8) (i := 1008) Try.underlying22 info_3 rfl rfl j4 i4 rfl z8 y7 fun a9 gA v6 hs o138 b9 _ => ?_)
       have hfr := hfr.stp hs
       have o3 := o3.stp hs
       have d3 := d3.stp hs rfl
       have i3 := i3.stp hs
       refine EL_at v6 rfl rfl ?_
       refine EL_nil (blk_n ?_)
       obtain rfl := sinj h
       exact hQ _ _ ⟨a9, (v6), hfr, o5, o3, rfl, b9, o138, u4, d3, z4, i3, c5, d5⟩
      ·refine E_cond_false (Eq.trans (show ev _ _ = .bool (j3) from i5) (congrArg Value.bool n5)) ?_
       refine E_skip (blk_n ?_)
       obtain rfl := sinj h
       exact hQ _ _ ⟨b6, (c4), hfr, o5, o3, p5, i4, j4, u4, d3, z4, i3, c5, d5⟩
    ·clear hx
     obtain ⟨c9, x6, hfr, z6, a7, c7, d7, e7, k6, l6, m6, n6, o6, p6⟩ := hR
     refine E_region (EL_in (.int .i64 ((w64 (j0 + (1 : Int))))) p6 rfl rfl rfl ?_)
     refine EL_mw (.int .i64 ((w64 (j0 + (1 : Int))))) rfl rfl ?_
     exact EL_nil (thn_n (e8 (p3, (w64 (j0 + (1 : Int)))) _ _ ⟨c9, (x6), hfr, z6, a7, c7, d7, e7, k6, l6, m6, n6, o6, rfl⟩ h))
   ·refine E_cf y5 rfl ?_
    refine E_exit ?_
    refine thn_e ?_
    refine thn_e ?_
    refine blk_hit ?_
    obtain rfl := sinj h
    exact hQ _ _ ⟨u6, (c4), hfr, l5, z1, j2⟩
  ·clear hx
   obtain ⟨iA, q5, hfr, i7, j7, g9⟩ := hR
   refine E_seq (E_region (EL_mv i7 rfl ?_))
   refine EL_at q5 rfl rfl ?_
   refine EL_at (.int .i64 (0)) rfl rfl ?_
   refine EL_nil (thn_n (E_ret ?_))
   obtain rfl := sinj h
   exact end2 rfl rfl (show _ = q5 from rfl) (show _ = .int .i64 (0) from rfl) ⟨_, hfr, _, _, rfl, j7, rfl⟩
theorem v67_0 {iO : Nat} {gI : Gh} {wI : World} {x0 : List LoomRun} {up0 : Value} (rp0 : RV gI.m wI x0 up0) {r : List LoomRun} (h : f67 x0 = some r) : FnG Try.prog 67 #[up0] gI wI (fun g w v => OM iO g w 76 r v) := by
 unfold f67 at h
 refine fnG_of_E Try.func67 rfl (Nat.le_of_ble_eq_true rfl) fun g0 hm hfr => ?_
 have rp0 : RV g0.m wI x0 up0 := hm ▸ rp0
 show E _ 8 none _ _ _ _ _
 refine E_seq (E_region (EL_at (.slice none 0 0) rfl rfl (EL_nil (thn_n ?_))))
 refine E_seq (E_seq (E_region (EL_mw up0 rfl rfl ?_)))
 obtain ⟨a, c, hv, hc, hrow⟩ := RV_list rp0
 refine EL_pur (v := .bool a.isNone) (P_slnil Try.underlying31 (show ev _ _ = _ from hv)) .plain rfl (EL_nil (thn_n ?_))
 cases a with
 | none =>
  have hx : x0 = [] := by
   cases x0 with
   | nil => rfl
   | cons y ys => obtain ⟨b, off, hb, _⟩ := hrow (by simp); cases hb
  subst hx
  have hr : r = [] := by unfold apnd at h; split at h <;> simp at h; exact h
  subst hr
  refine E_cond_true rfl (E_seq (E_region ?_))
  refine EL_at (.slice none 0 0) rfl rfl (EL_nil (thn_n ?_))
  obtain ⟨gh, hxh, homh⟩ := OM.handn (i := iO) (t := 76) (α := LoomRun) hfr; exact E_ret (thn_r (end1 rfl rfl (show _ = .slice none 0 0 from rfl) ⟨gh, hxh, homh⟩))
 | some a =>
  refine E_cond_false rfl (E_skip (thn_n ?_))
  refine E_seq (E_region (EL_do .plain rfl (D_buildSlice (g := g0) 1 (xs := ([] : List LoomRun)) (vs := []) Try.underlying31 Try.sizeOf76 Try.zeroValue76 rfl rfl .nil RVs.nil rfl rfl fun g1 w1 v1 hs o1 r1 hxt hfl => ?_)))
  have hfr := hfr.stp hs
  have rp0 := rp0.stp hs
  refine EL_mw up0 rfl rfl ?_
  refine EL_do .plain rfl (D_append (g := g1) (i := 1) Try.underlying31 info_76 rfl rfl o1 r1 rfl rp0 h fun g2 w2 v2 hs o2 r2 _ => ?_)
  have hfr := hfr.stp hs
  refine EL_at v2 rfl rfl (EL_nil (thn_n ?_))
  obtain ⟨gh, hxh, homh⟩ := OM.hand (i := iO) plain_LoomRun hfr o2 r2; exact E_ret (end1 rfl rfl (show _ = v2 from rfl) ⟨gh, hxh, homh⟩)
/-- griffe/loom.Holds -/
def f40 (x0 : LoomMill) (x1 : List LoomOrder) (x2 : List LoomRun) : Option (Int × Int) :=
 (f50 x0 x1).bind fun y4 =>
 jn (σ := Unit) (fun (_ : Unit) =>
  (f78 (y4.1) x2).bind fun j0 =>
  some (j0.1, j0.2)
  ) fun k8 =>
 bif (y4.2 != (0 : Int)) then
  some ((0 : Int), y4.2)
 else
  k8 ()
theorem en40 : Enters Try.prog 40 := enters_of Try.func40 (by kernel_rfl) rfl
theorem wk40 {gI : Gh} {wI : World} {x0 : LoomMill} {x1 : List LoomOrder} {x2 : List LoomRun} {up0 : Value} (rp0 : RV gI.m wI x0 up0) {up1 : Value} (rp1 : RV gI.m wI x1 up1) {up2 : Value} (rp2 : RV gI.m wI x2 up2) {r : Int × Int} (h : f40 x0 x1 x2 = some r) : Fn Try.prog 40 #[up0, up1, up2] gI wI (fun m w v => ∃ y0 y1, v = .tuple #[y0, y1] ∧ y0 = .int .i64 (r.1) ∧ y1 = .int .i64 (r.2)) := by
 unfold f40 at h
 refine fn_of_E Try.func40 rfl (Nat.le_of_ble_eq_true rfl) fun g0 hm hfr => ?_
 have rp0 : RV g0.m wI x0 up0 := hm ▸ rp0
 have rp1 : RV g0.m wI x1 up1 := hm ▸ rp1
 have rp2 : RV g0.m wI x2 up2 := hm ▸ rp2
 show E _ 23 none _ _ _ _ _
 refine E_seq (E_region (EL_do .plain rfl (D_box (g := g0) rfl rp0 fun g1 w1 p1 hs q1 => ?_)))
 have hfr := hfr.ext hs
 have rp1 := rp1.ext hs
 have rp2 := rp2.ext hs
 refine EL_at (.int .i64 (0)) rfl rfl ?_
 refine EL_at (.int .i64 (0)) rfl rfl ?_
 refine EL_nil (thn_n (E_seq (E_region (EL_do .plain rfl (D_load (g := g1) Try.isAgg24 Try.sizeOf24 rfl q1 fun v2 r2 => ?_)))))
 refine EL_mw up1 rfl rfl ?_
 obtain ⟨y4, o3, h⟩ := bsome h
 refine EL_do .plain rfl (D_call (g := g1) (vs := [v2, up1]) en50 (.cons rfl (.cons rfl .nil)) (wk50 r2 rp1 o3) fun g3 w3_ v3 hs hr => ?_)
 have hfr := hfr.ext hs
 have rp2 := rp2.ext hs
 obtain ⟨o0, i4, rfl, u0, rfl⟩ := hr
 refine EL_mw (.tuple #[o0, .int .i64 (y4.2)]) rfl rfl ?_
 refine EL_pur (v := o0) (P_extract rfl rfl) .plain rfl ?_
 refine EL_pur (v := .int .i64 (y4.2)) (P_extract rfl rfl) .plain rfl ?_
 refine EL_do .plain rfl (D_allocOc (g := g3) 2008 (⟨⟨[], 0⟩, []⟩ : LoomLoomMill) Try.zeroValue96 (fun m w => ⟨_, (rep_two (rep_two rep_nil rep_int) rep_nil), rfl⟩) fun g5 w5 p5 hs b5 cb => ?_)
 have hfr := hfr.stp hs
 have rp2 := rp2.stp hs
 have u0 := u0.stp hs
 have j4 : OSF 2008 60800 0 g5 w5 3 96 ([] : List Int) p5 := cb.osf (by rfl)
 have m4 : OSF 2008 60802 2 g5 w5 82 96 ([] : List LoomOrder) p5 := cb.osf (by rfl)
 clear cb
 refine EL_do .plain rfl (D_storeOc (g := g5) (v := o0) Try.sizeOf96 rfl b5 rfl u0 fun g6 w6 hs b6 cb => ?_)
 clear cb
 have hfr := hfr.stp hs
 have rp2 := rp2.stp hs
 refine EL_at (.int .i64 (y4.2)) rfl rfl ?_
 refine EL_nil (thn_n (E_joinC h (fun (s : Unit) e w => ∃ (g : Gh) , Fr gI wI g w ∧ e 2 = up2 ∧ RV g.m w (x2 : List LoomRun) up2 ∧ e 8 = p5 ∧ OB 2008 g w 96 (y4.1 : LoomLoomMill) p5) (fun X8 k8 p3 h => ?_) ?_))
 ·refine E_seq (E_region (EL_mw (.int .i64 (y4.2)) rfl rfl ?_))
  refine EL_in (.bool ((y4.2 != (0 : Int)))) rfl rfl rfl rfl ?_
  refine EL_nil (thn_n ?_)
  rcases csome h with ⟨j1, h⟩ | ⟨j1, h⟩
  ·refine E_ct j1 rfl ?_
   refine E_seq (E_region (EL_mw (.int .i64 (y4.2)) rfl rfl ?_))
   refine EL_at (.int .i64 (0)) rfl rfl ?_
   refine EL_at (.int .i64 (y4.2)) rfl rfl ?_
   refine EL_nil (thn_n (E_ret (thn_r ?_)))
   obtain rfl := sinj h
   exact end2 rfl rfl (show _ = .int .i64 (0) from rfl) (show _ = .int .i64 (y4.2) from rfl) ⟨_, hfr, _, _, rfl, rfl, rfl⟩
  ·refine E_cf j1 rfl ?_
   exact E_skip (thn_n (p3 () _ _ ⟨g6, hfr, rfl, rp2, rfl, b6⟩ h))
 ·rintro _ n4 p4 ⟨i3, hfr, z1, j2, z2, d3⟩ h
  refine E_seq (E_region (EL_do .plain rfl (D_loadO (g := i3) Try.isAgg96 Try.sizeOf96 z2 d3 fun u3 z3 => ?_)))
  refine EL_mv z1 rfl ?_
  obtain ⟨j0, j3, h⟩ := bsome h
  refine EL_do .plain rfl (D_call (g := i3) (vs := [u3, up2]) en78 (.cons rfl (.cons rfl .nil)) (wk78 z3 j2 j3) fun u4 o4 x4 hs hr => ?_)
  have hfr := hfr.ext hs
  obtain ⟨c4, d4, rfl, rfl, rfl⟩ := hr
  refine EL_pur (v := .int .i64 (j0.1)) (P_extract rfl rfl) .plain rfl ?_
  refine EL_pur (v := .int .i64 (j0.2)) (P_extract rfl rfl) .plain rfl ?_
  refine EL_at (.int .i64 (j0.1)) rfl rfl ?_
  refine EL_at (.int .i64 (j0.2)) rfl rfl ?_
  refine EL_nil (thn_n (E_ret ?_))
  obtain rfl := sinj h
  exact end2 rfl rfl (show _ = .int .i64 (j0.1) from rfl) (show _ = .int .i64 (j0.2) from rfl) ⟨_, hfr, _, _, rfl, rfl, rfl⟩
theorem v48_0 {iO : Nat} {gI : Gh} {wI : World} {x0 : Int} {x1 : Int}  {r : (List LoomOrder)} (h : f48 x0 x1 = some r) : FnG Try.prog 48 #[.int .i64 (x0), .int .i64 (x1)] gI wI (fun g w v => OM iO g w 82 (r) v) := by
 unfold f48 at h
 refine fnG_of_E Try.func48 rfl (Nat.le_of_ble_eq_true rfl) fun g0 hm hfr => ?_
 show E _ 11 none _ _ _ _ _
 refine E_seq (E_region (EL_at (.slice none 0 0) rfl rfl ?_))
 refine EL_nil (thn_n (E_seq (E_region ?_)))
 have r1 : RV g0.m wI (⟨(5 : Int), (1 : Int), (10 : Int), 0, (20 : Int)⟩ : LoomOrder) (.agg (setCh [[.int .i64 0], [.int .i64 0], [.int .i64 0], [.int .i64 0], [.int .i64 0]] [(0, .int .i64 (5)), (1, .int .i64 (1)), (2, .int .i64 (10)), (4, .int .i64 (20))]).flatten.toArray) := RV_build rfl (rep_pair (rfl) (rep_pair (rfl) (rep_pair (rfl) (rep_pair (rep_int) (rep_last (rfl))))))
 generalize hv1 : (Value.agg (setCh [[.int .i64 0], [.int .i64 0], [.int .i64 0], [.int .i64 0], [.int .i64 0]] [(0, .int .i64 (5)), (1, .int .i64 (1)), (2, .int .i64 (10)), (4, .int .i64 (20))]).flatten.toArray) = v1 at r1
 refine EL_pur (v := v1) (hv1 ▸ P_build (vs := [(0, .int .i64 (5)), (1, .int .i64 (1)), (2, .int .i64 (10)), (4, .int .i64 (20))]) [[.int .i64 0], [.int .i64 0], [.int .i64 0], [.int .i64 0], [.int .i64 0]] lay_82 rfl rfl (.cons rfl (.cons rfl (.cons rfl (.cons rfl .nil)))) ⟨⟨_, rfl, rfl⟩, ⟨⟨_, rfl, rfl⟩, ⟨⟨_, rfl, rfl⟩, ⟨⟨_, rfl, rfl⟩, trivial⟩⟩⟩⟩) .plain rfl ?_
 have r2 : RV g0.m wI (⟨(15 : Int), (2 : Int), (12 : Int), 0, (20 : Int)⟩ : LoomOrder) (.agg (setCh [[.int .i64 0], [.int .i64 0], [.int .i64 0], [.int .i64 0], [.int .i64 0]] [(0, .int .i64 (15)), (1, .int .i64 (2)), (2, .int .i64 (12)), (4, .int .i64 (20))]).flatten.toArray) := RV_build rfl (rep_pair (rfl) (rep_pair (rfl) (rep_pair (rfl) (rep_pair (rep_int) (rep_last (rfl))))))
 generalize hv2 : (Value.agg (setCh [[.int .i64 0], [.int .i64 0], [.int .i64 0], [.int .i64 0], [.int .i64 0]] [(0, .int .i64 (15)), (1, .int .i64 (2)), (2, .int .i64 (12)), (4, .int .i64 (20))]).flatten.toArray) = v2 at r2
 refine EL_pur (v := v2) (hv2 ▸ P_build (vs := [(0, .int .i64 (15)), (1, .int .i64 (2)), (2, .int .i64 (12)), (4, .int .i64 (20))]) [[.int .i64 0], [.int .i64 0], [.int .i64 0], [.int .i64 0], [.int .i64 0]] lay_82 rfl rfl (.cons rfl (.cons rfl (.cons rfl (.cons rfl .nil)))) ⟨⟨_, rfl, rfl⟩, ⟨⟨_, rfl, rfl⟩, ⟨⟨_, rfl, rfl⟩, ⟨⟨_, rfl, rfl⟩, trivial⟩⟩⟩⟩) .plain rfl ?_
 refine EL_mw (.int .i64 (x0)) rfl rfl ?_
 refine EL_mw (.int .i64 (x1)) rfl rfl ?_
 have r3 : RV g0.m wI (⟨(5 : Int), x0, x1, 0, (20 : Int)⟩ : LoomOrder) (.agg (setCh [[.int .i64 0], [.int .i64 0], [.int .i64 0], [.int .i64 0], [.int .i64 0]] [(0, .int .i64 (5)), (1, .int .i64 (x0)), (2, .int .i64 (x1)), (4, .int .i64 (20))]).flatten.toArray) := RV_build rfl (rep_pair (rfl) (rep_pair (rfl) (rep_pair (rfl) (rep_pair (rep_int) (rep_last (rfl))))))
 generalize hv3 : (Value.agg (setCh [[.int .i64 0], [.int .i64 0], [.int .i64 0], [.int .i64 0], [.int .i64 0]] [(0, .int .i64 (5)), (1, .int .i64 (x0)), (2, .int .i64 (x1)), (4, .int .i64 (20))]).flatten.toArray) = v3 at r3
 refine EL_pur (v := v3) (hv3 ▸ P_build (vs := [(0, .int .i64 (5)), (1, .int .i64 (x0)), (2, .int .i64 (x1)), (4, .int .i64 (20))]) [[.int .i64 0], [.int .i64 0], [.int .i64 0], [.int .i64 0], [.int .i64 0]] lay_82 rfl rfl (.cons rfl (.cons rfl (.cons rfl (.cons rfl .nil)))) ⟨⟨_, rfl, rfl⟩, ⟨⟨_, rfl, rfl⟩, ⟨⟨_, rfl, rfl⟩, ⟨⟨_, rfl, rfl⟩, trivial⟩⟩⟩⟩) .plain rfl ?_
 refine EL_do .plain rfl (D_buildSlice (g := g0) 3010 (xs := ([(⟨(5 : Int), (1 : Int), (10 : Int), 0, (20 : Int)⟩ : LoomOrder), (⟨(15 : Int), (2 : Int), (12 : Int), 0, (20 : Int)⟩ : LoomOrder), (⟨(5 : Int), x0, x1, 0, (20 : Int)⟩ : LoomOrder)] : List LoomOrder)) (vs := [v1, v2, v3]) Try.underlying25 Try.sizeOf82 Try.zeroValue82 rfl rfl (.cons rfl (.cons rfl (.cons rfl .nil))) (RVs.cons r1 (RVs.cons r2 (RVs.cons r3 RVs.nil))) rfl rfl fun g4 w4 v4 hs o4 r4 hxt hfl => ?_)
 have hfr := hfr.stp hs
 refine EL_at v4 rfl rfl ?_
 refine EL_nil (thn_n (E_ret ?_))
 obtain rfl := sinj h
 obtain ⟨gh, hxh, homh⟩ := OM.hand (i := iO) plain_LoomOrder hfr o4 r4
 exact end1 rfl rfl (show _ = v4 from rfl) ⟨gh, hxh, homh⟩
/-- griffe/loom.Push -/
def f34 (x0 : LoomMill) (x1 : List LoomOrder) (x2 : List LoomRun) (x3 : LoomStop) : Option ((List LoomRun) × (List Int) × Int) :=
 (f65 x0 x1 x2 x3).bind fun y7 =>
 jn (σ := (List Int)) (fun c4 =>
  (f67 x2).bind fun tE =>
  Option.bind (α := (List LoomRun)) (
   (f68 x2 ((x3).Loom)).bind fun m4 =>
   lp (σ := (List LoomRun) × Int × Int) (fun bB (x4, i5, j2) =>
    bif (decide (j2 < ((m4).length : Int))) then
     Option.bind (α := (List LoomRun) × Int) (
      (idx m4 j2).bind fun j0 =>
      (idx x4 j0).bind fun x5 =>
      Option.bind (α := (List LoomRun)) (
       (epok x4 i5).bind fun j9 =>
       bif j9 then
        (idx x4 i5).bind fun cB =>
        (f69 ((y7.1).mill) cB ((x5).Order)).bind fun g7 =>
        some ((List.set x4 (Int.toNat j0) ({ x5 with From := (max64 (x5).From g7) })))
       else
        some (x4)
       ) fun j5 =>
      Option.bind (α := (List LoomRun)) (
       (idx j5 j0).bind fun dB =>
       (f66 (y7.1) dB).bind fun d8 =>
       bif d8 then
        (idx j5 j0).bind fun eB =>
        some ((List.set j5 (Int.toNat j0) ({ eB with From := (w64 (((x3).Days).High + (1 : Int))) })))
       else
        some (j5)
       ) fun i7 =>
      some (i7, j0)
      ) fun (o6, j6) =>
     bB (o6, j6, (w64 (j2 + (1 : Int))))
    else
     some (x4)
    ) big (tE, (-1), (0 : Int))
   ) fun y5 =>
  jn (σ := (List LoomRun) × (List Int)) (fun (i3, t8) =>
   Option.bind (α := (List Int)) (
    lp (σ := (List Int) × Int) (fun iB (p6, p3) =>
     bif (decide (p3 < ((i3).length : Int))) then
      Option.bind (α := (List Int)) (
       (idx i3 p3).bind fun q5 =>
       (f73 ((y7.1).mill) q5).bind fun j7 =>
       (idx x1 (q5).Order).bind fun e8 =>
       bif (decide (j7 > (e8).Late)) then
        (apnd 8 p6 (([(q5).Order] : List Int))).bind fun jB =>
        some (jB)
       else
        some (p6)
       ) fun z5 =>
      iB (z5, (w64 (p3 + (1 : Int))))
     else
      some (p6)
     ) big (t8, (0 : Int))
    ) fun q6 =>
   some (i3, q6, (0 : Int))
   ) fun kB =>
  (f72 y5 ((fun a0 => f70 a0))).bind fun lB =>
  bif lB then
   some (([] : List LoomRun), [], (8 : Int))
  else
   kB (y5, c4)
  ) fun uE =>
 bif (y7.2 != (0 : Int)) then
  some (([] : List LoomRun), [], y7.2)
 else
  uE ([])
theorem en34 : Enters Try.prog 34 := enters_of Try.func34 (by kernel_rfl) rfl
theorem wk34 {gI : Gh} {wI : World} {x0 : LoomMill} {x1 : List LoomOrder} {x2 : List LoomRun} {x3 : LoomStop} {up0 : Value} (rp0 : RV gI.m wI x0 up0) {up1 : Value} (rp1 : RV gI.m wI x1 up1) {up2 : Value} (rp2 : RV gI.m wI x2 up2) {up3 : Value} (rp3 : RV gI.m wI x3 up3) {r : (List LoomRun) × (List Int) × Int} (h : f34 x0 x1 x2 x3 = some r) : Fn Try.prog 34 #[up0, up1, up2, up3] gI wI (fun m w v => ∃ y0 y1 y2, v = .tuple #[y0, y1, y2] ∧ RV m w (r.1) y0 ∧ RV m w (r.2.1) y1 ∧ y2 = .int .i64 (r.2.2)) := by
 unfold f34 at h
 refine fn_of_E Try.func34 rfl (Nat.le_of_ble_eq_true rfl) fun g0 hm hfr => ?_
 have rp0 : RV g0.m wI x0 up0 := hm ▸ rp0
 have rp1 : RV g0.m wI x1 up1 := hm ▸ rp1
 have rp2 : RV g0.m wI x2 up2 := hm ▸ rp2
 have rp3 : RV g0.m wI x3 up3 := hm ▸ rp3
 show E _ 106 none _ _ _ _ _
 refine E_seq (E_region (EL_do .plain rfl (D_box (g := g0) rfl rp0 fun g1 w1 p1 hs q1 => ?_)))
 have hfr := hfr.ext hs
 have rp1 := rp1.ext hs
 have rp2 := rp2.ext hs
 have rp3 := rp3.ext hs
 refine EL_do .plain rfl (D_box (g := g1) rfl rp3 fun g2 w2 p2 hs q2 => ?_)
 have hfr := hfr.ext hs
 have rp1 := rp1.ext hs
 have rp2 := rp2.ext hs
 have q1 := q1.ext hs
 refine EL_at (.slice none 0 0) rfl rfl ?_
 have b3 : OA 4008 g2 w2 76 ([] : List LoomRun) (.slice none 0 0) := OA.nil
 refine EL_at (.slice none 0 0) rfl rfl ?_
 refine EL_at (.int .i64 (0)) rfl rfl ?_
 refine EL_nil (thn_n (E_seq (E_region (EL_do .plain rfl (D_load (g := g2) Try.isAgg24 Try.sizeOf24 rfl q1 fun v4 r4 => ?_)))))
 refine EL_mw up1 rfl rfl ?_
 refine EL_mw up2 rfl rfl ?_
 refine EL_do .plain rfl (D_load (g := g2) Try.isAgg54 Try.sizeOf54 rfl q2 fun v5 r5 => ?_)
 obtain ⟨y7, mG, h⟩ := bsome h
 refine EL_do .plain rfl (D_call (g := g2) (vs := [v4, up1, up2, v5]) en65 (.cons rfl (.cons rfl (.cons rfl (.cons rfl .nil)))) (wk65 r4 rp1 rp2 r5 mG) fun g6 w6_ v6 hs hr => ?_)
 have hfr := hfr.ext hs
 have rp1 := rp1.ext hs
 have rp2 := rp2.ext hs
 have q2 := q2.ext hs
 obtain ⟨k9, aH, rfl, l9, rfl⟩ := hr
 refine EL_mw (.tuple #[k9, .int .i64 (y7.2)]) rfl rfl ?_
 refine EL_pur (v := k9) (P_extract rfl rfl) .plain rfl ?_
 refine EL_pur (v := .int .i64 (y7.2)) (P_extract rfl rfl) .plain rfl ?_
 refine EL_do .plain rfl (D_allocOc (g := g6) 2011 (⟨⟨⟨[], 0⟩, []⟩, ⟨0, ⟨0, 0⟩⟩⟩ : LoomStill) Try.zeroValue113 (fun m w => ⟨_, (rep_two (rep_two (rep_two rep_nil rep_int) rep_nil) (rep_two rep_int (rep_two rep_int rep_int))), rfl⟩) fun g8 w8 p8 hs b8 cb => ?_)
 have hfr := hfr.stp hs
 have rp1 := rp1.stp hs
 have rp2 := rp2.stp hs
 have q2 := q2.stp hs
 have l9 := l9.stp hs
 have bH : OSF 2011 61100 0 g8 w8 3 113 ([] : List Int) p8 := cb.osf (by rfl)
 have cH : OSF 2011 61102 2 g8 w8 82 113 ([] : List LoomOrder) p8 := cb.osf (by rfl)
 clear cb
 refine EL_do .plain rfl (D_storeOc (g := g8) (v := k9) Try.sizeOf113 rfl b8 rfl l9 fun g9 w9 hs b9 cb => ?_)
 clear cb
 have hfr := hfr.stp hs
 have rp1 := rp1.stp hs
 have rp2 := rp2.stp hs
 have q2 := q2.stp hs
 refine EL_at (.int .i64 (y7.2)) rfl rfl ?_
 refine EL_nil (thn_n (E_joinC h (fun (s : (List Int)) e w => ∃ (g : Gh) (v9 : Value), Fr gI wI g w ∧ e 1 = up1 ∧ RV g.m w (x1 : List LoomOrder) up1 ∧ e 2 = up2 ∧ RV g.m w (x2 : List LoomRun) up2 ∧ e 7 = p2 ∧ PT g.m w (x3 : LoomStop) p2 ∧ e 9 = v9 ∧ RV g.m w (s : List Int) v9 ∧ OS 1009 g w 3 (s : List Int) v9 ∧ e 11 = p8 ∧ OB 2011 g w 113 (y7.1 : LoomStill) p8) (fun X13 uE xE h => ?_) ?_))
 ·refine E_seq (E_region (EL_mw (.int .i64 (y7.2)) rfl rfl ?_))
  refine EL_in (.bool ((y7.2 != (0 : Int)))) rfl rfl rfl rfl ?_
  refine EL_nil (thn_n ?_)
  rcases csome h with ⟨m9, h⟩ | ⟨m9, h⟩
  ·refine E_ct m9 rfl ?_
   refine E_seq (E_region (EL_mw (.int .i64 (y7.2)) rfl rfl ?_))
   refine EL_at (.slice none 0 0) rfl rfl ?_
   have b15 : OA 4008 g9 w9 76 ([] : List LoomRun) (.slice none 0 0) := OA.nil
   refine EL_at (.slice none 0 0) rfl rfl ?_
   refine EL_at (.int .i64 (y7.2)) rfl rfl ?_
   refine EL_nil (thn_n (E_ret (thn_r ?_)))
   obtain ⟨gp16, hs, rp16⟩ := OM.pub (b15.toM)
   have hfr := hfr.stp hs
   obtain rfl := sinj h
   exact end3 rfl rfl (show _ = .slice none 0 0 from rfl) (show _ = .slice none 0 0 from rfl) (show _ = .int .i64 (y7.2) from rfl) ⟨_, hfr, _, _, _, rfl, rp16, RV_nil, rfl⟩
  ·refine E_cf m9 rfl ?_
   exact E_skip (thn_n (xE ([]) _ _ ⟨g9, (.slice none 0 0), hfr, rfl, rp1, rfl, rp2, rfl, q2, rfl, RV_nil, OS.nil, rfl, b9⟩ h))
 ·rintro c4 dH uI ⟨nG, d3, hfr, tD, r6, r9, e7, t9, t5, uD, t6, u6, mB, b6⟩ h
  refine E_seq (E_region (EL_mv r9 rfl ?_))
  obtain ⟨tE, yE, h⟩ := bsome h
  refine EL_do .plain rfl (D_callG (g := nG) (vs := [up2]) en67 (.cons rfl .nil) (v67_0 (iO := 9031) e7 yE) fun vE gH o0 hs hr => ?_)
  have hfr := hfr.ext hs
  have r6 := r6.ext hs
  have e7 := e7.ext hs
  have t5 := t5.ext hs
  have t6 := t6.ext hs
  have u6 := u6.ext hs
  have b6 := b6.ext hs
  have hm18 := hr
  refine EL_at o0 rfl rfl ?_
  refine EL_nil (thn_n (E_seq (E_region (EL_pur (v := epV o0 (-1) 3) (P_assign (rfl.trans epV_nil)) .plain rfl ?_))))
  refine EL_nil (thn_n ?_)
  obtain ⟨y5, hx, h⟩ := bsome h
  refine E_join (fun e w => ∃ (g : Gh) , Fr gI wI g w ∧ e 1 = up1 ∧ RV g.m w (x1 : List LoomOrder) up1 ∧ e 8 = o0 ∧ OM 9031 g w 76 (y5 : List LoomRun) o0 ∧ e 9 = d3 ∧ RV g.m w (c4 : List Int) d3 ∧ OS 1009 g w 3 (c4 : List Int) d3 ∧ e 11 = p8 ∧ OB 2011 g w 113 (y7.1 : LoomStill) p8) (fun Q' hQ => ?_) (fun pG iH hR => ?_)
  ·replace h := hx
   clear hx
   refine E_seq (E_region (EL_mv r9 rfl ?_))
   refine EL_pur (v := fPtr p2 0) (P_fieldAddr at_54_0 t9 (PT.ptr t5)) .plain rfl ?_
   have zE := PT_field (part_LoomStop_0).1 t5
   refine EL_do .plain rfl (D_load (g := vE) Try.isAgg3 Try.sizeOf3 rfl zE fun jH aF => ?_)
   obtain rfl := RV_int.1 aF
   obtain ⟨m4, vD, h⟩ := bsome h
   refine EL_do .plain rfl (D_call (g := vE) (vs := [up2, .int .i64 ((x3).Loom)]) en68 (.cons rfl (.cons rfl .nil)) (wk68 e7 vD) fun bF qG u5 hs hr => ?_)
   have hfr := hfr.ext hs
   have r6 := r6.ext hs
   have t5 := t5.ext hs
   have t6 := t6.ext hs
   have u6 := u6.ext hs
   have b6 := b6.ext hs
   have hm18 := hm18.ext hs
   have nB := hr
   refine EL_pur (v := .int .i64 ((m4).length : Int)) (P_len Try.underlying22 rfl nB) .plain rfl ?_
   refine EL_mw (.int .i64 (0)) rfl rfl ?_
   refine EL_nil (thn_n (E_block ?_))
   refine E_lp h (fun (s : (List LoomRun) × Int × Int) e w => ∃ (g : Gh) , Fr gI wI g w ∧ e 1 = up1 ∧ RV g.m w (x1 : List LoomOrder) up1 ∧ e 7 = p2 ∧ PT g.m w (x3 : LoomStop) p2 ∧ e 8 = o0 ∧ OM 9031 g w 76 (s.1 : List LoomRun) o0 ∧ e 9 = d3 ∧ RV g.m w (c4 : List Int) d3 ∧ OS 1009 g w 3 (c4 : List Int) d3 ∧ e 11 = p8 ∧ OB 2011 g w 113 (y7.1 : LoomStill) p8 ∧ e 12 = epV o0 (s.2.1) 3 ∧ e 35 = u5 ∧ RV g.m w (m4 : List Int) u5 ∧ e 36 = .int .i64 (((m4).length : Int)) ∧ e 37 = .int .i64 (s.2.2)) ⟨bF, hfr, tD, r6, t9, t5, rfl, hm18, uD, t6, u6, mB, b6, rfl, rfl, nB, rfl, rfl⟩ (fun X400 bB xD => ?_)
   rintro ⟨x4, i5, j2⟩ rG kH ⟨i8, hfr, m7, z4, x8, l5, x6, u0, n7, c5, d5, k6, d4, v7, y6, i4, z6, l6⟩ h
   refine E_seq (E_region (EL_in (.bool ((decide (j2 < ((m4).length : Int))))) l6 z6 rfl rfl ?_))
   refine EL_nil (thn_n (E_seq ?_))
   rcases csome h with ⟨j8, h⟩ | ⟨j8, h⟩
   ·refine E_ct j8 rfl ?_
    refine E_skip (thn_n ?_)
    obtain ⟨⟨o6, j6⟩, hx, h⟩ := bsome h
    refine E_join (fun e w => ∃ (g : Gh) , Fr gI wI g w ∧ e 1 = up1 ∧ RV g.m w (x1 : List LoomOrder) up1 ∧ e 7 = p2 ∧ PT g.m w (x3 : LoomStop) p2 ∧ e 8 = o0 ∧ OM 9031 g w 76 (o6 : List LoomRun) o0 ∧ e 9 = d3 ∧ RV g.m w (c4 : List Int) d3 ∧ OS 1009 g w 3 (c4 : List Int) d3 ∧ e 11 = p8 ∧ OB 2011 g w 113 (y7.1 : LoomStill) p8 ∧ e 12 = epV o0 j6 3 ∧ e 35 = u5 ∧ RV g.m w (m4 : List Int) u5 ∧ e 36 = .int .i64 (((m4).length : Int)) ∧ e 37 = .int .i64 (j2)) (fun Q' hQ => ?_) (fun sG lH hR => ?_)
    ·replace h := hx
     clear hx
     refine E_block ?_
     refine E_seq (E_region ?_)
     obtain ⟨j0, u9, h⟩ := bsome h
     refine EL_pur (v := ePtr u5 j2 1) (P_indexAddr (α := Int) Try.underlying22 Try.sizeOf3 y6 i4 l6 u9) .plain rfl ?_
     have cF := PT_idx i4 u9
     refine EL_do .plain rfl (D_load (g := i8) Try.isAgg3 Try.sizeOf3 rfl cF fun mH dF => ?_)
     obtain rfl := RV_int.1 dF
     refine EL_at (.int .i64 (j0)) rfl rfl ?_
     refine EL_nil (thn_n (E_seq (E_region (EL_mv x6 rfl ?_))))
     refine EL_mw (.int .i64 (j0)) rfl rfl ?_
     obtain ⟨x5, j4, h⟩ := bsome h
     refine EL_pur (v := ePtr o0 j0 3) (P_indexAddrM (α := LoomRun) Try.underlying31 Try.sizeOf76 rfl u0 rfl j4) .plain rfl ?_
     refine EL_at (ePtr o0 j0 3) rfl rfl ?_
     refine EL_nil (thn_n ?_)
     obtain ⟨j5, hx, h⟩ := bsome h
     refine E_join (fun e w => ∃ (g : Gh) , Fr gI wI g w ∧ e 1 = up1 ∧ RV g.m w (x1 : List LoomOrder) up1 ∧ e 7 = p2 ∧ PT g.m w (x3 : LoomStop) p2 ∧ e 8 = o0 ∧ OM 9031 g w 76 (j5 : List LoomRun) o0 ∧ e 9 = d3 ∧ RV g.m w (c4 : List Int) d3 ∧ OS 1009 g w 3 (c4 : List Int) d3 ∧ e 11 = p8 ∧ OB 2011 g w 113 (y7.1 : LoomStill) p8 ∧ e 15 = ePtr o0 j0 3 ∧ e 35 = u5 ∧ RV g.m w (m4 : List Int) u5 ∧ e 36 = .int .i64 (((m4).length : Int)) ∧ e 37 = .int .i64 (j2)) (fun Q' hQ => ?_) (fun tG nH hR => ?_)
     ·replace h := hx
      clear hx
      refine E_seq (E_region (EL_mv v7 rfl ?_))
      obtain ⟨j9, yD, h⟩ := bsome h
      refine EL_pur (v := .bool (j9)) (P_epne Try.underlying116 u0 rfl rfl yD) .plain rfl ?_
      refine EL_nil (thn_n ?_)
      rcases csome h with ⟨k8, h⟩ | ⟨k8, h⟩
      ·refine E_ct k8 rfl ?_
       obtain ⟨pb652, po652, pe652⟩ := OM.ptrE (k := 3) u0 j4
       obtain ⟨pb654, po654, pe654⟩ := OM.ptrE (k := 3) u0 j4
       refine L_loadMF (x := .tmp 49) part_LoomRun_2.1 Try.isAgg3 Try.sizeOf3 u0 j4 fun oH eF zD => ?_
       obtain rfl := RV_int.1 eF
       refine L_loadO (x := .tmp 51) part_LoomStill_0.1 Try.isAgg96 Try.sizeOf96 d4 fun oB gF aE => ?_
       obtain ⟨cB, l8, h⟩ := bsome h
       obtain ⟨pb659, po659, pe659⟩ := OM.ptrE (k := 3) u0 l8
       refine L_loadM (x := .tmp 54) Try.isAgg76 Try.sizeOf76 u0 l8 fun pB iF bE => ?_
       obtain ⟨pb661, po661, pe661⟩ := OM.ptrE (k := 3) u0 j4
       obtain ⟨pb663, po663, pe663⟩ := OM.ptrE (k := 3) u0 j4
       refine L_loadMF (x := .tmp 58) part_LoomRun_0.1 Try.isAgg3 Try.sizeOf3 u0 j4 fun pH jF cE => ?_
       obtain rfl := RV_int.1 jF
       obtain ⟨g7, dE, h⟩ := bsome h
       obtain ⟨pb667, po667, pe667⟩ := OM.ptrE (k := 3) u0 j4
       obtain ⟨pb669, po669, pe669⟩ := OM.ptrE (k := 3) u0 j4
       refine E_drawL (g := i8) (n := 18) [(14, (fun v g w => v = .int .i64 (g7)))] [0, 1, 2, 3, 4, 5, 6, 7, 8, 9, 10, 11, 12, 13, 14, 15, 16, 17] rfl mixed (by kernel_rfl) (⟨fun _ => up_eq _, trivial⟩) ?_
       refine L_pur (c := ePtr o0 j0 3) rfl rfl .plain (fun _ _ hd => P_move rfl) ?_
       refine L_pur (c := ePtr o0 j0 3) rfl rfl .plain (fun _ _ hd => P_move rfl) ?_
       refine L_pur (c := ePtr o0 j0 3) rfl rfl .plain (fun _ _ hd => P_nilCk rfl pe652) ?_
       refine L_pur (c := fPtr (ePtr o0 j0 3) 2) rfl rfl .plain (fun _ _ hd => P_fieldAddr at_76_2 rfl ⟨_, _, pe654⟩) ?_
       refine L_ld (c := .int .i64 ((x5).From)) rfl rfl .plain (fun _ _ h => ⟨h.ch, fun b hb _ => h.below.block b hb⟩) zD rfl ?_
       refine L_pur (c := fPtr p8 0) rfl rfl .plain (fun _ _ hd => P_fieldAddr at_113_0 k6 (OB.ptr d4)) ?_
       refine L_ld (c := oB) rfl rfl .plain (fun _ _ h => ⟨h.ch, fun b hb _ => h.below.block b hb⟩) aE rfl ?_
       refine L_pur (c := epV o0 i5 3) rfl rfl .plain (fun _ _ hd => P_move v7) ?_
       refine L_pur (c := ePtr o0 i5 3) rfl rfl .plain (fun _ _ hd => P_nilCk (rfl.trans (epV_pos l8)) pe659) ?_
       refine L_ld (c := pB) rfl rfl .plain (fun _ _ h => ⟨h.ch, fun b hb _ => h.below.block b hb⟩) bE rfl ?_
       refine L_pur (c := ePtr o0 j0 3) rfl rfl .plain (fun _ _ hd => P_move rfl) ?_
       refine L_pur (c := ePtr o0 j0 3) rfl rfl .plain (fun _ _ hd => P_nilCk rfl pe661) ?_
       refine L_pur (c := fPtr (ePtr o0 j0 3) 0) rfl rfl .plain (fun _ _ hd => P_fieldAddr at_76_0 rfl ⟨_, _, pe663⟩) ?_
       refine L_ld (c := .int .i64 ((x5).Order)) rfl rfl .plain (fun _ _ h => ⟨h.ch, fun b hb _ => h.below.block b hb⟩) cE rfl ?_
       refine L_do (φ := fun v g w => v = .int .i64 (g7)) rfl rfl .plain (fun g w hd => D_call (g := g) (vs := [oB, pB, .int .i64 ((x5).Order)]) en69 (.cons rfl (.cons rfl (.cons rfl .nil))) (wk69 (gF.ext hd.1) (iF.ext hd.1) dE) fun g' w' v hs hr => ⟨g', hs, hr⟩) (fun qH hv => ?_)
       obtain ⟨_, _, _, rfl⟩ := hv
       refine L_pur (c := .int .i64 (max64 (x5).From g7)) rfl rfl .plain (fun _ _ hd => P_max rfl rfl) ?_
       refine L_pur (c := ePtr o0 j0 3) rfl rfl .plain (fun _ _ hd => P_nilCk rfl pe667) ?_
       refine L_pur (c := fPtr (ePtr o0 j0 3) 2) rfl rfl .plain (fun _ _ hd => P_fieldAddr at_76_2 rfl ⟨_, _, pe669⟩) ?_
       refine L_nil fun kF sH hall => ?_
       have hs := hall.1
       have hfr := hfr.ext hs
       have z4 := z4.ext hs
       have l5 := l5.ext hs
       have u0 := u0.ext hs
       have c5 := c5.ext hs
       have d5 := d5.ext hs
       have d4 := d4.ext hs
       have i4 := i4.ext hs
       clear hs hall
       refine EL_do .plain rfl (D_storeMF (g := kF) part_LoomRun_2 Try.sizeOf3 rfl u0 j4 rfl (RV_int.2 rfl) fun lF tH hs b708 => ?_)
       have hfr := hfr.stp hs
       have z4 := z4.stp hs
       have l5 := l5.stp hs
       have c5 := c5.stp hs
       have d5 := d5.stp hs rfl
       have d4 := d4.stp hs rfl
       have i4 := i4.stp hs
       refine EL_nil ?_
       obtain rfl := sinj h
       exact hQ _ _ ⟨lF, hfr, m7, z4, x8, l5, x6, b708, n7, c5, d5, k6, d4, rfl, y6, i4, z6, l6⟩
      ·refine E_cf k8 rfl ?_
       refine E_skip ?_
       obtain rfl := sinj h
       exact hQ _ _ ⟨i8, hfr, m7, z4, x8, l5, x6, u0, n7, c5, d5, k6, d4, rfl, y6, i4, z6, l6⟩
     ·clear hx
      obtain ⟨mF, hfr, y8, m5, o7, o4, z8, p4, a9, n5, o5, a7, n4, m6, x7, u4, a8, c8⟩ := hR
      obtain ⟨i7, hx, h⟩ := bsome h
      refine E_join (fun e w => ∃ (g : Gh) , Fr gI wI g w ∧ e 1 = up1 ∧ RV g.m w (x1 : List LoomOrder) up1 ∧ e 7 = p2 ∧ PT g.m w (x3 : LoomStop) p2 ∧ e 8 = o0 ∧ OM 9031 g w 76 (i7 : List LoomRun) o0 ∧ e 9 = d3 ∧ RV g.m w (c4 : List Int) d3 ∧ OS 1009 g w 3 (c4 : List Int) d3 ∧ e 11 = p8 ∧ OB 2011 g w 113 (y7.1 : LoomStill) p8 ∧ e 15 = ePtr o0 j0 3 ∧ e 35 = u5 ∧ RV g.m w (m4 : List Int) u5 ∧ e 36 = .int .i64 (((m4).length : Int)) ∧ e 37 = .int .i64 (j2)) (fun Q' hQ => ?_) (fun uG uH hR => ?_)
      ·replace h := hx
       clear hx
       refine E_seq (L_loadO0 (x := .tmp 11) Try.isAgg113 Try.sizeOf113 n4 fun qB nF eE => ?_)
       obtain ⟨dB, x9, h⟩ := bsome h
       obtain ⟨pb742, po742, pe742⟩ := OM.ptrE (k := 3) p4 x9
       refine L_loadM (x := .tmp 66) Try.isAgg76 Try.sizeOf76 p4 x9 fun rB oF gE => ?_
       obtain ⟨d8, iE, h⟩ := bsome h
       refine E_drawL (g := mF) (n := 5) [(4, (fun v g w => v = .bool (d8)))] [0, 1, 2, 3, 4] rfl mixed (by kernel_rfl) (⟨fun _ => up_eq _, trivial⟩) ?_
       refine L_ld (c := qB) rfl rfl .plain (fun _ _ h => ⟨h.ch, fun b hb _ => h.below.block b hb⟩) eE a7 ?_
       refine L_pur (c := ePtr o0 j0 3) rfl rfl .plain (fun _ _ hd => P_move m6) ?_
       refine L_pur (c := ePtr o0 j0 3) rfl rfl .plain (fun _ _ hd => P_nilCk rfl pe742) ?_
       refine L_ld (c := rB) rfl rfl .plain (fun _ _ h => ⟨h.ch, fun b hb _ => h.below.block b hb⟩) gE rfl ?_
       refine L_do (φ := fun v g w => v = .bool (d8)) rfl rfl .plain (fun g w hd => D_call (g := g) (vs := [qB, rB]) en66 (.cons rfl (.cons rfl .nil)) (wk66 (nF.ext hd.1) (oF.ext hd.1) iE) fun g' w' v hs hr => ⟨g', hs, hr⟩) (fun vH hv => ?_)
       obtain ⟨_, _, _, rfl⟩ := hv
       refine L_nil fun n9 xH hall => ?_
       have hs := hall.1
       have hfr := hfr.ext hs
       have m5 := m5.ext hs
       have o4 := o4.ext hs
       have p4 := p4.ext hs
       have n5 := n5.ext hs
       have o5 := o5.ext hs
       have n4 := n4.ext hs
       have u4 := u4.ext hs
       clear hs hall
       refine EL_nil (thn_n ?_)
       rcases csome h with ⟨m8, h⟩ | ⟨m8, h⟩
       ·refine E_ct m8 rfl ?_
        refine E_region (EL_mv m6 rfl ?_)
        refine EL_pur (v := fPtr p2 1) (P_fieldAddr at_54_1 o7 (PT.ptr o4)) .plain rfl ?_
        have sB := PT_field (part_LoomStop_1).1 o4
        refine EL_pur (v := fPtr (fPtr p2 1) 1) (P_fieldAddr at_48_1 rfl (PT.ptr sB)) .plain rfl ?_
        have pF := PT_field (part_Span_1).1 sB
        refine EL_do .plain rfl (D_load (g := n9) Try.isAgg3 Try.sizeOf3 rfl pF fun yH qF => ?_)
        obtain rfl := RV_int.1 qF
        refine EL_in (.int .i64 ((w64 (((x3).Days).High + (1 : Int))))) rfl rfl rfl rfl ?_
        obtain ⟨eB, n8, h⟩ := bsome h
        obtain ⟨pb766, po766, pe766⟩ := OM.ptrE (k := 3) p4 n8
        refine EL_pur (v := ePtr o0 j0 3) (P_nilCk rfl pe766) .plain rfl ?_
        obtain ⟨pb768, po768, pe768⟩ := OM.ptrE (k := 3) p4 n8
        refine EL_pur (v := fPtr (ePtr o0 j0 3) 2) (P_fieldAddr at_76_2 rfl ⟨_, _, pe768⟩) .plain rfl ?_
        refine EL_do .plain rfl (D_storeMF (g := n9) part_LoomRun_2 Try.sizeOf3 rfl p4 n8 rfl (RV_int.2 rfl) fun rF zH hs b769 => ?_)
        have hfr := hfr.stp hs
        have m5 := m5.stp hs
        have o4 := o4.stp hs
        have n5 := n5.stp hs
        have o5 := o5.stp hs rfl
        have n4 := n4.stp hs rfl
        have u4 := u4.stp hs
        refine EL_nil ?_
        obtain rfl := sinj h
        exact hQ _ _ ⟨rF, hfr, y8, m5, o7, o4, z8, b769, a9, n5, o5, a7, n4, m6, x7, u4, a8, c8⟩
       ·refine E_cf m8 rfl ?_
        refine E_skip ?_
        obtain rfl := sinj h
        exact hQ _ _ ⟨n9, hfr, y8, m5, o7, o4, z8, p4, a9, n5, o5, a7, n4, m6, x7, u4, a8, c8⟩
      ·clear hx
       obtain ⟨sF, hfr, tB, uB, vB, xB, yB, zB, aC, bC, cC, bA, cA, dA, eA, gA, iA, jA⟩ := hR
       refine E_region (EL_mv dA rfl ?_)
       refine EL_pur (v := epV o0 j0 3) (P_assign (rfl.trans (epV_pos j4).symm)) .plain rfl ?_
       refine EL_nil (blk_n ?_)
       obtain ⟨rfl, rfl⟩ := pairs2 h
       exact hQ _ _ ⟨sF, hfr, tB, uB, vB, xB, yB, zB, aC, bC, cC, bA, cA, rfl, eA, gA, iA, jA⟩
    ·clear hx
     obtain ⟨tF, hfr, dC, eC, iC, jC, kC, lC, mC, nC, oC, kA, lA, mA, nA, oA, pA, qA⟩ := hR
     refine E_region (EL_in (.int .i64 ((w64 (j2 + (1 : Int))))) qA rfl rfl rfl ?_)
     refine EL_mw (.int .i64 ((w64 (j2 + (1 : Int))))) rfl rfl ?_
     exact EL_nil (thn_n (xD (o6, j6, (w64 (j2 + (1 : Int)))) _ _ ⟨tF, hfr, dC, eC, iC, jC, kC, lC, mC, nC, oC, kA, lA, mA, nA, oA, pA, rfl⟩ h))
   ·refine E_cf j8 rfl ?_
    refine E_exit ?_
    refine thn_e ?_
    refine thn_e ?_
    refine blk_hit ?_
    obtain rfl := sinj h
    exact hQ _ _ ⟨i8, hfr, m7, z4, x6, u0, n7, c5, d5, k6, d4⟩
  ·clear hx
   obtain ⟨aI, hfr, pC, c6, c9, qC, rC, d6, i6, rA, p5⟩ := hR
   refine E_seq (E_region (EL_at (.func (.func 70) #[] #[]) rfl rfl ?_))
   refine EL_nil (thn_n (E_joinC h (fun (s : (List LoomRun) × (List Int)) e w => ∃ (g : Gh) (v8 v9 : Value), Fr gI wI g w ∧ e 1 = up1 ∧ RV g.m w (x1 : List LoomOrder) up1 ∧ e 8 = v8 ∧ RV g.m w (s.1 : List LoomRun) v8 ∧ e 9 = v9 ∧ RV g.m w (s.2 : List Int) v9 ∧ OS 1009 g w 3 (s.2 : List Int) v9 ∧ e 11 = p8 ∧ OB 2011 g w 113 (y7.1 : LoomStill) p8) (fun X779 kB jE h => ?_) ?_))
   ·refine E_seq (E_region (EL_mv c9 rfl ?_))
    refine EL_mw (.func (.func 70) #[] #[]) rfl rfl ?_
    obtain ⟨gp780, hs, rp780⟩ := OM.pub qC
    have hfr := hfr.stp hs
    have c6 := c6.stp hs
    have d6 := d6.stp hs
    have i6 := i6.stp hs rfl
    have p5 := p5.stp hs rfl
    obtain ⟨lB, kE, h⟩ := bsome h
    refine EL_do .plain rfl (D_call (g := gp780) (vs := [o0, .func (.func 70) #[] #[]]) en72 (.cons rfl (.cons rfl .nil)) (wk72 rp780 ⟨70, #[], #[], rfl, en70, fun g' w' hch a0 b0 r hu0 hr => by exact Fn.mono (wk70 hu0  hr) fun _ _ _ h => RV_bool.2 h⟩ kE) fun sC lE bI hs hr => ?_)
    have hfr := hfr.ext hs
    have c6 := c6.ext hs
    have rp780 := rp780.ext hs
    have d6 := d6.ext hs
    have i6 := i6.ext hs
    have p5 := p5.ext hs
    subst hr
    refine EL_nil (thn_n ?_)
    rcases csome h with ⟨o8, h⟩ | ⟨o8, h⟩
    ·refine E_ct o8 rfl ?_
     refine E_seq (E_region (EL_at (.slice none 0 0) rfl rfl ?_))
     have b784 : OA 4008 sC lE 76 ([] : List LoomRun) (.slice none 0 0) := OA.nil
     refine EL_at (.slice none 0 0) rfl rfl ?_
     refine EL_at (.int .i64 (8)) rfl rfl ?_
     refine EL_nil (thn_n (E_ret (thn_r ?_)))
     obtain ⟨gp785, hs, rp785⟩ := OM.pub (b784.toM)
     have hfr := hfr.stp hs
     obtain rfl := sinj h
     exact end3 rfl rfl (show _ = .slice none 0 0 from rfl) (show _ = .slice none 0 0 from rfl) (show _ = .int .i64 (8) from rfl) ⟨_, hfr, _, _, _, rfl, rp785, RV_nil, rfl⟩
    ·refine E_cf o8 rfl ?_
     exact E_skip (thn_n (jE (y5, c4) _ _ ⟨sC, (o0), (d3), hfr, pC, c6, c9, rp780, rC, d6, i6, rA, p5⟩ h))
   ·rintro ⟨i3, t8⟩ vG cI ⟨uF, j3, tC, hfr, uC, vC, d9, p7, xC, yC, zC, sA, tA⟩ h
    obtain ⟨q6, hx, h⟩ := bsome h
    refine E_join (fun e w => ∃ (g : Gh) (v9 : Value), Fr gI wI g w ∧ e 8 = j3 ∧ RV g.m w (i3 : List LoomRun) j3 ∧ e 9 = v9 ∧ RV g.m w (q6 : List Int) v9 ∧ OS 1009 g w 3 (q6 : List Int) v9) (fun Q' hQ => ?_) (fun xG dI hR => ?_)
    ·replace h := hx
     clear hx
     refine E_seq (E_region (EL_mv d9 rfl ?_))
     refine EL_pur (v := .int .i64 ((i3).length : Int)) (P_len Try.underlying31 rfl p7) .plain rfl ?_
     refine EL_mw (.int .i64 (0)) rfl rfl ?_
     refine EL_nil (thn_n (E_block ?_))
     refine E_lp h (fun (s : (List Int) × Int) e w => ∃ (g : Gh) (v9 : Value), Fr gI wI g w ∧ e 1 = up1 ∧ RV g.m w (x1 : List LoomOrder) up1 ∧ e 8 = j3 ∧ RV g.m w (i3 : List LoomRun) j3 ∧ e 9 = v9 ∧ RV g.m w (s.1 : List Int) v9 ∧ OS 1009 g w 3 (s.1 : List Int) v9 ∧ e 11 = p8 ∧ OB 2011 g w 113 (y7.1 : LoomStill) p8 ∧ e 81 = j3 ∧ RV g.m w (i3 : List LoomRun) j3 ∧ e 82 = .int .i64 (((i3).length : Int)) ∧ e 83 = .int .i64 (s.2)) ⟨uF, (tC), hfr, uC, vC, d9, p7, xC, yC, zC, sA, tA, rfl, p7, rfl, rfl⟩ (fun X881 iB mE => ?_)
     rintro ⟨p6, p3⟩ yG eI ⟨o9, e9, hfr, q7, z2, t7, o3, u7, u3, z3, b7, j1, c7, z1, d7, n6⟩ h
     refine E_seq (E_region (EL_in (.bool ((decide (p3 < ((i3).length : Int))))) n6 d7 rfl rfl ?_))
     refine EL_nil (thn_n (E_seq ?_))
     rcases csome h with ⟨q8, h⟩ | ⟨q8, h⟩
     ·refine E_ct q8 rfl ?_
      refine E_skip (thn_n ?_)
      obtain ⟨z5, hx, h⟩ := bsome h
      refine E_join (fun e w => ∃ (g : Gh) (v9 : Value), Fr gI wI g w ∧ e 1 = up1 ∧ RV g.m w (x1 : List LoomOrder) up1 ∧ e 8 = j3 ∧ RV g.m w (i3 : List LoomRun) j3 ∧ e 9 = v9 ∧ RV g.m w (z5 : List Int) v9 ∧ OS 1009 g w 3 (z5 : List Int) v9 ∧ e 11 = p8 ∧ OB 2011 g w 113 (y7.1 : LoomStill) p8 ∧ e 81 = j3 ∧ RV g.m w (i3 : List LoomRun) j3 ∧ e 82 = .int .i64 (((i3).length : Int)) ∧ e 83 = .int .i64 (p3)) (fun Q' hQ => ?_) (fun zG iI hR => ?_)
      ·replace h := hx
       clear hx
       refine E_block ?_
       refine E_seq (E_region ?_)
       obtain ⟨q5, y9, h⟩ := bsome h
       refine EL_pur (v := ePtr j3 p3 3) (P_indexAddr (α := LoomRun) Try.underlying31 Try.sizeOf76 c7 z1 n6 y9) .plain rfl ?_
       have vF := PT_idx z1 y9
       refine EL_do .plain rfl (D_load (g := o9) Try.isAgg76 Try.sizeOf76 rfl vF fun xF p9 => ?_)
       refine EL_do .plain rfl (D_allocOc (g := o9) 2018 (⟨0, 0, 0⟩ : LoomRun) Try.zeroValue76 (fun m w => ⟨_, (rep_two rep_int (rep_two rep_int rep_int)), rfl⟩) fun yF jI aD hs b932 cb => ?_)
       have hfr := hfr.stp hs
       have z2 := z2.stp hs
       have o3 := o3.stp hs
       have u3 := u3.stp hs
       have z3 := z3.stp hs rfl
       have j1 := j1.stp hs rfl
       have z1 := z1.stp hs
       have p9 := p9.stp hs
       clear cb
       refine EL_do .plain rfl (D_storeOc (g := yF) (v := xF) Try.sizeOf76 rfl b932 rfl p9 fun zF kI hs b933 cb => ?_)
       clear cb
       have hfr := hfr.stp hs
       have z2 := z2.stp hs
       have o3 := o3.stp hs
       have u3 := u3.stp hs
       have z3 := z3.stp hs rfl
       have j1 := j1.stp hs rfl
       have z1 := z1.stp hs
       refine EL_nil (thn_n (E_seq (L_loadO (x := .tmp 87) part_LoomStill_0.1 Try.isAgg96 Try.sizeOf96 j1 fun bD aG nE => ?_)))
       refine L_loadO0 (x := .tmp 18) Try.isAgg76 Try.sizeOf76 b933 fun cD bG oE => ?_
       obtain ⟨j7, pE, h⟩ := bsome h
       refine L_loadO (x := .tmp 92) part_LoomRun_0.1 Try.isAgg3 Try.sizeOf3 b933 fun lI cG qE => ?_
       obtain rfl := RV_int.1 cG
       obtain ⟨e8, z9, h⟩ := bsome h
       have dD := PT_idx z2 z9
       have dG := PT_field (part_LoomOrder_4).1 dD
       refine L_load (x := .tmp 95) Try.isAgg3 Try.sizeOf3 dG fun mI eG rE => ?_
       obtain rfl := RV_int.1 eG
       refine E_drawL (g := zF) (n := 11) [(3, (fun v g w => v = .int .i64 (j7)))] [0, 1, 2, 3, 4, 5, 6, 7, 8, 9, 10] rfl mixed (by kernel_rfl) (⟨fun _ => up_eq _, trivial⟩) ?_
       refine L_pur (c := fPtr p8 0) rfl rfl .plain (fun _ _ hd => P_fieldAddr at_113_0 b7 (OB.ptr j1)) ?_
       refine L_ld (c := bD) rfl rfl .plain (fun _ _ h => ⟨h.ch, fun b hb _ => h.below.block b hb⟩) nE rfl ?_
       refine L_ld (c := cD) rfl rfl .plain (fun _ _ h => ⟨h.ch, fun b hb _ => h.below.block b hb⟩) oE rfl ?_
       refine L_do (φ := fun v g w => v = .int .i64 (j7)) rfl rfl .plain (fun g w hd => D_call (g := g) (vs := [bD, cD]) en73 (.cons rfl (.cons rfl .nil)) (wk73 (aG.ext hd.1) (bG.ext hd.1) pE) fun g' w' v hs hr => ⟨g', hs, hr⟩) (fun nI hv => ?_)
       obtain ⟨_, _, _, rfl⟩ := hv
       refine L_pur (c := up1) rfl rfl .plain (fun _ _ hd => P_move q7) ?_
       refine L_pur (c := fPtr aD 0) rfl rfl .plain (fun _ _ hd => P_fieldAddr at_76_0 rfl (OB.ptr b933)) ?_
       refine L_ld (c := .int .i64 ((q5).Order)) rfl rfl .plain (fun _ _ h => ⟨h.ch, fun b hb _ => h.below.block b hb⟩) qE rfl ?_
       refine L_pur (c := ePtr up1 (q5).Order 5) rfl rfl .plain (fun _ _ hd => P_indexAddr (α := LoomOrder) Try.underlying25 Try.sizeOf82 rfl z2 rfl z9) ?_
       refine L_pur (c := fPtr (ePtr up1 (q5).Order 5) 4) rfl rfl .plain (fun _ _ hd => P_fieldAddr at_82_4 rfl (PT.ptr dD)) ?_
       refine L_ld (c := .int .i64 ((e8).Late)) rfl rfl .plain (fun _ _ h => h.ch) rE rfl ?_
       refine L_pur (c := .bool ((decide (j7 > (e8).Late)))) rfl rfl .plain (fun _ _ hd => P_int rfl rfl rfl) ?_
       refine L_nil fun q9 oI hall => ?_
       have hs := hall.1
       have hfr := hfr.ext hs
       have z2 := z2.ext hs
       have o3 := o3.ext hs
       have u3 := u3.ext hs
       have z3 := z3.ext hs
       have j1 := j1.ext hs
       have z1 := z1.ext hs
       have b933 := b933.ext hs
       clear hs hall
       refine EL_nil (thn_n ?_)
       rcases csome h with ⟨r8, h⟩ | ⟨r8, h⟩
       ·refine E_ct r8 rfl ?_
        refine E_region (EL_mv u7 rfl ?_)
        refine EL_pur (v := fPtr aD 0) (P_fieldAddr at_76_0 rfl (OB.ptr b933)) .plain rfl ?_
        refine EL_do .plain rfl (D_loadF (g := q9) part_LoomRun_0.1 Try.isAgg3 Try.sizeOf3 rfl b933 fun pI gG => ?_)
        obtain rfl := RV_int.1 gG
        refine EL_do .plain rfl (D_buildSlice (g := q9) 3101 (xs := ([(q5).Order] : List Int)) (vs := [.int .i64 ((q5).Order)]) Try.underlying22 Try.sizeOf3 Try.zeroValue3 rfl rfl (.cons rfl .nil) (RVs.cons (RV_int.2 rfl) RVs.nil) rfl rfl fun hG qI rI hs o971 iG hxt hfl => ?_)
        have hfr := hfr.stp hs
        have z2 := z2.stp hs
        have o3 := o3.stp hs
        have u3 := u3.stp hs
        have z3 := z3.stp hs rfl
        have j1 := j1.stp hs rfl
        have z1 := z1.stp hs
        obtain ⟨jB, sE, h⟩ := bsome h
        refine EL_do .plain rfl (D_append (g := hG) (i := 1009) Try.underlying22 info_3 rfl rfl z3 u3 rfl iG sE fun jG sI eD hs o972 kG _ => ?_)
        have hfr := hfr.stp hs
        have z2 := z2.stp hs
        have o3 := o3.stp hs
        have j1 := j1.stp hs rfl
        have z1 := z1.stp hs
        refine EL_at eD rfl rfl ?_
        refine EL_nil (blk_n ?_)
        obtain rfl := sinj h
        exact hQ _ _ ⟨jG, (eD), hfr, q7, z2, t7, o3, rfl, kG, o972, b7, j1, c7, z1, d7, n6⟩
       ·refine E_cf r8 rfl ?_
        refine E_skip (blk_n ?_)
        obtain rfl := sinj h
        exact hQ _ _ ⟨q9, (e9), hfr, q7, z2, t7, o3, u7, u3, z3, b7, j1, c7, z1, d7, n6⟩
      ·clear hx
       obtain ⟨lG, gD, hfr, iD, jD, kD, lD, mD, nD, oD, uA, vA, xA, yA, zA, aB⟩ := hR
       refine E_region (EL_in (.int .i64 ((w64 (p3 + (1 : Int))))) aB rfl rfl rfl ?_)
       refine EL_mw (.int .i64 ((w64 (p3 + (1 : Int))))) rfl rfl ?_
       exact EL_nil (thn_n (mE (z5, (w64 (p3 + (1 : Int)))) _ _ ⟨lG, (gD), hfr, iD, jD, kD, lD, mD, nD, oD, uA, vA, xA, yA, zA, rfl⟩ h))
     ·refine E_cf q8 rfl ?_
      refine E_exit ?_
      refine thn_e ?_
      refine thn_e ?_
      refine blk_hit ?_
      obtain rfl := sinj h
      exact hQ _ _ ⟨o9, (e9), hfr, t7, o3, u7, u3, z3⟩
    ·clear hx
     obtain ⟨tI, i9, hfr, pD, qD, rD, sD, oG⟩ := hR
     refine E_seq (E_region (EL_mv pD rfl ?_))
     refine EL_mv rD rfl ?_
     refine EL_at j3 rfl rfl ?_
     refine EL_at i9 rfl rfl ?_
     refine EL_at (.int .i64 (0)) rfl rfl ?_
     refine EL_nil (thn_n (E_ret ?_))
     obtain rfl := sinj h
     exact end3 rfl rfl (show _ = j3 from rfl) (show _ = i9 from rfl) (show _ = .int .i64 (0) from rfl) ⟨_, hfr, _, _, _, rfl, qD, sD, rfl⟩
/-- griffe/griffelaw08.known -/
def f14  : Option (Bool) :=
 (f46 ((0 : Int)) ((0 : Int)) ((0 : Int))).bind fun y2 =>
 (f46 ((1 : Int)) ((1 : Int)) ((0 : Int))).bind fun y4 =>
 (f46 ((2 : Int)) ((0 : Int)) ((10 : Int))).bind fun y6 =>
 (f47).bind fun y9 =>
 (f48 ((1 : Int)) ((8 : Int))).bind fun y11 =>
 (f17 y9 y11).bind fun j5 =>
 (f47).bind fun sA =>
 (f48 ((3 : Int)) ((9 : Int))).bind fun tA =>
 (f17 sA tA).bind fun m5 =>
 (f47).bind fun uA =>
 (f48 ((3 : Int)) ((9 : Int))).bind fun y23 =>
 (f23 uA y23).bind fun z4 =>
 (f47).bind fun vA =>
 (f48 ((3 : Int)) ((9 : Int))).bind fun xA =>
 (f24 vA xA).bind fun c5 =>
 (f48 ((1 : Int)) ((8 : Int))).bind fun x8 =>
 (idx x8 (0 : Int)).bind fun yA =>
 (f47).bind fun zA =>
 (f30 zA ((List.set x8 (Int.toNat ((0 : Int))) ({ yA with Woven := (25 : Int) })))).bind fun j3 =>
 (f47).bind fun aB =>
 (f48 ((1 : Int)) ((8 : Int))).bind fun bB =>
 (cut bB (1 : Int) (2 : Int)).bind fun cB =>
 (f25 aB cB).bind fun d5 =>
 (f47).bind fun dB =>
 (f48 ((1 : Int)) ((8 : Int))).bind fun eB =>
 (f32 (([y2, y4, y6] : List LoomRun))).bind fun iB =>
 (f49 ((5 : Int)) ((6 : Int))).bind fun jB =>
 (f33 dB eB iB jB).bind fun i5 =>
 (f47).bind fun kB =>
 (f48 ((1 : Int)) ((8 : Int))).bind fun lB =>
 (f32 (([y2, y4, y6] : List LoomRun))).bind fun mB =>
 (f49 ((5 : Int)) ((6 : Int))).bind fun y70 =>
 (f34 kB lB mB y70).bind fun u3 =>
 (f47).bind fun y74 =>
 (f48 ((3 : Int)) ((8 : Int))).bind fun nB =>
 (f32 (([y2, y4, y6] : List LoomRun))).bind fun oB =>
 (f40 y74 nB oB).bind fun y80 =>
 jn (σ := Unit) (fun (_ : Unit) =>
  Option.bind (α := Bool) (
   (f22 (j5.1) (([y2, y4, y6] : List LoomRun))).bind fun y157 =>
   bif y157 then
    (f28 (z4.1) (([(0 : Int), (1 : Int), (2 : Int)] : List Int))).bind fun y161 =>
    bif y161 then
     (f28 (c5.1) (([(0 : Int)] : List Int))).bind fun y165 =>
     bif y165 then
      bif (decide (j3.1 = (⟨0, (20 : Int)⟩ : Span))) then
       bif (j3.2.1 == (45 : Int)) then
        (f28 (d5.1) (([(1 : Int)] : List Int))).bind fun n6 =>
        bif n6 then
         (f28 (i5.1) (([(0 : Int)] : List Int))).bind fun y177 =>
         bif y177 then
          (f46 ((0 : Int)) ((0 : Int)) ((7 : Int))).bind fun y180 =>
          (f46 ((1 : Int)) ((1 : Int)) ((0 : Int))).bind fun i7 =>
          (f46 ((2 : Int)) ((0 : Int)) ((17 : Int))).bind fun j7 =>
          (f22 (u3.1) (([y180, i7, j7] : List LoomRun))).bind fun o6 =>
          bif o6 then
           (f28 (u3.2.1) (([(2 : Int)] : List Int))).bind fun p6 =>
           bif p6 then
            some ((y80.1 == (2 : Int)))
           else
            none
          else
           none
         else
          none
        else
         none
       else
        none
      else
       none
     else
      none
    else
     none
   else
    none
   ) fun n5 =>
  some (n5)
  ) fun pB =>
 Option.bind (α := Bool) (
  bif (j5.2 != (0 : Int)) then
   none
  else
   bif (m5.2 != (9 : Int)) then
    none
   else
    bif (z4.2 != (0 : Int)) then
     none
    else
     bif (c5.2 != (0 : Int)) then
      none
     else
      bif (j3.2.2 != (0 : Int)) then
       none
      else
       bif (d5.2 != (0 : Int)) then
        none
       else
        bif (i5.2 != (0 : Int)) then
         none
        else
         bif (u3.2.2 != (0 : Int)) then
          none
         else
          some ((y80.2 != (6 : Int)))
  ) fun p4 =>
 bif p4 then
  some (false)
 else
  pB ()
theorem en14 : Enters Try.prog 14 := enters_of Try.func14 (by kernel_rfl) rfl
theorem wk14 {gI : Gh} {wI : World}   {r : Bool} (h : f14  = some r) : Fn Try.prog 14 #[] gI wI (fun _ _ v => v = .bool (r)) := by
 unfold f14 at h
 refine fn_of_E Try.func14 rfl (Nat.le_of_ble_eq_true rfl) fun g0 hm hfr => ?_
 show E _ 179 none _ _ _ _ _
 refine E_seq (E_region (EL_at (.bool false) rfl rfl ?_))
 refine EL_nil (thn_n (E_seq (E_region ?_)))
 obtain ⟨y2, hy2, h⟩ := bsome h
 refine EL_do .plain rfl (D_call (g := g0) (vs := [.int .i64 (0), .int .i64 (0), .int .i64 (0)]) en46 (.cons rfl (.cons rfl (.cons rfl .nil))) (wk46  hy2) fun g1 w1_ v1 hs hr => ?_)
 have hfr := hfr.ext hs
 have r1 := hr
 obtain ⟨y4, rE, h⟩ := bsome h
 refine EL_do .plain rfl (D_call (g := g1) (vs := [.int .i64 (1), .int .i64 (1), .int .i64 (0)]) en46 (.cons rfl (.cons rfl (.cons rfl .nil))) (wk46  rE) fun g3 w3_ v3 hs hr => ?_)
 have hfr := hfr.ext hs
 have r1 := r1.ext hs
 have r3 := hr
 obtain ⟨y6, sE, h⟩ := bsome h
 refine EL_do .plain rfl (D_call (g := g3) (vs := [.int .i64 (2), .int .i64 (0), .int .i64 (10)]) en46 (.cons rfl (.cons rfl (.cons rfl .nil))) (wk46  sE) fun g5 w5_ v5 hs hr => ?_)
 have hfr := hfr.ext hs
 have r1 := r1.ext hs
 have r3 := r3.ext hs
 have r5 := hr
 refine EL_do .plain rfl (D_buildSlice (g := g5) 3026 (xs := ([y2, y4, y6] : List LoomRun)) (vs := [v1, v3, v5]) Try.underlying31 Try.sizeOf76 Try.zeroValue76 rfl rfl (.cons rfl (.cons rfl (.cons rfl .nil))) (RVs.cons r1 (RVs.cons r3 (RVs.cons r5 RVs.nil))) rfl rfl fun g7 w7 v7 hs o7 r7 hxt hfl => ?_)
 have hfr := hfr.stp hs
 refine EL_at v7 rfl rfl ?_
 refine EL_nil (thn_n (E_seq (E_region ?_)))
 obtain ⟨y9, tE, h⟩ := bsome h
 refine EL_do .plain rfl (D_call (g := g7) (vs := []) en47 .nil (wk47  tE) fun g8 w8_ v8 hs hr => ?_)
 have hfr := hfr.ext hs
 have r7 := r7.ext hs
 have o7 := o7.ext hs
 have r8 := hr
 obtain ⟨y11, sB, h⟩ := bsome h
 refine EL_do .plain rfl (D_call (g := g8) (vs := [.int .i64 (1), .int .i64 (8)]) en48 (.cons rfl (.cons rfl .nil)) (wk48  sB) fun uE qI vE hs hr => ?_)
 have hfr := hfr.ext hs
 have r7 := r7.ext hs
 have o7 := o7.ext hs
 have r8 := r8.ext hs
 have xE := hr
 obtain ⟨j5, tB, h⟩ := bsome h
 refine EL_do .plain rfl (D_call (g := uE) (vs := [v8, vE]) en17 (.cons rfl (.cons rfl .nil)) (wk17 r8 xE tB) fun yE rI uK hs hr => ?_)
 have hfr := hfr.ext hs
 have r7 := r7.ext hs
 have o7 := o7.ext hs
 obtain ⟨u4, nH, rfl, j0, rfl⟩ := hr
 refine EL_mw (.tuple #[u4, .int .i64 (j5.2)]) rfl rfl ?_
 refine EL_pur (v := u4) (P_extract rfl rfl) .plain rfl ?_
 refine EL_pur (v := .int .i64 (j5.2)) (P_extract rfl rfl) .plain rfl ?_
 refine EL_at u4 rfl rfl ?_
 refine EL_at (.int .i64 (j5.2)) rfl rfl ?_
 refine EL_nil (thn_n (E_seq (E_region ?_)))
 obtain ⟨sA, uB, h⟩ := bsome h
 refine EL_do .plain rfl (D_call (g := yE) (vs := []) en47 .nil (wk47  uB) fun zE sI aF hs hr => ?_)
 have hfr := hfr.ext hs
 have r7 := r7.ext hs
 have o7 := o7.ext hs
 have j0 := j0.ext hs
 have y8 := hr
 obtain ⟨tA, vB, h⟩ := bsome h
 refine EL_do .plain rfl (D_call (g := zE) (vs := [.int .i64 (3), .int .i64 (9)]) en48 (.cons rfl (.cons rfl .nil)) (wk48  vB) fun bF tI cF hs hr => ?_)
 have hfr := hfr.ext hs
 have r7 := r7.ext hs
 have o7 := o7.ext hs
 have j0 := j0.ext hs
 have y8 := y8.ext hs
 have dF := hr
 obtain ⟨m5, xB, h⟩ := bsome h
 refine EL_do .plain rfl (D_call (g := bF) (vs := [aF, cF]) en17 (.cons rfl (.cons rfl .nil)) (wk17 y8 dF xB) fun eF uI vK hs hr => ?_)
 have hfr := hfr.ext hs
 have r7 := r7.ext hs
 have o7 := o7.ext hs
 have j0 := j0.ext hs
 obtain ⟨x6, oH, rfl, pH, rfl⟩ := hr
 refine EL_mw (.tuple #[x6, .int .i64 (m5.2)]) rfl rfl ?_
 refine EL_pur (v := x6) (P_extract rfl rfl) .plain rfl ?_
 refine EL_pur (v := .int .i64 (m5.2)) (P_extract rfl rfl) .plain rfl ?_
 refine EL_at x6 rfl rfl ?_
 refine EL_at (.int .i64 (m5.2)) rfl rfl ?_
 refine EL_nil (thn_n (E_seq (E_region ?_)))
 obtain ⟨uA, yB, h⟩ := bsome h
 refine EL_do .plain rfl (D_call (g := eF) (vs := []) en47 .nil (wk47  yB) fun gF vI iF hs hr => ?_)
 have hfr := hfr.ext hs
 have r7 := r7.ext hs
 have o7 := o7.ext hs
 have j0 := j0.ext hs
 have z8 := hr
 obtain ⟨y23, zB, h⟩ := bsome h
 refine EL_do .plain rfl (D_call (g := gF) (vs := [.int .i64 (3), .int .i64 (9)]) en48 (.cons rfl (.cons rfl .nil)) (wk48  zB) fun jF xI kF hs hr => ?_)
 have hfr := hfr.ext hs
 have r7 := r7.ext hs
 have o7 := o7.ext hs
 have j0 := j0.ext hs
 have z8 := z8.ext hs
 have lF := hr
 obtain ⟨z4, aC, h⟩ := bsome h
 refine EL_do .plain rfl (D_call (g := jF) (vs := [iF, kF]) en23 (.cons rfl (.cons rfl .nil)) (wk23 z8 lF aC) fun mF yI xK hs hr => ?_)
 have hfr := hfr.ext hs
 have r7 := r7.ext hs
 have o7 := o7.ext hs
 have j0 := j0.ext hs
 obtain ⟨z3, qH, rfl, o0, rfl⟩ := hr
 refine EL_mw (.tuple #[z3, .int .i64 (z4.2)]) rfl rfl ?_
 refine EL_pur (v := z3) (P_extract rfl rfl) .plain rfl ?_
 refine EL_pur (v := .int .i64 (z4.2)) (P_extract rfl rfl) .plain rfl ?_
 refine EL_at z3 rfl rfl ?_
 refine EL_at (.int .i64 (z4.2)) rfl rfl ?_
 refine EL_nil (thn_n (E_seq (E_region ?_)))
 obtain ⟨vA, bC, h⟩ := bsome h
 refine EL_do .plain rfl (D_call (g := mF) (vs := []) en47 .nil (wk47  bC) fun nF zI oF hs hr => ?_)
 have hfr := hfr.ext hs
 have r7 := r7.ext hs
 have o7 := o7.ext hs
 have j0 := j0.ext hs
 have o0 := o0.ext hs
 have a9 := hr
 obtain ⟨xA, cC, h⟩ := bsome h
 refine EL_do .plain rfl (D_call (g := nF) (vs := [.int .i64 (3), .int .i64 (9)]) en48 (.cons rfl (.cons rfl .nil)) (wk48  cC) fun pF aJ qF hs hr => ?_)
 have hfr := hfr.ext hs
 have r7 := r7.ext hs
 have o7 := o7.ext hs
 have j0 := j0.ext hs
 have o0 := o0.ext hs
 have a9 := a9.ext hs
 have rF := hr
 obtain ⟨c5, dC, h⟩ := bsome h
 refine EL_do .plain rfl (D_call (g := pF) (vs := [oF, qF]) en24 (.cons rfl (.cons rfl .nil)) (wk24 a9 rF dC) fun sF bJ yK hs hr => ?_)
 have hfr := hfr.ext hs
 have r7 := r7.ext hs
 have o7 := o7.ext hs
 have j0 := j0.ext hs
 have o0 := o0.ext hs
 obtain ⟨c4, sH, rfl, u0, rfl⟩ := hr
 refine EL_mw (.tuple #[c4, .int .i64 (c5.2)]) rfl rfl ?_
 refine EL_pur (v := c4) (P_extract rfl rfl) .plain rfl ?_
 refine EL_pur (v := .int .i64 (c5.2)) (P_extract rfl rfl) .plain rfl ?_
 refine EL_at c4 rfl rfl ?_
 refine EL_at (.int .i64 (c5.2)) rfl rfl ?_
 refine EL_nil (thn_n (E_seq (E_region ?_)))
 obtain ⟨x8, eC, h⟩ := bsome h
 refine EL_do .plain rfl (D_callG (g := sF) (vs := [.int .i64 (1), .int .i64 (8)]) en48 (.cons rfl (.cons rfl .nil)) (v48_0 (iO := 9051)  eC) fun tF cJ v6 hs hr => ?_)
 have hfr := hfr.ext hs
 have r7 := r7.ext hs
 have o7 := o7.ext hs
 have j0 := j0.ext hs
 have o0 := o0.ext hs
 have u0 := u0.ext hs
 have hm32 := hr
 refine EL_at v6 rfl rfl ?_
 refine EL_nil (thn_n (E_seq (E_region (EL_mw v6 rfl rfl ?_))))
 obtain ⟨yA, m7, h⟩ := bsome h
 refine EL_pur (v := ePtr v6 (0 : Int) 5) (P_indexAddrM (α := LoomOrder) Try.underlying25 Try.sizeOf82 rfl hm32 rfl m7) .plain rfl ?_
 obtain ⟨pb36, po36, pe36⟩ := OM.ptrE (k := 5) hm32 m7
 refine EL_pur (v := fPtr (ePtr v6 (0 : Int) 5) 2) (P_fieldAddr at_82_2 rfl ⟨_, _, pe36⟩) .plain rfl ?_
 refine EL_do .plain rfl (D_storeMF (g := tF) part_LoomOrder_2 Try.sizeOf3 rfl hm32 m7 rfl (RV_int.2 rfl) fun uF zK hs b37 => ?_)
 have hfr := hfr.stp hs
 have r7 := r7.stp hs
 have o7 := o7.stp hs rfl
 have j0 := j0.stp hs
 have o0 := o0.stp hs
 have u0 := u0.stp hs
 refine EL_nil (thn_n (E_seq (E_region ?_)))
 obtain ⟨zA, iC, h⟩ := bsome h
 refine EL_do .plain rfl (D_call (g := uF) (vs := []) en47 .nil (wk47  iC) fun aL dJ vF hs hr => ?_)
 have hfr := hfr.ext hs
 have r7 := r7.ext hs
 have o7 := o7.ext hs
 have j0 := j0.ext hs
 have o0 := o0.ext hs
 have u0 := u0.ext hs
 have b37 := b37.ext hs
 have b9 := hr
 refine EL_mw v6 rfl rfl ?_
 obtain ⟨gp40, hs, rp40⟩ := OM.pub b37
 have hfr := hfr.stp hs
 have r7 := r7.stp hs
 have o7 := o7.stp hs rfl
 have j0 := j0.stp hs
 have o0 := o0.stp hs
 have u0 := u0.stp hs
 have b9 := b9.stp hs
 obtain ⟨j3, jC, h⟩ := bsome h
 refine EL_do .plain rfl (D_call (g := gp40) (vs := [vF, v6]) en30 (.cons rfl (.cons rfl .nil)) (wk30 b9 rp40 jC) fun xF eJ bL hs hr => ?_)
 have hfr := hfr.ext hs
 have r7 := r7.ext hs
 have o7 := o7.ext hs
 have j0 := j0.ext hs
 have o0 := o0.ext hs
 have u0 := u0.ext hs
 obtain ⟨z6, tH, uH, rfl, a7, rfl, rfl⟩ := hr
 refine EL_mw (.tuple #[z6, .int .i64 (j3.2.1), .int .i64 (j3.2.2)]) rfl rfl ?_
 refine EL_pur (v := z6) (P_extract rfl rfl) .plain rfl ?_
 refine EL_pur (v := .int .i64 (j3.2.1)) (P_extract rfl rfl) .plain rfl ?_
 refine EL_pur (v := .int .i64 (j3.2.2)) (P_extract rfl rfl) .plain rfl ?_
 refine EL_do .plain rfl (D_allocOc (g := xF) 2011 (⟨0, 0⟩ : Span) Try.zeroValue48 (fun m w => ⟨_, (rep_two rep_int rep_int), rfl⟩) fun yF cL q7 hs b43 cb => ?_)
 have hfr := hfr.stp hs
 have r7 := r7.stp hs
 have o7 := o7.stp hs rfl
 have j0 := j0.stp hs
 have o0 := o0.stp hs
 have u0 := u0.stp hs
 have a7 := a7.stp hs
 clear cb
 refine EL_do .plain rfl (D_storeOc (g := yF) (v := z6) Try.sizeOf48 rfl b43 rfl a7 fun zF dL hs b44 cb => ?_)
 clear cb
 have hfr := hfr.stp hs
 have r7 := r7.stp hs
 have o7 := o7.stp hs rfl
 have j0 := j0.stp hs
 have o0 := o0.stp hs
 have u0 := u0.stp hs
 refine EL_at (.int .i64 (j3.2.1)) rfl rfl ?_
 refine EL_at (.int .i64 (j3.2.2)) rfl rfl ?_
 refine EL_nil (thn_n (E_seq (E_region ?_)))
 obtain ⟨aB, kC, h⟩ := bsome h
 refine EL_do .plain rfl (D_call (g := zF) (vs := []) en47 .nil (wk47  kC) fun aG gJ bG hs hr => ?_)
 have hfr := hfr.ext hs
 have r7 := r7.ext hs
 have o7 := o7.ext hs
 have j0 := j0.ext hs
 have o0 := o0.ext hs
 have u0 := u0.ext hs
 have b44 := b44.ext hs
 have c9 := hr
 obtain ⟨bB, lC, h⟩ := bsome h
 refine EL_do .plain rfl (D_call (g := aG) (vs := [.int .i64 (1), .int .i64 (8)]) en48 (.cons rfl (.cons rfl .nil)) (wk48  lC) fun cG iJ qB hs hr => ?_)
 have hfr := hfr.ext hs
 have r7 := r7.ext hs
 have o7 := o7.ext hs
 have j0 := j0.ext hs
 have o0 := o0.ext hs
 have u0 := u0.ext hs
 have b44 := b44.ext hs
 have c9 := c9.ext hs
 have rB := hr
 obtain ⟨cB, d9, h⟩ := bsome h
 have dG := RV_cut rB d9
 refine EL_pur (v := (cutV qB (Int.toNat (1 : Int)) (Int.toNat (2 : Int)) 5)) (P_slice Try.underlying25 Try.sizeOf82 rfl rB rfl rfl d9) .plain rfl ?_
 obtain ⟨d5, mC, h⟩ := bsome h
 refine EL_do .plain rfl (D_call (g := cG) (vs := [bG, (cutV qB (Int.toNat (1 : Int)) (Int.toNat (2 : Int)) 5)]) en25 (.cons rfl (.cons rfl .nil)) (wk25 c9 dG mC) fun eG jJ eL hs hr => ?_)
 have hfr := hfr.ext hs
 have r7 := r7.ext hs
 have o7 := o7.ext hs
 have j0 := j0.ext hs
 have o0 := o0.ext hs
 have u0 := u0.ext hs
 have b44 := b44.ext hs
 obtain ⟨d4, vH, rfl, j2, rfl⟩ := hr
 refine EL_mw (.tuple #[d4, .int .i64 (d5.2)]) rfl rfl ?_
 refine EL_pur (v := d4) (P_extract rfl rfl) .plain rfl ?_
 refine EL_pur (v := .int .i64 (d5.2)) (P_extract rfl rfl) .plain rfl ?_
 refine EL_at d4 rfl rfl ?_
 refine EL_at (.int .i64 (d5.2)) rfl rfl ?_
 refine EL_nil (thn_n (E_seq (E_region ?_)))
 obtain ⟨dB, nC, h⟩ := bsome h
 refine EL_do .plain rfl (D_call (g := eG) (vs := []) en47 .nil (wk47  nC) fun gG kJ hG hs hr => ?_)
 have hfr := hfr.ext hs
 have r7 := r7.ext hs
 have o7 := o7.ext hs
 have j0 := j0.ext hs
 have o0 := o0.ext hs
 have u0 := u0.ext hs
 have b44 := b44.ext hs
 have j2 := j2.ext hs
 have q6 := hr
 obtain ⟨eB, oC, h⟩ := bsome h
 refine EL_do .plain rfl (D_call (g := gG) (vs := [.int .i64 (1), .int .i64 (8)]) en48 (.cons rfl (.cons rfl .nil)) (wk48  oC) fun iG lJ jG hs hr => ?_)
 have hfr := hfr.ext hs
 have r7 := r7.ext hs
 have o7 := o7.ext hs
 have j0 := j0.ext hs
 have o0 := o0.ext hs
 have u0 := u0.ext hs
 have b44 := b44.ext hs
 have j2 := j2.ext hs
 have q6 := q6.ext hs
 have c7 := hr
 refine EL_mw v7 rfl rfl ?_
 obtain ⟨iB, pC, h⟩ := bsome h
 refine EL_do .plain rfl (D_call (g := iG) (vs := [v7]) en32 (.cons rfl .nil) (wk32 r7 pC) fun kG mJ lG hs hr => ?_)
 have hfr := hfr.ext hs
 have r7 := r7.ext hs
 have o7 := o7.ext hs
 have j0 := j0.ext hs
 have o0 := o0.ext hs
 have u0 := u0.ext hs
 have b44 := b44.ext hs
 have j2 := j2.ext hs
 have q6 := q6.ext hs
 have c7 := c7.ext hs
 have e9 := hr
 obtain ⟨jB, qC, h⟩ := bsome h
 refine EL_do .plain rfl (D_call (g := kG) (vs := [.int .i64 (5), .int .i64 (6)]) en49 (.cons rfl (.cons rfl .nil)) (wk49  qC) fun mG nJ nG hs hr => ?_)
 have hfr := hfr.ext hs
 have r7 := r7.ext hs
 have o7 := o7.ext hs
 have j0 := j0.ext hs
 have o0 := o0.ext hs
 have u0 := u0.ext hs
 have b44 := b44.ext hs
 have j2 := j2.ext hs
 have q6 := q6.ext hs
 have c7 := c7.ext hs
 have e9 := e9.ext hs
 have oG := hr
 obtain ⟨i5, rC, h⟩ := bsome h
 refine EL_do .plain rfl (D_call (g := mG) (vs := [hG, jG, lG, nG]) en33 (.cons rfl (.cons rfl (.cons rfl (.cons rfl .nil)))) (wk33 q6 c7 e9 oG rC) fun pG oJ gL hs hr => ?_)
 have hfr := hfr.ext hs
 have r7 := r7.ext hs
 have o7 := o7.ext hs
 have j0 := j0.ext hs
 have o0 := o0.ext hs
 have u0 := u0.ext hs
 have b44 := b44.ext hs
 have j2 := j2.ext hs
 obtain ⟨i4, xH, rfl, d3, rfl⟩ := hr
 refine EL_mw (.tuple #[i4, .int .i64 (i5.2)]) rfl rfl ?_
 refine EL_pur (v := i4) (P_extract rfl rfl) .plain rfl ?_
 refine EL_pur (v := .int .i64 (i5.2)) (P_extract rfl rfl) .plain rfl ?_
 refine EL_at i4 rfl rfl ?_
 refine EL_at (.int .i64 (i5.2)) rfl rfl ?_
 refine EL_nil (thn_n (E_seq (E_region ?_)))
 obtain ⟨kB, sC, h⟩ := bsome h
 refine EL_do .plain rfl (D_call (g := pG) (vs := []) en47 .nil (wk47  sC) fun qG pJ rG hs hr => ?_)
 have hfr := hfr.ext hs
 have r7 := r7.ext hs
 have o7 := o7.ext hs
 have j0 := j0.ext hs
 have o0 := o0.ext hs
 have u0 := u0.ext hs
 have b44 := b44.ext hs
 have j2 := j2.ext hs
 have d3 := d3.ext hs
 have r6 := hr
 obtain ⟨lB, tC, h⟩ := bsome h
 refine EL_do .plain rfl (D_call (g := qG) (vs := [.int .i64 (1), .int .i64 (8)]) en48 (.cons rfl (.cons rfl .nil)) (wk48  tC) fun sG qJ tG hs hr => ?_)
 have hfr := hfr.ext hs
 have r7 := r7.ext hs
 have o7 := o7.ext hs
 have j0 := j0.ext hs
 have o0 := o0.ext hs
 have u0 := u0.ext hs
 have b44 := b44.ext hs
 have j2 := j2.ext hs
 have d3 := d3.ext hs
 have r6 := r6.ext hs
 have d7 := hr
 refine EL_mw v7 rfl rfl ?_
 obtain ⟨mB, uC, h⟩ := bsome h
 refine EL_do .plain rfl (D_call (g := sG) (vs := [v7]) en32 (.cons rfl .nil) (wk32 r7 uC) fun uG rJ vG hs hr => ?_)
 have hfr := hfr.ext hs
 have r7 := r7.ext hs
 have o7 := o7.ext hs
 have j0 := j0.ext hs
 have o0 := o0.ext hs
 have u0 := u0.ext hs
 have b44 := b44.ext hs
 have j2 := j2.ext hs
 have d3 := d3.ext hs
 have r6 := r6.ext hs
 have d7 := d7.ext hs
 have g9 := hr
 obtain ⟨y70, vC, h⟩ := bsome h
 refine EL_do .plain rfl (D_call (g := uG) (vs := [.int .i64 (5), .int .i64 (6)]) en49 (.cons rfl (.cons rfl .nil)) (wk49  vC) fun xG sJ yG hs hr => ?_)
 have hfr := hfr.ext hs
 have r7 := r7.ext hs
 have o7 := o7.ext hs
 have j0 := j0.ext hs
 have o0 := o0.ext hs
 have u0 := u0.ext hs
 have b44 := b44.ext hs
 have j2 := j2.ext hs
 have d3 := d3.ext hs
 have r6 := r6.ext hs
 have d7 := d7.ext hs
 have g9 := g9.ext hs
 have zG := hr
 obtain ⟨u3, xC, h⟩ := bsome h
 refine EL_do .plain rfl (D_call (g := xG) (vs := [rG, tG, vG, yG]) en34 (.cons rfl (.cons rfl (.cons rfl (.cons rfl .nil)))) (wk34 r6 d7 g9 zG xC) fun aH tJ iL hs hr => ?_)
 have hfr := hfr.ext hs
 have r7 := r7.ext hs
 have o7 := o7.ext hs
 have j0 := j0.ext hs
 have o0 := o0.ext hs
 have u0 := u0.ext hs
 have b44 := b44.ext hs
 have j2 := j2.ext hs
 have d3 := d3.ext hs
 obtain ⟨j4, m4, yH, rfl, n4, o4, rfl⟩ := hr
 refine EL_mw (.tuple #[j4, m4, .int .i64 (u3.2.2)]) rfl rfl ?_
 refine EL_pur (v := j4) (P_extract rfl rfl) .plain rfl ?_
 refine EL_pur (v := m4) (P_extract rfl rfl) .plain rfl ?_
 refine EL_pur (v := .int .i64 (u3.2.2)) (P_extract rfl rfl) .plain rfl ?_
 refine EL_at j4 rfl rfl ?_
 refine EL_at m4 rfl rfl ?_
 refine EL_at (.int .i64 (u3.2.2)) rfl rfl ?_
 refine EL_nil (thn_n (E_seq (E_region ?_)))
 obtain ⟨y74, yC, h⟩ := bsome h
 refine EL_do .plain rfl (D_call (g := aH) (vs := []) en47 .nil (wk47  yC) fun bH uJ cH hs hr => ?_)
 have hfr := hfr.ext hs
 have r7 := r7.ext hs
 have o7 := o7.ext hs
 have j0 := j0.ext hs
 have o0 := o0.ext hs
 have u0 := u0.ext hs
 have b44 := b44.ext hs
 have j2 := j2.ext hs
 have d3 := d3.ext hs
 have n4 := n4.ext hs
 have o4 := o4.ext hs
 have e7 := hr
 obtain ⟨nB, zC, h⟩ := bsome h
 refine EL_do .plain rfl (D_call (g := bH) (vs := [.int .i64 (3), .int .i64 (8)]) en48 (.cons rfl (.cons rfl .nil)) (wk48  zC) fun dH vJ gH hs hr => ?_)
 have hfr := hfr.ext hs
 have r7 := r7.ext hs
 have o7 := o7.ext hs
 have j0 := j0.ext hs
 have o0 := o0.ext hs
 have u0 := u0.ext hs
 have b44 := b44.ext hs
 have j2 := j2.ext hs
 have d3 := d3.ext hs
 have n4 := n4.ext hs
 have o4 := o4.ext hs
 have e7 := e7.ext hs
 have i9 := hr
 refine EL_mw v7 rfl rfl ?_
 obtain ⟨oB, aD, h⟩ := bsome h
 refine EL_do .plain rfl (D_call (g := dH) (vs := [v7]) en32 (.cons rfl .nil) (wk32 r7 aD) fun iH xJ jH hs hr => ?_)
 have hfr := hfr.ext hs
 have r7 := r7.ext hs
 have o7 := o7.ext hs
 have j0 := j0.ext hs
 have o0 := o0.ext hs
 have u0 := u0.ext hs
 have b44 := b44.ext hs
 have j2 := j2.ext hs
 have d3 := d3.ext hs
 have n4 := n4.ext hs
 have o4 := o4.ext hs
 have e7 := e7.ext hs
 have i9 := i9.ext hs
 have kH := hr
 obtain ⟨y80, bD, h⟩ := bsome h
 refine EL_do .plain rfl (D_call (g := iH) (vs := [cH, gH, jH]) en40 (.cons rfl (.cons rfl (.cons rfl .nil))) (wk40 e7 i9 kH bD) fun lH yJ jL hs hr => ?_)
 have hfr := hfr.ext hs
 have r7 := r7.ext hs
 have o7 := o7.ext hs
 have j0 := j0.ext hs
 have o0 := o0.ext hs
 have u0 := u0.ext hs
 have b44 := b44.ext hs
 have j2 := j2.ext hs
 have d3 := d3.ext hs
 have n4 := n4.ext hs
 have o4 := o4.ext hs
 obtain ⟨zH, aI, rfl, rfl, rfl⟩ := hr
 refine EL_mw (.tuple #[.int .i64 (y80.1), .int .i64 (y80.2)]) rfl rfl ?_
 refine EL_pur (v := .int .i64 (y80.1)) (P_extract rfl rfl) .plain rfl ?_
 refine EL_pur (v := .int .i64 (y80.2)) (P_extract rfl rfl) .plain rfl ?_
 refine EL_at (.int .i64 (y80.1)) rfl rfl ?_
 refine EL_at (.int .i64 (y80.2)) rfl rfl ?_
 refine EL_nil (thn_n (E_joinC h (fun (s : Unit) e w => ∃ (g : Gh) , Fr gI wI g w ∧ e 1 = v7 ∧ RV g.m w (([y2, y4, y6] : List LoomRun) : List LoomRun) v7 ∧ OS 3026 g w 76 (([y2, y4, y6] : List LoomRun) : List LoomRun) v7 ∧ e 2 = u4 ∧ RV g.m w (j5.1 : List LoomRun) u4 ∧ e 6 = z3 ∧ RV g.m w (z4.1 : List Int) z3 ∧ e 8 = c4 ∧ RV g.m w (c5.1 : List Int) c4 ∧ e 11 = q7 ∧ OB 2011 g w 48 (j3.1 : Span) q7 ∧ e 12 = .int .i64 (j3.2.1) ∧ e 14 = d4 ∧ RV g.m w (d5.1 : List Int) d4 ∧ e 16 = i4 ∧ RV g.m w (i5.1 : List Int) i4 ∧ e 18 = j4 ∧ RV g.m w (u3.1 : List LoomRun) j4 ∧ e 19 = m4 ∧ RV g.m w (u3.2.1 : List Int) m4 ∧ e 21 = .int .i64 (y80.1)) (fun X99 pB cD h => ?_) ?_))
 ·obtain ⟨p4, hx, h⟩ := bsome h
  refine E_join (fun e w => ∃ (g : Gh) , Fr gI wI g w ∧ e 1 = v7 ∧ RV g.m w (([y2, y4, y6] : List LoomRun) : List LoomRun) v7 ∧ OS 3026 g w 76 (([y2, y4, y6] : List LoomRun) : List LoomRun) v7 ∧ e 2 = u4 ∧ RV g.m w (j5.1 : List LoomRun) u4 ∧ e 6 = z3 ∧ RV g.m w (z4.1 : List Int) z3 ∧ e 8 = c4 ∧ RV g.m w (c5.1 : List Int) c4 ∧ e 11 = q7 ∧ OB 2011 g w 48 (j3.1 : Span) q7 ∧ e 12 = .int .i64 (j3.2.1) ∧ e 14 = d4 ∧ RV g.m w (d5.1 : List Int) d4 ∧ e 16 = i4 ∧ RV g.m w (i5.1 : List Int) i4 ∧ e 18 = j4 ∧ RV g.m w (u3.1 : List LoomRun) j4 ∧ e 19 = m4 ∧ RV g.m w (u3.2.1 : List Int) m4 ∧ e 21 = .int .i64 (y80.1) ∧ e 129 = .bool (p4)) (fun Q' hQ => ?_) (fun bI zJ hR => ?_)
  ·replace h := hx
   clear hx
   refine E_region (EL_mw (.int .i64 (j5.2)) rfl rfl ?_)
   refine EL_in (.bool ((j5.2 != (0 : Int)))) rfl rfl rfl rfl ?_
   refine EL_mw (.bool ((j5.2 != (0 : Int)))) rfl rfl ?_
   rcases csome h with ⟨y5, h⟩ | ⟨y5, h⟩
   ·cases h
   ·refine EL_pur (v := .int .i64 (m5.2)) (P_move rfl) (.yes2 rfl rfl y5) rfl ?_
    refine EL_pur (v := .bool ((m5.2 != (9 : Int)))) (P_int rfl rfl rfl) (.yes2 rfl rfl y5) rfl ?_
    refine EL_pur (v := .bool ((m5.2 != (9 : Int)))) (P_pick (b := (j5.2 != (0 : Int))) rfl (pick_f y5 rfl)) .plain rfl ?_
    refine EL_mw (.bool ((m5.2 != (9 : Int)))) rfl rfl ?_
    rcases csome h with ⟨z5, h⟩ | ⟨z5, h⟩
    ·cases h
    ·refine EL_pur (v := .int .i64 (z4.2)) (P_move rfl) (.yes2 rfl rfl z5) rfl ?_
     refine EL_pur (v := .bool ((z4.2 != (0 : Int)))) (P_int rfl rfl rfl) (.yes2 rfl rfl z5) rfl ?_
     refine EL_pur (v := .bool ((z4.2 != (0 : Int)))) (P_pick (b := (m5.2 != (9 : Int))) rfl (pick_f z5 rfl)) .plain rfl ?_
     refine EL_mw (.bool ((z4.2 != (0 : Int)))) rfl rfl ?_
     rcases csome h with ⟨b6, h⟩ | ⟨b6, h⟩
     ·cases h
     ·refine EL_pur (v := .int .i64 (c5.2)) (P_move rfl) (.yes2 rfl rfl b6) rfl ?_
      refine EL_pur (v := .bool ((c5.2 != (0 : Int)))) (P_int rfl rfl rfl) (.yes2 rfl rfl b6) rfl ?_
      refine EL_pur (v := .bool ((c5.2 != (0 : Int)))) (P_pick (b := (z4.2 != (0 : Int))) rfl (pick_f b6 rfl)) .plain rfl ?_
      refine EL_mw (.bool ((c5.2 != (0 : Int)))) rfl rfl ?_
      rcases csome h with ⟨c6, h⟩ | ⟨c6, h⟩
      ·cases h
      ·refine EL_pur (v := .int .i64 (j3.2.2)) (P_move rfl) (.yes2 rfl rfl c6) rfl ?_
       refine EL_pur (v := .bool ((j3.2.2 != (0 : Int)))) (P_int rfl rfl rfl) (.yes2 rfl rfl c6) rfl ?_
       refine EL_pur (v := .bool ((j3.2.2 != (0 : Int)))) (P_pick (b := (c5.2 != (0 : Int))) rfl (pick_f c6 rfl)) .plain rfl ?_
       refine EL_mw (.bool ((j3.2.2 != (0 : Int)))) rfl rfl ?_
       rcases csome h with ⟨d6, h⟩ | ⟨d6, h⟩
       ·cases h
       ·refine EL_pur (v := .int .i64 (d5.2)) (P_move rfl) (.yes2 rfl rfl d6) rfl ?_
        refine EL_pur (v := .bool ((d5.2 != (0 : Int)))) (P_int rfl rfl rfl) (.yes2 rfl rfl d6) rfl ?_
        refine EL_pur (v := .bool ((d5.2 != (0 : Int)))) (P_pick (b := (j3.2.2 != (0 : Int))) rfl (pick_f d6 rfl)) .plain rfl ?_
        refine EL_mw (.bool ((d5.2 != (0 : Int)))) rfl rfl ?_
        rcases csome h with ⟨i6, h⟩ | ⟨i6, h⟩
        ·cases h
        ·refine EL_pur (v := .int .i64 (i5.2)) (P_move rfl) (.yes2 rfl rfl i6) rfl ?_
         refine EL_pur (v := .bool ((i5.2 != (0 : Int)))) (P_int rfl rfl rfl) (.yes2 rfl rfl i6) rfl ?_
         refine EL_pur (v := .bool ((i5.2 != (0 : Int)))) (P_pick (b := (d5.2 != (0 : Int))) rfl (pick_f i6 rfl)) .plain rfl ?_
         refine EL_mw (.bool ((i5.2 != (0 : Int)))) rfl rfl ?_
         rcases csome h with ⟨j6, h⟩ | ⟨j6, h⟩
         ·cases h
         ·refine EL_pur (v := .int .i64 (u3.2.2)) (P_move rfl) (.yes2 rfl rfl j6) rfl ?_
          refine EL_pur (v := .bool ((u3.2.2 != (0 : Int)))) (P_int rfl rfl rfl) (.yes2 rfl rfl j6) rfl ?_
          refine EL_pur (v := .bool ((u3.2.2 != (0 : Int)))) (P_pick (b := (i5.2 != (0 : Int))) rfl (pick_f j6 rfl)) .plain rfl ?_
          refine EL_mw (.bool ((u3.2.2 != (0 : Int)))) rfl rfl ?_
          rcases csome h with ⟨k6, h⟩ | ⟨k6, h⟩
          ·cases h
          ·refine EL_pur (v := .int .i64 (y80.2)) (P_move rfl) (.yes2 rfl rfl k6) rfl ?_
           refine EL_pur (v := .bool ((y80.2 != (6 : Int)))) (P_int rfl rfl rfl) (.yes2 rfl rfl k6) rfl ?_
           refine EL_pur (v := .bool ((y80.2 != (6 : Int)))) (P_pick (b := (u3.2.2 != (0 : Int))) rfl (pick_f k6 rfl)) .plain rfl ?_
           refine EL_nil ?_
           obtain rfl := sinj h
           exact hQ _ _ ⟨lH, hfr, rfl, r7, o7, rfl, j0, rfl, o0, rfl, u0, rfl, b44, rfl, rfl, j2, rfl, d3, rfl, n4, rfl, o4, rfl, rfl⟩
  ·clear hx
   obtain ⟨dD, hfr, j9, k9, l9, m9, n9, o9, p9, q9, r9, t7, u7, x7, y7, a8, b8, c8, d8, e8, i8, j8, k8, t6⟩ := hR
   rcases csome h with ⟨b7, h⟩ | ⟨b7, h⟩
   ·refine E_cond_true (Eq.trans (show ev _ _ = .bool (p4) from t6) (congrArg Value.bool b7)) ?_
    refine E_seq (E_region (EL_at (.bool false) rfl rfl ?_))
    refine EL_nil (thn_n (E_ret (thn_r ?_)))
    obtain rfl := sinj h
    exact end1 rfl rfl (show _ = .bool false from rfl) ⟨_, hfr, rfl⟩
   ·refine E_cond_false (Eq.trans (show ev _ _ = .bool (p4) from t6) (congrArg Value.bool b7)) ?_
    exact E_skip (thn_n (cD () _ _ ⟨dD, hfr, j9, k9, l9, m9, n9, o9, p9, q9, r9, t7, u7, x7, y7, a8, b8, c8, d8, e8, i8, j8, k8⟩ h))
 ·rintro _ cI aK ⟨eD, hfr, t9, u9, mH, v9, x9, z9, l5, bA, p3, l8, o3, m8, n8, i3, o8, z2, p8, z1, q8, j1, t8⟩ h
  obtain ⟨n5, hx, h⟩ := bsome h
  refine E_join (fun e w => ∃ (g : Gh) , Fr gI wI g w ∧ e 0 = .bool (n5)) (fun Q' hQ => ?_) (fun dI bK hR => ?_)
  ·replace h := hx
   clear hx
   refine E_region (EL_mv v9 rfl ?_)
   refine EL_mv t9 rfl ?_
   obtain ⟨y157, eA, h⟩ := bsome h
   refine EL_do .plain rfl (D_call (g := eD) (vs := [u4, v7]) en22 (.cons rfl (.cons rfl .nil)) (wk22 x9 u9 eA) fun gD eI cK hs hr => ?_)
   have hfr := hfr.ext hs
   have l5 := l5.ext hs
   have p3 := p3.ext hs
   have o3 := o3.ext hs
   have i3 := i3.ext hs
   have z2 := z2.ext hs
   have z1 := z1.ext hs
   have j1 := j1.ext hs
   subst hr
   refine EL_mw (.bool (y157)) rfl rfl ?_
   rcases csome h with ⟨o5, h⟩ | ⟨o5, h⟩
   ·refine EL_pur (v := z3) (P_move z9) (.yes2 rfl rfl o5) rfl ?_
    refine EL_do (.yes2 rfl rfl o5) rfl (D_buildSlice (g := gD) 3135 (xs := ([(0 : Int), (1 : Int), (2 : Int)] : List Int)) (vs := [.int .i64 (0), .int .i64 (1), .int .i64 (2)]) Try.underlying22 Try.sizeOf3 Try.zeroValue3 rfl rfl (.cons rfl (.cons rfl (.cons rfl .nil))) (RVs.cons (RV_int.2 rfl) (RVs.cons (RV_int.2 rfl) (RVs.cons (RV_int.2 rfl) RVs.nil))) rfl rfl fun iD dK jD hs o159 kD hxt hfl => ?_)
    have hfr := hfr.stp hs
    have l5 := l5.stp hs
    have p3 := p3.stp hs
    have o3 := o3.stp hs rfl
    have i3 := i3.stp hs
    have z2 := z2.stp hs
    have z1 := z1.stp hs
    have j1 := j1.stp hs
    obtain ⟨y161, gA, h⟩ := bsome h
    refine EL_do (.yes2 rfl rfl o5) rfl (D_call (g := iD) (vs := [z3, jD]) en28 (.cons rfl (.cons rfl .nil)) (wk28 l5 kD gA) fun lD iI eK hs hr => ?_)
    have hfr := hfr.ext hs
    have p3 := p3.ext hs
    have o3 := o3.ext hs
    have i3 := i3.ext hs
    have z2 := z2.ext hs
    have z1 := z1.ext hs
    have j1 := j1.ext hs
    subst hr
    refine EL_pur (v := .bool (y161)) (P_pick (b := y157) rfl (pick_t o5 rfl)) .plain rfl ?_
    refine EL_mw (.bool (y161)) rfl rfl ?_
    rcases csome h with ⟨p5, h⟩ | ⟨p5, h⟩
    ·refine EL_pur (v := c4) (P_move bA) (.yes2 rfl rfl p5) rfl ?_
     refine EL_do (.yes2 rfl rfl p5) rfl (D_buildSlice (g := lD) 3140 (xs := ([(0 : Int)] : List Int)) (vs := [.int .i64 (0)]) Try.underlying22 Try.sizeOf3 Try.zeroValue3 rfl rfl (.cons rfl .nil) (RVs.cons (RV_int.2 rfl) RVs.nil) rfl rfl fun mD gK nD hs o163 oD hxt hfl => ?_)
     have hfr := hfr.stp hs
     have p3 := p3.stp hs
     have o3 := o3.stp hs rfl
     have i3 := i3.stp hs
     have z2 := z2.stp hs
     have z1 := z1.stp hs
     have j1 := j1.stp hs
     obtain ⟨y165, iA, h⟩ := bsome h
     refine EL_do (.yes2 rfl rfl p5) rfl (D_call (g := mD) (vs := [c4, nD]) en28 (.cons rfl (.cons rfl .nil)) (wk28 p3 oD iA) fun n7 jA iK hs hr => ?_)
     have hfr := hfr.ext hs
     have o3 := o3.ext hs
     have i3 := i3.ext hs
     have z2 := z2.ext hs
     have z1 := z1.ext hs
     have j1 := j1.ext hs
     subst hr
     refine EL_pur (v := .bool (y165)) (P_pick (b := y161) rfl (pick_t p5 rfl)) .plain rfl ?_
     refine EL_mw (.bool (y165)) rfl rfl ?_
     rcases csome h with ⟨q5, h⟩ | ⟨q5, h⟩
     ·refine EL_do (.yes2 rfl rfl q5) rfl (D_loadO (g := n7) Try.isAgg48 Try.sizeOf48 l8 o3 fun jK pD => ?_)
      have cA : RV n7.m jA (⟨0, (20 : Int)⟩ : Span) (.agg (setCh [[.int .i64 0], [.int .i64 0]] [(1, .int .i64 (20))]).flatten.toArray) := RV_build rfl (rep_pair (rep_int) (rep_last (rfl)))
      generalize kA : (Value.agg (setCh [[.int .i64 0], [.int .i64 0]] [(1, .int .i64 (20))]).flatten.toArray) = qD at cA
      refine EL_pur (v := qD) (kA ▸ P_build (vs := [(1, .int .i64 (20))]) [[.int .i64 0], [.int .i64 0]] lay_48 rfl rfl (.cons rfl .nil) ⟨⟨_, rfl, rfl⟩, trivial⟩) (.yes2 rfl rfl q5) rfl ?_
      refine EL_pur (v := .bool ((decide (j3.1 = (⟨0, (20 : Int)⟩ : Span))))) (P_seq seq_48 rfl eg_48 rfl rfl pD cA) (.yes2 rfl rfl q5) rfl ?_
      refine EL_pur (v := .bool ((decide (j3.1 = (⟨0, (20 : Int)⟩ : Span))))) (P_pick (b := y165) rfl (pick_t q5 rfl)) .plain rfl ?_
      refine EL_mw (.bool ((decide (j3.1 = (⟨0, (20 : Int)⟩ : Span))))) rfl rfl ?_
      rcases csome h with ⟨l6, h⟩ | ⟨l6, h⟩
      ·refine EL_pur (v := .int .i64 (j3.2.1)) (P_move m8) (.yes2 rfl rfl l6) rfl ?_
       refine EL_pur (v := .bool ((j3.2.1 == (45 : Int)))) (P_int rfl rfl rfl) (.yes2 rfl rfl l6) rfl ?_
       refine EL_pur (v := .bool ((j3.2.1 == (45 : Int)))) (P_pick (b := (decide (j3.1 = (⟨0, (20 : Int)⟩ : Span)))) rfl (pick_t l6 rfl)) .plain rfl ?_
       refine EL_mw (.bool ((j3.2.1 == (45 : Int)))) rfl rfl ?_
       rcases csome h with ⟨t5, h⟩ | ⟨t5, h⟩
       ·refine EL_pur (v := d4) (P_move n8) (.yes2 rfl rfl t5) rfl ?_
        refine EL_do (.yes2 rfl rfl t5) rfl (D_buildSlice (g := n7) 3154 (xs := ([(1 : Int)] : List Int)) (vs := [.int .i64 (1)]) Try.underlying22 Try.sizeOf3 Try.zeroValue3 rfl rfl (.cons rfl .nil) (RVs.cons (RV_int.2 rfl) RVs.nil) rfl rfl fun rD kK sD hs o171 tD hxt hfl => ?_)
        have hfr := hfr.stp hs
        have i3 := i3.stp hs
        have z2 := z2.stp hs
        have z1 := z1.stp hs
        have j1 := j1.stp hs
        obtain ⟨n6, lA, h⟩ := bsome h
        refine EL_do (.yes2 rfl rfl t5) rfl (D_call (g := rD) (vs := [d4, sD]) en28 (.cons rfl (.cons rfl .nil)) (wk28 i3 tD lA) fun uD jI lK hs hr => ?_)
        have hfr := hfr.ext hs
        have z2 := z2.ext hs
        have z1 := z1.ext hs
        have j1 := j1.ext hs
        subst hr
        refine EL_pur (v := .bool (n6)) (P_pick (b := (j3.2.1 == (45 : Int))) rfl (pick_t t5 rfl)) .plain rfl ?_
        refine EL_mw (.bool (n6)) rfl rfl ?_
        rcases csome h with ⟨u5, h⟩ | ⟨u5, h⟩
        ·refine EL_pur (v := i4) (P_move o8) (.yes2 rfl rfl u5) rfl ?_
         refine EL_do (.yes2 rfl rfl u5) rfl (D_buildSlice (g := uD) 3159 (xs := ([(0 : Int)] : List Int)) (vs := [.int .i64 (0)]) Try.underlying22 Try.sizeOf3 Try.zeroValue3 rfl rfl (.cons rfl .nil) (RVs.cons (RV_int.2 rfl) RVs.nil) rfl rfl fun vD mK xD hs o175 yD hxt hfl => ?_)
         have hfr := hfr.stp hs
         have z2 := z2.stp hs
         have z1 := z1.stp hs
         have j1 := j1.stp hs
         obtain ⟨y177, mA, h⟩ := bsome h
         refine EL_do (.yes2 rfl rfl u5) rfl (D_call (g := vD) (vs := [i4, xD]) en28 (.cons rfl (.cons rfl .nil)) (wk28 z2 yD mA) fun zD kI nK hs hr => ?_)
         have hfr := hfr.ext hs
         have z1 := z1.ext hs
         have j1 := j1.ext hs
         subst hr
         refine EL_pur (v := .bool (y177)) (P_pick (b := n6) rfl (pick_t u5 rfl)) .plain rfl ?_
         refine EL_mw (.bool (y177)) rfl rfl ?_
         rcases csome h with ⟨x4, h⟩ | ⟨x4, h⟩
         ·refine EL_pur (v := j4) (P_move p8) (.yes2 rfl rfl x4) rfl ?_
          obtain ⟨y180, nA, h⟩ := bsome h
          refine EL_do (.yes2 rfl rfl x4) rfl (D_call (g := zD) (vs := [.int .i64 (0), .int .i64 (0), .int .i64 (7)]) en46 (.cons rfl (.cons rfl (.cons rfl .nil))) (wk46  nA) fun aE lI bE hs hr => ?_)
          have hfr := hfr.ext hs
          have z1 := z1.ext hs
          have j1 := j1.ext hs
          have u6 := hr
          obtain ⟨i7, oA, h⟩ := bsome h
          refine EL_do (.yes2 rfl rfl x4) rfl (D_call (g := aE) (vs := [.int .i64 (1), .int .i64 (1), .int .i64 (0)]) en46 (.cons rfl (.cons rfl (.cons rfl .nil))) (wk46  oA) fun cE mI dE hs hr => ?_)
          have hfr := hfr.ext hs
          have z1 := z1.ext hs
          have j1 := j1.ext hs
          have u6 := u6.ext hs
          have p7 := hr
          obtain ⟨j7, pA, h⟩ := bsome h
          refine EL_do (.yes2 rfl rfl x4) rfl (D_call (g := cE) (vs := [.int .i64 (2), .int .i64 (0), .int .i64 (17)]) en46 (.cons rfl (.cons rfl (.cons rfl .nil))) (wk46  pA) fun eE nI gE hs hr => ?_)
          have hfr := hfr.ext hs
          have z1 := z1.ext hs
          have j1 := j1.ext hs
          have u6 := u6.ext hs
          have p7 := p7.ext hs
          have iE := hr
          refine EL_do (.yes2 rfl rfl x4) rfl (D_buildSlice (g := eE) 3167 (xs := ([y180, i7, j7] : List LoomRun)) (vs := [bE, dE, gE]) Try.underlying31 Try.sizeOf76 Try.zeroValue76 rfl rfl (.cons rfl (.cons rfl (.cons rfl .nil))) (RVs.cons u6 (RVs.cons p7 (RVs.cons iE RVs.nil))) rfl rfl fun jE oK kE hs o185 lE hxt hfl => ?_)
          have hfr := hfr.stp hs
          have z1 := z1.stp hs
          have j1 := j1.stp hs
          obtain ⟨o6, qA, h⟩ := bsome h
          refine EL_do (.yes2 rfl rfl x4) rfl (D_call (g := jE) (vs := [j4, kE]) en22 (.cons rfl (.cons rfl .nil)) (wk22 z1 lE qA) fun mE oI pK hs hr => ?_)
          have hfr := hfr.ext hs
          have j1 := j1.ext hs
          subst hr
          refine EL_pur (v := .bool (o6)) (P_pick (b := y177) rfl (pick_t x4 rfl)) .plain rfl ?_
          refine EL_mw (.bool (o6)) rfl rfl ?_
          rcases csome h with ⟨x5, h⟩ | ⟨x5, h⟩
          ·refine EL_pur (v := m4) (P_move q8) (.yes2 rfl rfl x5) rfl ?_
           refine EL_do (.yes2 rfl rfl x5) rfl (D_buildSlice (g := mE) 3172 (xs := ([(2 : Int)] : List Int)) (vs := [.int .i64 (2)]) Try.underlying22 Try.sizeOf3 Try.zeroValue3 rfl rfl (.cons rfl .nil) (RVs.cons (RV_int.2 rfl) RVs.nil) rfl rfl fun nE qK oE hs o189 pE hxt hfl => ?_)
           have hfr := hfr.stp hs
           have j1 := j1.stp hs
           obtain ⟨p6, rA, h⟩ := bsome h
           refine EL_do (.yes2 rfl rfl x5) rfl (D_call (g := nE) (vs := [m4, oE]) en28 (.cons rfl (.cons rfl .nil)) (wk28 j1 pE rA) fun qE pI sK hs hr => ?_)
           have hfr := hfr.ext hs
           subst hr
           refine EL_pur (v := .bool (p6)) (P_pick (b := o6) rfl (pick_t x5 rfl)) .plain rfl ?_
           refine EL_mw (.bool (p6)) rfl rfl ?_
           rcases csome h with ⟨m6, h⟩ | ⟨m6, h⟩
           ·refine EL_pur (v := .int .i64 (y80.1)) (P_move t8) (.yes2 rfl rfl m6) rfl ?_
            refine EL_pur (v := .bool ((y80.1 == (2 : Int)))) (P_int rfl rfl rfl) (.yes2 rfl rfl m6) rfl ?_
            refine EL_pur (v := .bool ((y80.1 == (2 : Int)))) (P_pick (b := p6) rfl (pick_t m6 rfl)) .plain rfl ?_
            refine EL_at (.bool ((y80.1 == (2 : Int)))) rfl rfl ?_
            refine EL_nil ?_
            obtain rfl := sinj h
            exact hQ _ _ ⟨qE, hfr, rfl⟩
           ·cases h
          ·cases h
         ·cases h
        ·cases h
       ·cases h
      ·cases h
     ·cases h
    ·cases h
   ·cases h
  ·clear hx
   obtain ⟨tK, hfr, dA⟩ := hR
   refine E_ret ?_
   obtain rfl := sinj h
   exact end1 rfl rfl (show _ = .bool (n5) from dA) ⟨_, hfr, rfl⟩
/-- griffe/griffelaw08.LoomPlans -/
def f3 (x0 : LoomMill) (x1 : List LoomOrder) : Option (Bool) :=
 jn (σ := Unit) (fun (_ : Unit) =>
  (f15 x0).bind fun l6 =>
  (f16 x1).bind fun y44 =>
  (f17 l6 y44).bind fun u0 =>
  jn (σ := Unit) (fun (_ : Unit) =>
   (f20 x0 x1).bind fun z4 =>
   jn (σ := Int) (fun d3 =>
    Option.bind (α := Bool) (
     bif (u0.2 == d3) then
      bif (((u0.1).length : Int) == (0 : Int)) then
       (f14).bind fun d5 =>
       some (d5)
      else
       some (false)
     else
      some (false)
     ) fun d4 =>
    some (d4)
    ) fun x5 =>
   bif (z4 == (0 : Int)) then
    (f21 big x0 x1 ([])).bind fun y125 =>
    jn (σ := Unit) (fun (_ : Unit) =>
     x5 ((9 : Int))
     ) fun m6 =>
    bif y125.2 then
     Option.bind (α := Bool) (
      bif (u0.2 == (0 : Int)) then
       (f22 (u0.1) (y125.1)).bind fun n4 =>
       bif n4 then
        (f14).bind fun i5 =>
        some (i5)
       else
        some (false)
      else
       some (false)
      ) fun i4 =>
     some (i4)
    else
     m6 ()
   else
    x5 (z4)
   ) fun c8 =>
  Option.bind (α := Bool) (
   (f18 l6 x0).bind fun c5 =>
   bif (!c5) then
    some (true)
   else
    (f19 y44 x1).bind fun y80 =>
    some ((!y80))
   ) fun o3 =>
  bif o3 then
   some (false)
  else
   c8 ()
  ) fun d8 =>
 Option.bind (α := Bool) (
  (f12 x0 x1 ((4 : Int))).bind fun o5 =>
  bif o5 then
   some (true)
  else
   (f13 x0 x1).bind fun n6 =>
   some (n6)
  ) fun p3 =>
 bif p3 then
  (f14).bind fun d6 =>
  some (d6)
 else
  d8 ()
theorem wk3 {gI : Gh} {wI : World} {x0 : LoomMill} {x1 : List LoomOrder} {up0 : Value} (rp0 : RV gI.m wI x0 up0) {up1 : Value} (rp1 : RV gI.m wI x1 up1) {r : Bool} (h : f3 x0 x1 = some r) : Fn Try.prog 3 #[up0, up1] gI wI (fun _ _ v => v = .bool (r)) := by
 unfold f3 at h
 refine fn_of_E Try.func3 rfl (Nat.le_of_ble_eq_true rfl) fun g0 hm hfr => ?_
 have rp0 : RV g0.m wI x0 up0 := hm ▸ rp0
 have rp1 : RV g0.m wI x1 up1 := hm ▸ rp1
 show E _ 74 none _ _ _ _ _
 refine E_seq (E_region (EL_do .plain rfl (D_box (g := g0) rfl rp0 fun g1 w1 p1 hs q1 => ?_)))
 have hfr := hfr.ext hs
 have rp1 := rp1.ext hs
 refine EL_at (.bool false) rfl rfl ?_
 refine EL_nil (thn_n (E_joinC h (fun (s : Unit) e w => ∃ (g : Gh) , Fr gI wI g w ∧ e 1 = up1 ∧ RV g.m w (x1 : List LoomOrder) up1 ∧ e 2 = p1 ∧ PT g.m w (x0 : LoomMill) p1) (fun X20 d8 m8 h => ?_) ?_))
 ·obtain ⟨p3, hx, h⟩ := bsome h
  refine E_join (fun e w => ∃ (g : Gh) , Fr gI wI g w ∧ e 1 = up1 ∧ RV g.m w (x1 : List LoomOrder) up1 ∧ e 2 = p1 ∧ PT g.m w (x0 : LoomMill) p1 ∧ e 19 = .bool (p3)) (fun Q' hQ => ?_) (fun tA uB hR => ?_)
  ·replace h := hx
   clear hx
   refine E_region (EL_do .plain rfl (D_load (g := g1) Try.isAgg24 Try.sizeOf24 rfl q1 fun g9 i9 => ?_))
   refine EL_mw up1 rfl rfl ?_
   obtain ⟨o5, n8, h⟩ := bsome h
   refine EL_do .plain rfl (D_call (g := g1) (vs := [g9, up1, .int .i64 (4)]) en12 (.cons rfl (.cons rfl (.cons rfl .nil))) (wk12 i9 rp1 n8) fun o6 uA vB hs hr => ?_)
   have hfr := hfr.ext hs
   have rp1 := rp1.ext hs
   have q1 := q1.ext hs
   subst hr
   refine EL_mw (.bool (o5)) rfl rfl ?_
   rcases csome h with ⟨i3, h⟩ | ⟨i3, h⟩
   ·refine EL_skip (.no2 rfl rfl i3 rfl) rfl ?_
    refine EL_skip (.no2 rfl rfl i3 rfl) rfl ?_
    refine EL_skip (.no2 rfl rfl i3 rfl) rfl ?_
    refine EL_pur (v := .bool true) (P_pick (b := o5) rfl (pick_t i3 rfl)) .plain rfl ?_
    refine EL_nil ?_
    obtain rfl := sinj h
    exact hQ _ _ ⟨o6, hfr, rfl, rp1, rfl, q1, rfl⟩
   ·refine EL_do (.yes2 rfl rfl i3) rfl (D_load (g := o6) Try.isAgg24 Try.sizeOf24 rfl q1 fun j9 k9 => ?_)
    refine EL_pur (v := up1) (P_move rfl) (.yes2 rfl rfl i3) rfl ?_
    obtain ⟨n6, o8, h⟩ := bsome h
    refine EL_do (.yes2 rfl rfl i3) rfl (D_call (g := o6) (vs := [j9, up1]) en13 (.cons rfl (.cons rfl .nil)) (wk13 k9 rp1 o8) fun l9 vA xB hs hr => ?_)
    have hfr := hfr.ext hs
    have rp1 := rp1.ext hs
    have q1 := q1.ext hs
    subst hr
    refine EL_pur (v := .bool (n6)) (P_pick (b := o5) rfl (pick_f i3 rfl)) .plain rfl ?_
    refine EL_nil ?_
    obtain rfl := sinj h
    exact hQ _ _ ⟨l9, hfr, rfl, rp1, rfl, q1, rfl⟩
  ·clear hx
   obtain ⟨e8, hfr, e7, g7, i7, j7, p5⟩ := hR
   rcases csome h with ⟨y5, h⟩ | ⟨y5, h⟩
   ·refine E_cond_true (Eq.trans (show ev _ _ = .bool (p3) from p5) (congrArg Value.bool y5)) ?_
    refine E_seq (E_region ?_)
    obtain ⟨d6, p8, h⟩ := bsome h
    refine EL_do .plain rfl (D_call (g := e8) (vs := []) en14 .nil (wk14  p8) fun yB xA zB hs hr => ?_)
    have hfr := hfr.ext hs
    subst hr
    refine EL_at (.bool (d6)) rfl rfl ?_
    refine EL_nil (thn_n (E_ret (thn_r ?_)))
    obtain rfl := sinj h
    exact end1 rfl rfl (show _ = .bool (d6) from rfl) ⟨_, hfr, rfl⟩
   ·refine E_cond_false (Eq.trans (show ev _ _ = .bool (p3) from p5) (congrArg Value.bool y5)) ?_
    exact E_skip (thn_n (m8 () _ _ ⟨e8, hfr, e7, g7, i7, j7⟩ h))
 ·rintro _ yA aC ⟨g8, hfr, o4, j0, p4, o0⟩ h
  refine E_seq (E_region (EL_do .plain rfl (D_load (g := g8) Try.isAgg24 Try.sizeOf24 p4 o0 fun m9 n9 => ?_)))
  obtain ⟨l6, q8, h⟩ := bsome h
  refine EL_do .plain rfl (D_call (g := g8) (vs := [m9]) en15 (.cons rfl .nil) (wk15 n9 q8) fun o9 zA p9 hs hr => ?_)
  have hfr := hfr.ext hs
  have j0 := j0.ext hs
  have o0 := o0.ext hs
  have q5 := hr
  refine EL_mv o4 rfl ?_
  obtain ⟨y44, r8, h⟩ := bsome h
  refine EL_do .plain rfl (D_call (g := o9) (vs := [up1]) en16 (.cons rfl .nil) (wk16 j0 r8) fun q9 aB t5 hs hr => ?_)
  have hfr := hfr.ext hs
  have j0 := j0.ext hs
  have o0 := o0.ext hs
  have q5 := q5.ext hs
  have c4 := hr
  refine EL_do .plain rfl (D_allocOc (g := q9) 2005 (⟨[], 0⟩ : LoomMill) Try.zeroValue24 (fun m w => ⟨_, (rep_two rep_nil rep_int), rfl⟩) fun i8 r9 t9 hs b45 cb => ?_)
  have hfr := hfr.stp hs
  have j0 := j0.stp hs
  have o0 := o0.stp hs
  have q5 := q5.stp hs
  have c4 := c4.stp hs
  have jA : OSF 2005 60500 0 i8 r9 3 24 ([] : List Int) t9 := cb.osf (by rfl)
  clear cb
  refine EL_do .plain rfl (D_storeOc (g := i8) (v := p9) Try.sizeOf24 rfl b45 rfl q5 fun j8 bC hs b46 cb => ?_)
  clear cb
  have hfr := hfr.stp hs
  have j0 := j0.stp hs
  have o0 := o0.stp hs
  have c4 := c4.stp hs
  refine EL_at t5 rfl rfl ?_
  refine EL_nil (thn_n (E_seq (E_region (EL_do .plain rfl (D_loadO (g := j8) Try.isAgg24 Try.sizeOf24 rfl b46 fun u9 v9 => ?_)))))
  refine EL_mw t5 rfl rfl ?_
  obtain ⟨u0, t8, h⟩ := bsome h
  refine EL_do .plain rfl (D_call (g := j8) (vs := [u9, t5]) en17 (.cons rfl (.cons rfl .nil)) (wk17 v9 c4 t8) fun p6 bB cC hs hr => ?_)
  have hfr := hfr.ext hs
  have j0 := j0.ext hs
  have o0 := o0.ext hs
  have c4 := c4.ext hs
  have b46 := b46.ext hs
  obtain ⟨j1, kA, rfl, z3, rfl⟩ := hr
  refine EL_mw (.tuple #[j1, .int .i64 (u0.2)]) rfl rfl ?_
  refine EL_pur (v := j1) (P_extract rfl rfl) .plain rfl ?_
  refine EL_pur (v := .int .i64 (u0.2)) (P_extract rfl rfl) .plain rfl ?_
  refine EL_at j1 rfl rfl ?_
  refine EL_at (.int .i64 (u0.2)) rfl rfl ?_
  refine EL_nil (thn_n (E_joinC h (fun (s : Unit) e w => ∃ (g : Gh) , Fr gI wI g w ∧ e 1 = up1 ∧ RV g.m w (x1 : List LoomOrder) up1 ∧ e 2 = p1 ∧ PT g.m w (x0 : LoomMill) p1 ∧ e 7 = j1 ∧ RV g.m w (u0.1 : List LoomRun) j1 ∧ e 8 = .int .i64 (u0.2)) (fun X66 c8 v8 h => ?_) ?_))
  ·obtain ⟨o3, hx, h⟩ := bsome h
   refine E_join (fun e w => ∃ (g : Gh) , Fr gI wI g w ∧ e 1 = up1 ∧ RV g.m w (x1 : List LoomOrder) up1 ∧ e 2 = p1 ∧ PT g.m w (x0 : LoomMill) p1 ∧ e 7 = j1 ∧ RV g.m w (u0.1 : List LoomRun) j1 ∧ e 8 = .int .i64 (u0.2) ∧ e 40 = .bool (o3)) (fun Q' hQ => ?_) (fun cB dC hR => ?_)
   ·replace h := hx
    clear hx
    refine E_region (EL_do .plain rfl (D_loadO (g := p6) Try.isAgg24 Try.sizeOf24 rfl b46 fun x9 y9 => ?_))
    refine EL_do .plain rfl (D_load (g := p6) Try.isAgg24 Try.sizeOf24 p4 o0 fun z9 bA => ?_)
    obtain ⟨c5, x8, h⟩ := bsome h
    refine EL_do .plain rfl (D_call (g := p6) (vs := [x9, z9]) en18 (.cons rfl (.cons rfl .nil)) (wk18 y9 bA x8) fun k8 dB eC hs hr => ?_)
    have hfr := hfr.ext hs
    have j0 := j0.ext hs
    have o0 := o0.ext hs
    have c4 := c4.ext hs
    have z3 := z3.ext hs
    subst hr
    refine EL_pur (v := .bool (!c5)) (P_not rfl) .plain rfl ?_
    refine EL_mw (.bool (!c5)) rfl rfl ?_
    rcases csome h with ⟨z2, h⟩ | ⟨z2, h⟩
    ·refine EL_skip (.no2 rfl rfl z2 rfl) rfl ?_
     refine EL_skip (.no2 rfl rfl z2 rfl) rfl ?_
     refine EL_skip (.no2 rfl rfl z2 rfl) rfl ?_
     refine EL_skip (.no2 rfl rfl z2 rfl) rfl ?_
     refine EL_pur (v := .bool true) (P_pick (b := (!c5)) rfl (pick_t z2 rfl)) .plain rfl ?_
     refine EL_nil ?_
     obtain rfl := sinj h
     exact hQ _ _ ⟨k8, hfr, o4, j0, p4, o0, rfl, z3, rfl, rfl⟩
    ·refine EL_pur (v := t5) (P_move rfl) (.yes2 rfl rfl z2) rfl ?_
     refine EL_pur (v := up1) (P_move o4) (.yes2 rfl rfl z2) rfl ?_
     obtain ⟨y80, y8, h⟩ := bsome h
     refine EL_do (.yes2 rfl rfl z2) rfl (D_call (g := k8) (vs := [t5, up1]) en19 (.cons rfl (.cons rfl .nil)) (wk19 c4 j0 y8) fun cA eB iC hs hr => ?_)
     have hfr := hfr.ext hs
     have j0 := j0.ext hs
     have o0 := o0.ext hs
     have z3 := z3.ext hs
     subst hr
     refine EL_pur (v := .bool (!y80)) (P_not rfl) (.yes2 rfl rfl z2) rfl ?_
     refine EL_pur (v := .bool (!y80)) (P_pick (b := (!c5)) rfl (pick_f z2 rfl)) .plain rfl ?_
     refine EL_nil ?_
     obtain rfl := sinj h
     exact hQ _ _ ⟨cA, hfr, o4, j0, p4, o0, rfl, z3, rfl, rfl⟩
   ·clear hx
    obtain ⟨dA, hfr, m7, n7, o7, p7, q7, t7, u7, u5⟩ := hR
    rcases csome h with ⟨z5, h⟩ | ⟨z5, h⟩
    ·refine E_cond_true (Eq.trans (show ev _ _ = .bool (o3) from u5) (congrArg Value.bool z5)) ?_
     refine E_seq (E_region (EL_at (.bool false) rfl rfl ?_))
     refine EL_nil (thn_n (E_ret (thn_r ?_)))
     obtain rfl := sinj h
     exact end1 rfl rfl (show _ = .bool false from rfl) ⟨_, hfr, rfl⟩
    ·refine E_cond_false (Eq.trans (show ev _ _ = .bool (o3) from u5) (congrArg Value.bool z5)) ?_
     exact E_skip (thn_n (v8 () _ _ ⟨dA, hfr, m7, n7, o7, p7, q7, t7, u7⟩ h))
  ·rintro _ iB jC ⟨l8, hfr, i6, u4, j6, x4, j5, j3, l5⟩ h
   refine E_seq (E_region (EL_do .plain rfl (D_load (g := l8) Try.isAgg24 Try.sizeOf24 j6 x4 fun eA gA => ?_)))
   refine EL_mv i6 rfl ?_
   obtain ⟨z4, z8, h⟩ := bsome h
   refine EL_do .plain rfl (D_call (g := l8) (vs := [eA, up1]) en20 (.cons rfl (.cons rfl .nil)) (wk20 gA u4 z8) fun q6 jB kC hs hr => ?_)
   have hfr := hfr.ext hs
   have u4 := u4.ext hs
   have x4 := x4.ext hs
   have j3 := j3.ext hs
   subst hr
   refine EL_at (.int .i64 (z4)) rfl rfl ?_
   refine EL_nil (thn_n (E_joinC h (fun (s : Int) e w => ∃ (g : Gh) , Fr gI wI g w ∧ e 7 = j1 ∧ RV g.m w (u0.1 : List LoomRun) j1 ∧ e 8 = .int .i64 (u0.2) ∧ e 9 = .int .i64 (s)) (fun X121 x5 k6 h => ?_) ?_))
   ·refine E_seq (E_region (EL_mw (.int .i64 (z4)) rfl rfl ?_))
    refine EL_in (.bool ((z4 == (0 : Int)))) rfl rfl rfl rfl ?_
    refine EL_nil (thn_n ?_)
    rcases csome h with ⟨m5, h⟩ | ⟨m5, h⟩
    ·refine E_ct m5 rfl ?_
     refine E_seq (E_region (EL_do .plain rfl (D_load (g := q6) Try.isAgg24 Try.sizeOf24 j6 x4 fun a9 b9 => ?_)))
     refine EL_mv i6 rfl ?_
     obtain ⟨y125, v7, h⟩ := bsome h
     refine EL_do .plain rfl (D_call (g := q6) (vs := [a9, up1, .slice none 0 0]) en21 (.cons rfl (.cons rfl (.cons rfl .nil))) (wk21 big b9 u4 RV_nil v7) fun b6 lA kB hs hr => ?_)
     have hfr := hfr.ext hs
     have j3 := j3.ext hs
     obtain ⟨u3, iA, rfl, r6, rfl⟩ := hr
     refine EL_mw (.tuple #[u3, .bool (y125.2)]) rfl rfl ?_
     refine EL_pur (v := u3) (P_extract rfl rfl) .plain rfl ?_
     refine EL_pur (v := .bool (y125.2)) (P_extract rfl rfl) .plain rfl ?_
     refine EL_at u3 rfl rfl ?_
     refine EL_at (.bool (y125.2)) rfl rfl ?_
     refine EL_nil (thn_n (E_joinC h (fun (s : Unit) e w => ∃ (g : Gh) , Fr gI wI g w ∧ e 7 = j1 ∧ RV g.m w (u0.1 : List LoomRun) j1 ∧ e 8 = .int .i64 (u0.2)) (fun X140 m6 x7 h => ?_) ?_))
     ·refine E_seq (E_region (EL_mw (.bool (y125.2)) rfl rfl ?_))
      refine EL_nil (thn_n ?_)
      rcases csome h with ⟨n5, h⟩ | ⟨n5, h⟩
      ·refine E_ct n5 rfl ?_
       obtain ⟨i4, hx, h⟩ := bsome h
       refine E_join (fun e w => ∃ (g : Gh) , Fr gI wI g w ∧ e 4 = .bool (i4)) (fun Q' hQ => ?_) (fun mA lB hR => ?_)
       ·replace h := hx
        clear hx
        refine E_region (EL_mv l5 rfl ?_)
        refine EL_in (.bool ((u0.2 == (0 : Int)))) rfl rfl rfl rfl ?_
        refine EL_mw (.bool ((u0.2 == (0 : Int)))) rfl rfl ?_
        rcases csome h with ⟨z1, h⟩ | ⟨z1, h⟩
        ·refine EL_pur (v := j1) (P_move j5) (.yes2 rfl rfl z1) rfl ?_
         refine EL_pur (v := u3) (P_move rfl) (.yes2 rfl rfl z1) rfl ?_
         obtain ⟨n4, y7, h⟩ := bsome h
         refine EL_do (.yes2 rfl rfl z1) rfl (D_call (g := b6) (vs := [j1, u3]) en22 (.cons rfl (.cons rfl .nil)) (wk22 j3 r6 y7) fun t6 nA mB hs hr => ?_)
         have hfr := hfr.ext hs
         subst hr
         refine EL_pur (v := .bool (n4)) (P_pick (b := (u0.2 == (0 : Int))) rfl (pick_t z1 rfl)) .plain rfl ?_
         refine EL_mw (.bool (n4)) rfl rfl ?_
         rcases csome h with ⟨j4, h⟩ | ⟨j4, h⟩
         ·obtain ⟨i5, a8, h⟩ := bsome h
          refine EL_do (.yes2 rfl rfl j4) rfl (D_call (g := t6) (vs := []) en14 .nil (wk14  a8) fun c9 oA nB hs hr => ?_)
          have hfr := hfr.ext hs
          subst hr
          refine EL_pur (v := .bool (i5)) (P_pick (b := n4) rfl (pick_t j4 rfl)) .plain rfl ?_
          refine EL_at (.bool (i5)) rfl rfl ?_
          refine EL_nil ?_
          obtain rfl := sinj h
          exact hQ _ _ ⟨c9, hfr, rfl⟩
         ·refine EL_skip (.no2 rfl rfl j4 rfl) rfl ?_
          refine EL_pur (v := .bool false) (P_pick (b := n4) rfl (pick_f j4 rfl)) .plain rfl ?_
          refine EL_at (.bool false) rfl rfl ?_
          refine EL_nil ?_
          obtain rfl := sinj h
          exact hQ _ _ ⟨t6, hfr, rfl⟩
        ·refine EL_skip (.no2 rfl rfl z1 rfl) rfl ?_
         refine EL_skip (.no2 rfl rfl z1 rfl) rfl ?_
         refine EL_skip (.no2 rfl rfl z1 rfl) rfl ?_
         refine EL_pur (v := .bool false) (P_pick (b := (u0.2 == (0 : Int))) rfl (pick_f z1 rfl)) .plain rfl ?_
         refine EL_dead 3 rfl ?_
         refine EL_at (.bool false) rfl rfl ?_
         refine EL_nil ?_
         obtain rfl := sinj h
         exact hQ _ _ ⟨b6, hfr, rfl⟩
       ·clear hx
        obtain ⟨oB, hfr, u6⟩ := hR
        refine E_ret (thn_r ?_)
        refine thn_r ?_
        obtain rfl := sinj h
        exact end1 rfl rfl (show _ = .bool (i4) from u6) ⟨_, hfr, rfl⟩
      ·refine E_cf n5 rfl ?_
       exact E_skip (thn_n (x7 () _ _ ⟨b6, hfr, j5, j3, l5⟩ h))
     ·rintro _ pA pB ⟨d9, hfr, v6, x6, y6⟩ h
      refine E_region (EL_at (.int .i64 (9)) rfl rfl ?_)
      exact EL_nil (thn_n (k6 ((9 : Int)) _ _ ⟨d9, hfr, v6, x6, y6, rfl⟩ h))
    ·refine E_cf m5 rfl ?_
     exact E_skip (thn_n (k6 (z4) _ _ ⟨q6, hfr, j5, j3, l5, rfl⟩ h))
   ·rintro d3 qA qB ⟨c6, hfr, z6, a7, b7, c7⟩ h
    obtain ⟨d4, hx, h⟩ := bsome h
    refine E_join (fun e w => ∃ (g : Gh) , Fr gI wI g w ∧ e 4 = .bool (d4)) (fun Q' hQ => ?_) (fun rA rB hR => ?_)
    ·replace h := hx
     clear hx
     refine E_region (EL_mv b7 rfl ?_)
     refine EL_mv c7 rfl ?_
     refine EL_in (.bool ((u0.2 == d3))) rfl rfl rfl rfl ?_
     refine EL_mw (.bool ((u0.2 == d3))) rfl rfl ?_
     rcases csome h with ⟨j2, h⟩ | ⟨j2, h⟩
     ·refine EL_pur (v := j1) (P_move z6) (.yes2 rfl rfl j2) rfl ?_
      refine EL_pur (v := .int .i64 ((u0.1).length : Int)) (P_len Try.underlying31 rfl a7) (.yes2 rfl rfl j2) rfl ?_
      refine EL_pur (v := .bool ((((u0.1).length : Int) == (0 : Int)))) (P_int rfl rfl rfl) (.yes2 rfl rfl j2) rfl ?_
      refine EL_pur (v := .bool ((((u0.1).length : Int) == (0 : Int)))) (P_pick (b := (u0.2 == d3)) rfl (pick_t j2 rfl)) .plain rfl ?_
      refine EL_mw (.bool ((((u0.1).length : Int) == (0 : Int)))) rfl rfl ?_
      rcases csome h with ⟨m4, h⟩ | ⟨m4, h⟩
      ·obtain ⟨d5, b8, h⟩ := bsome h
       refine EL_do (.yes2 rfl rfl m4) rfl (D_call (g := c6) (vs := []) en14 .nil (wk14  b8) fun e9 sA sB hs hr => ?_)
       have hfr := hfr.ext hs
       subst hr
       refine EL_pur (v := .bool (d5)) (P_pick (b := (((u0.1).length : Int) == (0 : Int))) rfl (pick_t m4 rfl)) .plain rfl ?_
       refine EL_at (.bool (d5)) rfl rfl ?_
       refine EL_nil ?_
       obtain rfl := sinj h
       exact hQ _ _ ⟨e9, hfr, rfl⟩
      ·refine EL_skip (.no2 rfl rfl m4 rfl) rfl ?_
       refine EL_pur (v := .bool false) (P_pick (b := (((u0.1).length : Int) == (0 : Int))) rfl (pick_f m4 rfl)) .plain rfl ?_
       refine EL_at (.bool false) rfl rfl ?_
       refine EL_nil ?_
       obtain rfl := sinj h
       exact hQ _ _ ⟨c6, hfr, rfl⟩
     ·refine EL_skip (.no2 rfl rfl j2 rfl) rfl ?_
      refine EL_skip (.no2 rfl rfl j2 rfl) rfl ?_
      refine EL_skip (.no2 rfl rfl j2 rfl) rfl ?_
      refine EL_pur (v := .bool false) (P_pick (b := (u0.2 == d3)) rfl (pick_f j2 rfl)) .plain rfl ?_
      refine EL_dead 3 rfl ?_
      refine EL_at (.bool false) rfl rfl ?_
      refine EL_nil ?_
      obtain rfl := sinj h
      exact hQ _ _ ⟨c6, hfr, rfl⟩
    ·clear hx
     obtain ⟨tB, hfr, d7⟩ := hR
     refine E_ret ?_
     obtain rfl := sinj h
     exact end1 rfl rfl (show _ = .bool (d4) from d7) ⟨_, hfr, rfl⟩
end Go.Proofs.Ytnfjhdagbknlbaa
