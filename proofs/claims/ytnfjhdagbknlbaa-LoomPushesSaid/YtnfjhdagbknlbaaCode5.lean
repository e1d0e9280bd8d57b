import Derived.Test.YtnfjhdagbknlbaaCode4
set_option maxRecDepth 8000
set_option maxHeartbeats 4000000
namespace Go.Proofs.Ytnfjhdagbknlbaa
open Go.RowKit
/-- (griffe/loom.mill).one -/
def f93 (x0 : LoomLoomMill) (x1 : List LoomRun) (x2 : Int) : Option (Int) :=
 (idx x1 x2).bind fun y2 =>
 jn (σ := Unit) (fun (_ : Unit) =>
  some ((0 : Int))
  ) fun j6 =>
 Option.bind (α := Bool) (
  (f81 ((0 : Int)) ((w64 ((((x0).orders).length : Int) - (1 : Int)))) (([(y2).Order] : List Int))).bind fun z3 =>
  bif (!z3) then
   some ((!z3))
  else
   (f81 ((0 : Int)) ((w64 (((((x0).LoomMill).Widths).length : Int) - (1 : Int)))) (([(y2).Loom] : List Int))).bind fun c4 =>
   bif (!c4) then
    some ((!c4))
   else
    (f71 (([(y2).From] : List Int))).bind fun x4 =>
    some ((!x4))
  ) fun z1 =>
 bif z1 then
  some ((7 : Int))
 else
  Option.bind (α := Bool) (
   bif (decide (x2 > (0 : Int))) then
    (idx x1 (w64 (x2 - (1 : Int)))).bind fun o3 =>
    some ((decide ((y2).Order ≤ (o3).Order)))
   else
    some (false)
   ) fun j2 =>
  bif j2 then
   some ((4 : Int))
  else
   (idx ((x0).orders) (y2).Order).bind fun d4 =>
   (idx (((x0).LoomMill).Widths) (y2).Loom).bind fun i4 =>
   bif (decide ((d4).Width > i4)) then
    some ((2 : Int))
   else
    Option.bind (α := Bool) (
     (idx ((x0).orders) (y2).Order).bind fun p3 =>
     bif (decide ((y2).From < (p3).Early)) then
      some ((decide ((y2).From < (p3).Early)))
     else
      (f73 x0 y2).bind fun u3 =>
      (idx ((x0).orders) (y2).Order).bind fun j4 =>
      some ((decide (u3 > (j4).Late)))
     ) fun z2 =>
    bif z2 then
     some ((3 : Int))
    else
     j6 ()
theorem en93 : Enters Try.prog 93 := enters_of Try.func93 (by kernel_rfl) rfl
theorem wk93 {gI : Gh} {wI : World} {x0 : LoomLoomMill} {x1 : List LoomRun} {x2 : Int} {up0 : Value} (rp0 : RV gI.m wI x0 up0) {up1 : Value} (rp1 : RV gI.m wI x1 up1) {r : Int} (h : f93 x0 x1 x2 = some r) : Fn Try.prog 93 #[up0, up1, .int .i64 (x2)] gI wI (fun _ _ v => v = .int .i64 (r)) := by
 unfold f93 at h
 refine fn_of_E Try.func93 rfl (Nat.le_of_ble_eq_true rfl) fun g0 hm hfr => ?_
 have rp0 : RV g0.m wI x0 up0 := hm ▸ rp0
 have rp1 : RV g0.m wI x1 up1 := hm ▸ rp1
 show E _ 89 none _ _ _ _ _
 refine E_seq (E_region (EL_do .plain rfl (D_box (g := g0) rfl rp0 fun g1 w1 p1 hs q1 => ?_)))
 have hfr := hfr.ext hs
 have rp1 := rp1.ext hs
 refine EL_at (.int .i64 (0)) rfl rfl ?_
 refine EL_nil (thn_n (E_seq (E_region (EL_mw up1 rfl rfl ?_))))
 refine EL_mw (.int .i64 (x2)) rfl rfl ?_
 obtain ⟨y2, hy2, h⟩ := bsome h
 refine EL_pur (v := ePtr up1 x2 3) (P_indexAddr (α := LoomRun) Try.underlying31 Try.sizeOf76 rfl rp1 rfl hy2) .plain rfl ?_
 have q3 := PT_idx rp1 hy2
 refine EL_do .plain rfl (D_load (g := g1) Try.isAgg76 Try.sizeOf76 rfl q3 fun v4 r4 => ?_)
 refine EL_do .plain rfl (D_allocOc (g := g1) 2007 (⟨0, 0, 0⟩ : LoomRun) Try.zeroValue76 (fun m w => ⟨_, (rep_two rep_int (rep_two rep_int rep_int)), rfl⟩) fun g5 w5 p5 hs b5 cb => ?_)
 have hfr := hfr.stp hs
 have rp1 := rp1.stp hs
 have q1 := q1.stp hs
 have r4 := r4.stp hs
 clear cb
 refine EL_do .plain rfl (D_storeOc (g := g5) (v := v4) Try.sizeOf76 rfl b5 rfl r4 fun g6 w6 hs b6 cb => ?_)
 clear cb
 have hfr := hfr.stp hs
 have rp1 := rp1.stp hs
 have q1 := q1.stp hs
 refine EL_nil (thn_n (E_joinC h (fun (s : Unit) e w => ∃ (g : Gh) , Fr gI wI g w) (fun X380 j6 c7 h => ?_) ?_))
 ·refine E_block ?_
  obtain ⟨z1, hx, h⟩ := bsome h
  refine E_join (fun e w => ∃ (g : Gh) , Fr gI wI g w ∧ e 1 = up1 ∧ RV g.m w (x1 : List LoomRun) up1 ∧ e 2 = .int .i64 (x2) ∧ e 3 = p1 ∧ PT g.m w (x0 : LoomLoomMill) p1 ∧ e 7 = p5 ∧ OB 2007 g w 76 (y2 : LoomRun) p5 ∧ e 12 = .bool (z1)) (fun Q' hQ => ?_) (fun gA oA hR => ?_)
  ·replace h := hx
   clear hx
   refine E_seq (E_region (EL_pur (v := fPtr p1 2) (P_fieldAddr at_96_1 rfl (PT.ptr q1)) .plain rfl ?_))
   have d8 := PT_field (part_LoomLoomMill_1).1 q1
   refine EL_do .plain rfl (D_load (g := g6) Try.isAgg25 Try.sizeOf25 rfl d8 fun pA e8 => ?_)
   refine EL_pur (v := .int .i64 (((x0).orders).length : Int)) (P_len Try.underlying25 rfl e8) .plain rfl ?_
   refine EL_pur (v := .int .i64 ((w64 ((((x0).orders).length : Int) - (1 : Int))))) (P_int rfl rfl rfl) .plain rfl ?_
   refine EL_pur (v := fPtr p5 0) (P_fieldAddr at_76_0 rfl (OB.ptr b6)) .plain rfl ?_
   refine EL_do .plain rfl (D_loadF (g := g6) part_LoomRun_0.1 Try.isAgg3 Try.sizeOf3 rfl b6 fun qA g8 => ?_)
   obtain rfl := RV_int.1 g8
   refine EL_do .plain rfl (D_buildSlice (g := g6) 3019 (xs := ([(y2).Order] : List Int)) (vs := [.int .i64 ((y2).Order)]) Try.underlying22 Try.sizeOf3 Try.zeroValue3 rfl rfl (.cons rfl .nil) (RVs.cons (RV_int.2 rfl) RVs.nil) rfl rfl fun i8 rA j8 hs o407 k8 hxt hfl => ?_)
   have hfr := hfr.stp hs
   have rp1 := rp1.stp hs
   have q1 := q1.stp hs
   have b6 := b6.stp hs rfl
   obtain ⟨z3, d7, h⟩ := bsome h
   refine EL_do .plain rfl (D_call (g := i8) (vs := [.int .i64 (0), .int .i64 ((w64 ((((x0).orders).length : Int) - (1 : Int)))), j8]) en81 (.cons rfl (.cons rfl (.cons rfl .nil))) (wk81 k8 d7) fun z4 iA sA hs hr => ?_)
   have hfr := hfr.ext hs
   have rp1 := rp1.ext hs
   have q1 := q1.ext hs
   have b6 := b6.ext hs
   subst hr
   refine EL_pur (v := .bool (!z3)) (P_not rfl) .plain rfl ?_
   refine EL_at (.bool (!z3)) rfl rfl ?_
   refine EL_nil (thn_n ?_)
   rcases csome h with ⟨c5, h⟩ | ⟨c5, h⟩
   ·refine E_ct c5 rfl ?_
    refine E_skip ?_
    obtain rfl := sinj h
    exact hQ _ _ ⟨z4, hfr, rfl, rp1, rfl, rfl, q1, rfl, b6, rfl⟩
   ·refine E_cf c5 rfl ?_
    refine E_seq (E_region (EL_pur (v := fPtr p1 0) (P_fieldAddr at_96_0 rfl (PT.ptr q1)) .plain rfl ?_))
    have k6 := PT_field (part_LoomLoomMill_0).1 q1
    refine EL_pur (v := fPtr (fPtr p1 0) 0) (P_fieldAddr at_24_0 rfl (PT.ptr k6)) .plain rfl ?_
    have l8 := PT_field (part_LoomMill_0).1 k6
    refine EL_do .plain rfl (D_load (g := z4) Try.isAgg22 Try.sizeOf22 rfl l8 fun tA m8 => ?_)
    refine EL_pur (v := .int .i64 ((((x0).LoomMill).Widths).length : Int)) (P_len Try.underlying22 rfl m8) .plain rfl ?_
    refine EL_pur (v := .int .i64 ((w64 (((((x0).LoomMill).Widths).length : Int) - (1 : Int))))) (P_int rfl rfl rfl) .plain rfl ?_
    refine EL_pur (v := fPtr p5 1) (P_fieldAddr at_76_1 rfl (OB.ptr b6)) .plain rfl ?_
    refine EL_do .plain rfl (D_loadF (g := z4) part_LoomRun_1.1 Try.isAgg3 Try.sizeOf3 rfl b6 fun uA n8 => ?_)
    obtain rfl := RV_int.1 n8
    refine EL_do .plain rfl (D_buildSlice (g := z4) 3029 (xs := ([(y2).Loom] : List Int)) (vs := [.int .i64 ((y2).Loom)]) Try.underlying22 Try.sizeOf3 Try.zeroValue3 rfl rfl (.cons rfl .nil) (RVs.cons (RV_int.2 rfl) RVs.nil) rfl rfl fun o8 vA p8 hs o416 q8 hxt hfl => ?_)
    have hfr := hfr.stp hs
    have rp1 := rp1.stp hs
    have q1 := q1.stp hs
    have b6 := b6.stp hs rfl
    obtain ⟨c4, e7, h⟩ := bsome h
    refine EL_do .plain rfl (D_call (g := o8) (vs := [.int .i64 (0), .int .i64 ((w64 (((((x0).LoomMill).Widths).length : Int) - (1 : Int)))), p8]) en81 (.cons rfl (.cons rfl (.cons rfl .nil))) (wk81 q8 e7) fun t5 jA xA hs hr => ?_)
    have hfr := hfr.ext hs
    have rp1 := rp1.ext hs
    have q1 := q1.ext hs
    have b6 := b6.ext hs
    subst hr
    refine EL_pur (v := .bool (!c4)) (P_not rfl) .plain rfl ?_
    refine EL_at (.bool (!c4)) rfl rfl ?_
    refine EL_nil (thn_n ?_)
    rcases csome h with ⟨d5, h⟩ | ⟨d5, h⟩
    ·refine E_ct d5 rfl ?_
     refine E_skip ?_
     obtain rfl := sinj h
     exact hQ _ _ ⟨t5, hfr, rfl, rp1, rfl, rfl, q1, rfl, b6, rfl⟩
    ·refine E_cf d5 rfl ?_
     refine E_region (EL_pur (v := fPtr p5 2) (P_fieldAddr at_76_2 rfl (OB.ptr b6)) .plain rfl ?_)
     refine EL_do .plain rfl (D_loadF (g := t5) part_LoomRun_2.1 Try.isAgg3 Try.sizeOf3 rfl b6 fun yA r8 => ?_)
     obtain rfl := RV_int.1 r8
     refine EL_do .plain rfl (D_buildSlice (g := t5) 3034 (xs := ([(y2).From] : List Int)) (vs := [.int .i64 ((y2).From)]) Try.underlying22 Try.sizeOf3 Try.zeroValue3 rfl rfl (.cons rfl .nil) (RVs.cons (RV_int.2 rfl) RVs.nil) rfl rfl fun t8 zA v8 hs o422 x8 hxt hfl => ?_)
     have hfr := hfr.stp hs
     have rp1 := rp1.stp hs
     have q1 := q1.stp hs
     have b6 := b6.stp hs rfl
     obtain ⟨x4, g7, h⟩ := bsome h
     refine EL_do .plain rfl (D_call (g := t8) (vs := [v8]) en71 (.cons rfl .nil) (wk71 x8 g7) fun y8 kA aB hs hr => ?_)
     have hfr := hfr.ext hs
     have rp1 := rp1.ext hs
     have q1 := q1.ext hs
     have b6 := b6.ext hs
     subst hr
     refine EL_pur (v := .bool (!x4)) (P_not rfl) .plain rfl ?_
     refine EL_at (.bool (!x4)) rfl rfl ?_
     refine EL_nil ?_
     obtain rfl := sinj h
     exact hQ _ _ ⟨y8, hfr, rfl, rp1, rfl, rfl, q1, rfl, b6, rfl⟩
  ·clear hx
   obtain ⟨l6, hfr, m6, o5, m4, q5, d3, n4, j1, o4⟩ := hR
   rcases csome h with ⟨i5, h⟩ | ⟨i5, h⟩
   ·refine E_cond_true (Eq.trans (show ev _ _ = .bool (z1) from o4) (congrArg Value.bool i5)) ?_
    refine E_seq (E_region (EL_at (.int .i64 (7)) rfl rfl ?_))
    refine EL_nil (thn_n (E_ret (blk_r ?_)))
    refine thn_r ?_
    obtain rfl := sinj h
    exact end1 rfl rfl (show _ = .int .i64 (7) from rfl) ⟨_, hfr, rfl⟩
   ·refine E_cond_false (Eq.trans (show ev _ _ = .bool (z1) from o4) (congrArg Value.bool i5)) ?_
    obtain ⟨j2, hx, h⟩ := bsome h
    refine E_join (fun e w => ∃ (g : Gh) , Fr gI wI g w ∧ e 3 = p1 ∧ PT g.m w (x0 : LoomLoomMill) p1 ∧ e 7 = p5 ∧ OB 2007 g w 76 (y2 : LoomRun) p5 ∧ e 37 = .bool (j2)) (fun Q' hQ => ?_) (fun lA bB hR => ?_)
    ·replace h := hx
     clear hx
     rcases csome h with ⟨j0, h⟩ | ⟨j0, h⟩
     ·refine L_loadO (x := .tmp 41) part_LoomRun_0.1 Try.isAgg3 Try.sizeOf3 j1 fun cB z8 i7 => ?_
      obtain rfl := RV_int.1 z8
      obtain ⟨o3, z5, h⟩ := bsome h
      have n6 := PT_idx o5 z5
      have a9 := PT_field (part_LoomRun_0).1 n6
      refine L_load (x := .tmp 47) Try.isAgg3 Try.sizeOf3 a9 fun dB b9 j7 => ?_
      obtain rfl := RV_int.1 b9
      refine E_drawL (g := l6) (n := 14) [] [0, 1, 2, 3, 4, 5, 6, 7, 8, 9, 10, 11, 12, 13] rfl mixed (by kernel_rfl) trivial ?_
      refine L_pur (c := .int .i64 (x2)) rfl rfl .plain (fun _ _ hd => P_move m4) ?_
      refine L_pur (c := .bool ((decide (x2 > (0 : Int))))) rfl rfl .plain (fun _ _ hd => P_int rfl rfl rfl) ?_
      refine L_pur (c := .bool ((decide (x2 > (0 : Int))))) rfl rfl .plain (fun _ _ hd => P_move rfl) ?_
      refine L_pur (c := fPtr p5 0) rfl rfl (.yes2 rfl rfl j0) (fun _ _ hd => P_fieldAddr at_76_0 n4 (OB.ptr j1)) ?_
      refine L_ld (c := .int .i64 ((y2).Order)) rfl rfl (.yes2 rfl rfl j0) (fun _ _ h => ⟨h.ch, fun b hb _ => h.below.block b hb⟩) i7 rfl ?_
      refine L_pur (c := up1) rfl rfl (.yes2 rfl rfl j0) (fun _ _ hd => P_move m6) ?_
      refine L_pur (c := .int .i64 (x2)) rfl rfl (.yes2 rfl rfl j0) (fun _ _ hd => P_move m4) ?_
      refine L_pur (c := .int .i64 ((w64 (x2 - (1 : Int))))) rfl rfl (.yes2 rfl rfl j0) (fun _ _ hd => P_int rfl rfl rfl) ?_
      refine L_pur (c := ePtr up1 (w64 (x2 - (1 : Int))) 3) rfl rfl (.yes2 rfl rfl j0) (fun _ _ hd => P_indexAddr (α := LoomRun) Try.underlying31 Try.sizeOf76 rfl o5 rfl z5) ?_
      refine L_pur (c := fPtr (ePtr up1 (w64 (x2 - (1 : Int))) 3) 0) rfl rfl (.yes2 rfl rfl j0) (fun _ _ hd => P_fieldAddr at_76_0 rfl (PT.ptr n6)) ?_
      refine L_ld (c := .int .i64 ((o3).Order)) rfl rfl (.yes2 rfl rfl j0) (fun _ _ h => h.ch) j7 rfl ?_
      refine L_pur (c := .bool ((decide ((y2).Order ≤ (o3).Order)))) rfl rfl (.yes2 rfl rfl j0) (fun _ _ hd => P_int rfl rfl rfl) ?_
      refine L_pur (c := .bool ((decide ((y2).Order ≤ (o3).Order)))) rfl rfl .plain (fun _ _ hd => P_pick (b := (decide (x2 > (0 : Int)))) rfl (pick_t j0 rfl)) ?_
      refine L_pur (c := .bool ((decide ((y2).Order ≤ (o3).Order)))) rfl rfl .plain (fun _ _ hd => P_assign rfl) ?_
      refine L_nil fun c9 eB hall => ?_
      have hs := hall.1
      have hfr := hfr.ext hs
      have d3 := d3.ext hs
      have j1 := j1.ext hs
      clear hs hall
      refine EL_nil ?_
      obtain rfl := sinj h
      exact hQ _ _ ⟨c9, hfr, q5, d3, n4, j1, rfl⟩
     ·refine E_drawL (g := l6) (n := 14) [] [0, 1, 2, 3, 4, 5, 6, 7, 8, 9, 10, 11, 12, 13] rfl mixed (by kernel_rfl) trivial ?_
      refine L_pur (c := .int .i64 (x2)) rfl rfl .plain (fun _ _ hd => P_move m4) ?_
      refine L_pur (c := .bool ((decide (x2 > (0 : Int))))) rfl rfl .plain (fun _ _ hd => P_int rfl rfl rfl) ?_
      refine L_pur (c := .bool ((decide (x2 > (0 : Int))))) rfl rfl .plain (fun _ _ hd => P_move rfl) ?_
      refine L_skip rfl (.no2 rfl rfl j0 rfl) ?_
      refine L_skip rfl (.no2 rfl rfl j0 rfl) ?_
      refine L_skip rfl (.no2 rfl rfl j0 rfl) ?_
      refine L_skip rfl (.no2 rfl rfl j0 rfl) ?_
      refine L_skip rfl (.no2 rfl rfl j0 rfl) ?_
      refine L_skip rfl (.no2 rfl rfl j0 rfl) ?_
      refine L_skip rfl (.no2 rfl rfl j0 rfl) ?_
      refine L_skip rfl (.no2 rfl rfl j0 rfl) ?_
      refine L_skip rfl (.no2 rfl rfl j0 rfl) ?_
      refine L_pur (c := .bool false) rfl rfl .plain (fun _ _ hd => P_pick (b := (decide (x2 > (0 : Int)))) rfl (pick_f j0 rfl)) ?_
      refine L_pur (c := .bool false) rfl rfl .plain (fun _ _ hd => P_assign rfl) ?_
      refine L_nil fun d9 iB hall => ?_
      have hs := hall.1
      have hfr := hfr.ext hs
      have d3 := d3.ext hs
      have j1 := j1.ext hs
      clear hs hall
      refine EL_nil ?_
      obtain rfl := sinj h
      exact hQ _ _ ⟨d9, hfr, q5, d3, n4, j1, rfl⟩
    ·clear hx
     obtain ⟨e9, hfr, j3, u0, i3, o0, p4⟩ := hR
     rcases csome h with ⟨j5, h⟩ | ⟨j5, h⟩
     ·refine E_cond_true (Eq.trans (show ev _ _ = .bool (j2) from p4) (congrArg Value.bool j5)) ?_
      refine E_seq (E_region (EL_at (.int .i64 (4)) rfl rfl ?_))
      refine EL_nil (thn_n (E_ret (blk_r ?_)))
      refine thn_r ?_
      obtain rfl := sinj h
      exact end1 rfl rfl (show _ = .int .i64 (4) from rfl) ⟨_, hfr, rfl⟩
     ·refine E_cond_false (Eq.trans (show ev _ _ = .bool (j2) from p4) (congrArg Value.bool j5)) ?_
      refine E_seq ?_
      have g9 := PT_field (part_LoomLoomMill_1).1 u0
      refine L_load (x := .tmp 52) Try.isAgg25 Try.sizeOf25 g9 fun u5 o6 l7 => ?_
      refine L_loadO (x := .tmp 54) part_LoomRun_0.1 Try.isAgg3 Try.sizeOf3 o0 fun jB i9 m7 => ?_
      obtain rfl := RV_int.1 i9
      obtain ⟨d4, a6, h⟩ := bsome h
      have p6 := PT_idx o6 a6
      have j9 := PT_field (part_LoomOrder_0).1 p6
      refine L_load (x := .tmp 57) Try.isAgg3 Try.sizeOf3 j9 fun kB k9 n7 => ?_
      obtain rfl := RV_int.1 k9
      have q6 := PT_field (part_LoomLoomMill_0).1 u0
      have l9 := PT_field (part_LoomMill_0).1 q6
      refine L_load (x := .tmp 60) Try.isAgg22 Try.sizeOf22 l9 fun r6 t6 o7 => ?_
      refine L_loadO (x := .tmp 62) part_LoomRun_1.1 Try.isAgg3 Try.sizeOf3 o0 fun lB m9 p7 => ?_
      obtain rfl := RV_int.1 m9
      obtain ⟨i4, c6, h⟩ := bsome h
      have n9 := PT_idx t6 c6
      refine L_load (x := .tmp 64) Try.isAgg3 Try.sizeOf3 n9 fun mB o9 q7 => ?_
      obtain rfl := RV_int.1 o9
      refine E_drawL (g := e9) (n := 16) [] [0, 1, 2, 3, 4, 5, 6, 7, 8, 9, 10, 11, 12, 13, 14, 15] rfl mixed (by kernel_rfl) trivial ?_
      refine L_pur (c := fPtr p1 2) rfl rfl .plain (fun _ _ hd => P_fieldAddr at_96_1 j3 (PT.ptr u0)) ?_
      refine L_ld (c := u5) rfl rfl .plain (fun _ _ h => h.ch) l7 rfl ?_
      refine L_pur (c := fPtr p5 0) rfl rfl .plain (fun _ _ hd => P_fieldAddr at_76_0 i3 (OB.ptr o0)) ?_
      refine L_ld (c := .int .i64 ((y2).Order)) rfl rfl .plain (fun _ _ h => ⟨h.ch, fun b hb _ => h.below.block b hb⟩) m7 rfl ?_
      refine L_pur (c := ePtr u5 (y2).Order 5) rfl rfl .plain (fun _ _ hd => P_indexAddr (α := LoomOrder) Try.underlying25 Try.sizeOf82 rfl o6 rfl a6) ?_
      refine L_pur (c := fPtr (ePtr u5 (y2).Order 5) 0) rfl rfl .plain (fun _ _ hd => P_fieldAddr at_82_0 rfl (PT.ptr p6)) ?_
      refine L_ld (c := .int .i64 ((d4).Width)) rfl rfl .plain (fun _ _ h => h.ch) n7 rfl ?_
      refine L_pur (c := fPtr p1 0) rfl rfl .plain (fun _ _ hd => P_fieldAddr at_96_0 j3 (PT.ptr u0)) ?_
      refine L_pur (c := fPtr (fPtr p1 0) 0) rfl rfl .plain (fun _ _ hd => P_fieldAddr at_24_0 rfl (PT.ptr q6)) ?_
      refine L_ld (c := r6) rfl rfl .plain (fun _ _ h => h.ch) o7 rfl ?_
      refine L_pur (c := fPtr p5 1) rfl rfl .plain (fun _ _ hd => P_fieldAddr at_76_1 i3 (OB.ptr o0)) ?_
      refine L_ld (c := .int .i64 ((y2).Loom)) rfl rfl .plain (fun _ _ h => ⟨h.ch, fun b hb _ => h.below.block b hb⟩) p7 rfl ?_
      refine L_pur (c := ePtr r6 (y2).Loom 1) rfl rfl .plain (fun _ _ hd => P_indexAddr (α := Int) Try.underlying22 Try.sizeOf3 rfl t6 rfl c6) ?_
      refine L_ld (c := .int .i64 (i4)) rfl rfl .plain (fun _ _ h => h.ch) q7 rfl ?_
      refine L_pur (c := .bool ((decide ((d4).Width > i4)))) rfl rfl .plain (fun _ _ hd => P_int rfl rfl rfl) ?_
      refine L_pur (c := .bool ((decide ((d4).Width > i4)))) rfl rfl .plain (fun _ _ hd => P_assign rfl) ?_
      refine L_nil fun p9 nB hall => ?_
      have hs := hall.1
      have hfr := hfr.ext hs
      have u0 := u0.ext hs
      have o0 := o0.ext hs
      clear hs hall
      refine EL_nil (thn_n ?_)
      rcases csome h with ⟨l5, h⟩ | ⟨l5, h⟩
      ·refine E_ct l5 rfl ?_
       refine E_seq (E_region (EL_at (.int .i64 (2)) rfl rfl ?_))
       refine EL_nil (thn_n (E_ret (blk_r ?_)))
       refine thn_r ?_
       obtain rfl := sinj h
       exact end1 rfl rfl (show _ = .int .i64 (2) from rfl) ⟨_, hfr, rfl⟩
      ·refine E_cf l5 rfl ?_
       obtain ⟨z2, hx, h⟩ := bsome h
       refine E_join (fun e w => ∃ (g : Gh) , Fr gI wI g w ∧ e 67 = .bool (z2)) (fun Q' hQ => ?_) (fun mA oB hR => ?_)
       ·replace h := hx
        clear hx
        refine E_seq (L_loadO (x := .tmp 68) part_LoomRun_2.1 Try.isAgg3 Try.sizeOf3 o0 fun pB q9 r7 => ?_)
        obtain rfl := RV_int.1 q9
        have r9 := PT_field (part_LoomLoomMill_1).1 u0
        refine L_load (x := .tmp 70) Try.isAgg25 Try.sizeOf25 r9 fun x5 u6 t7 => ?_
        refine L_loadO (x := .tmp 72) part_LoomRun_0.1 Try.isAgg3 Try.sizeOf3 o0 fun qB t9 u7 => ?_
        obtain rfl := RV_int.1 t9
        obtain ⟨p3, d6, h⟩ := bsome h
        have v6 := PT_idx u6 d6
        have u9 := PT_field (part_LoomOrder_3).1 v6
        refine L_load (x := .tmp 75) Try.isAgg3 Try.sizeOf3 u9 fun rB v9 v7 => ?_
        obtain rfl := RV_int.1 v9
        refine E_drawL (g := p9) (n := 11) [] [0, 1, 2, 3, 4, 5, 6, 7, 8, 9, 10] rfl mixed (by kernel_rfl) trivial ?_
        refine L_pur (c := fPtr p5 2) rfl rfl .plain (fun _ _ hd => P_fieldAddr at_76_2 i3 (OB.ptr o0)) ?_
        refine L_ld (c := .int .i64 ((y2).From)) rfl rfl .plain (fun _ _ h => ⟨h.ch, fun b hb _ => h.below.block b hb⟩) r7 rfl ?_
        refine L_pur (c := fPtr p1 2) rfl rfl .plain (fun _ _ hd => P_fieldAddr at_96_1 j3 (PT.ptr u0)) ?_
        refine L_ld (c := x5) rfl rfl .plain (fun _ _ h => h.ch) t7 rfl ?_
        refine L_pur (c := fPtr p5 0) rfl rfl .plain (fun _ _ hd => P_fieldAddr at_76_0 i3 (OB.ptr o0)) ?_
        refine L_ld (c := .int .i64 ((y2).Order)) rfl rfl .plain (fun _ _ h => ⟨h.ch, fun b hb _ => h.below.block b hb⟩) u7 rfl ?_
        refine L_pur (c := ePtr x5 (y2).Order 5) rfl rfl .plain (fun _ _ hd => P_indexAddr (α := LoomOrder) Try.underlying25 Try.sizeOf82 rfl u6 rfl d6) ?_
        refine L_pur (c := fPtr (ePtr x5 (y2).Order 5) 3) rfl rfl .plain (fun _ _ hd => P_fieldAddr at_82_3 rfl (PT.ptr v6)) ?_
        refine L_ld (c := .int .i64 ((p3).Early)) rfl rfl .plain (fun _ _ h => h.ch) v7 rfl ?_
        refine L_pur (c := .bool ((decide ((y2).From < (p3).Early)))) rfl rfl .plain (fun _ _ hd => P_int rfl rfl rfl) ?_
        refine L_pur (c := .bool ((decide ((y2).From < (p3).Early)))) rfl rfl .plain (fun _ _ hd => P_assign rfl) ?_
        refine L_nil fun x6 sB hall => ?_
        have hs := hall.1
        have hfr := hfr.ext hs
        have u0 := u0.ext hs
        have o0 := o0.ext hs
        clear hs hall
        refine EL_nil (thn_n ?_)
        rcases csome h with ⟨m5, h⟩ | ⟨m5, h⟩
        ·refine E_ct m5 rfl ?_
         refine E_skip ?_
         obtain rfl := sinj h
         exact hQ _ _ ⟨x6, hfr, rfl⟩
        ·refine E_cf m5 rfl ?_
         refine L_load (x := .tmp 3) Try.isAgg96 Try.sizeOf96 u0 fun y6 x9 x7 => ?_
         refine L_loadO0 (x := .tmp 7) Try.isAgg76 Try.sizeOf76 o0 fun z6 y9 y7 => ?_
         obtain ⟨u3, z7, h⟩ := bsome h
         have z9 := PT_field (part_LoomLoomMill_1).1 u0
         refine L_load (x := .tmp 81) Try.isAgg25 Try.sizeOf25 z9 fun y5 a7 a8 => ?_
         refine L_loadO (x := .tmp 83) part_LoomRun_0.1 Try.isAgg3 Try.sizeOf3 o0 fun tB aA b8 => ?_
         obtain rfl := RV_int.1 aA
         obtain ⟨j4, i6, h⟩ := bsome h
         have b7 := PT_idx a7 i6
         have bA := PT_field (part_LoomOrder_4).1 b7
         refine L_load (x := .tmp 86) Try.isAgg3 Try.sizeOf3 bA fun uB cA c8 => ?_
         obtain rfl := RV_int.1 cA
         refine E_drawL (g := x6) (n := 12) [(2, (fun v g w => v = .int .i64 (u3)))] [0, 1, 2, 3, 4, 5, 6, 7, 8, 9, 10, 11] rfl mixed (by kernel_rfl) (⟨fun _ => up_eq _, trivial⟩) ?_
         refine L_ld (c := y6) rfl rfl .plain (fun _ _ h => h.ch) x7 j3 ?_
         refine L_ld (c := z6) rfl rfl .plain (fun _ _ h => ⟨h.ch, fun b hb _ => h.below.block b hb⟩) y7 i3 ?_
         refine L_do (φ := fun v g w => v = .int .i64 (u3)) rfl rfl .plain (fun g w hd => D_call (g := g) (vs := [y6, z6]) en73 (.cons rfl (.cons rfl .nil)) (wk73 (x9.ext hd.1) (y9.ext hd.1) z7) fun g' w' v hs hr => ⟨g', hs, hr⟩) (fun vB hv => ?_)
         obtain ⟨_, _, _, rfl⟩ := hv
         refine L_pur (c := fPtr p1 2) rfl rfl .plain (fun _ _ hd => P_fieldAddr at_96_1 j3 (PT.ptr u0)) ?_
         refine L_ld (c := y5) rfl rfl .plain (fun _ _ h => h.ch) a8 rfl ?_
         refine L_pur (c := fPtr p5 0) rfl rfl .plain (fun _ _ hd => P_fieldAddr at_76_0 i3 (OB.ptr o0)) ?_
         refine L_ld (c := .int .i64 ((y2).Order)) rfl rfl .plain (fun _ _ h => ⟨h.ch, fun b hb _ => h.below.block b hb⟩) b8 rfl ?_
         refine L_pur (c := ePtr y5 (y2).Order 5) rfl rfl .plain (fun _ _ hd => P_indexAddr (α := LoomOrder) Try.underlying25 Try.sizeOf82 rfl a7 rfl i6) ?_
         refine L_pur (c := fPtr (ePtr y5 (y2).Order 5) 4) rfl rfl .plain (fun _ _ hd => P_fieldAddr at_82_4 rfl (PT.ptr b7)) ?_
         refine L_ld (c := .int .i64 ((j4).Late)) rfl rfl .plain (fun _ _ h => h.ch) c8 rfl ?_
         refine L_pur (c := .bool ((decide (u3 > (j4).Late)))) rfl rfl .plain (fun _ _ hd => P_int rfl rfl rfl) ?_
         refine L_pur (c := .bool ((decide (u3 > (j4).Late)))) rfl rfl .plain (fun _ _ hd => P_assign rfl) ?_
         refine L_nil fun dA xB hall => ?_
         have hs := hall.1
         have hfr := hfr.ext hs
         clear hs hall
         refine EL_nil ?_
         obtain rfl := sinj h
         exact hQ _ _ ⟨dA, hfr, rfl⟩
       ·clear hx
        obtain ⟨eA, hfr, u4⟩ := hR
        rcases csome h with ⟨n5, h⟩ | ⟨n5, h⟩
        ·refine E_cond_true (Eq.trans (show ev _ _ = .bool (z2) from u4) (congrArg Value.bool n5)) ?_
         refine E_seq (E_region (EL_at (.int .i64 (3)) rfl rfl ?_))
         refine EL_nil (thn_n (E_ret (blk_r ?_)))
         refine thn_r ?_
         obtain rfl := sinj h
         exact end1 rfl rfl (show _ = .int .i64 (3) from rfl) ⟨_, hfr, rfl⟩
        ·refine E_cond_false (Eq.trans (show ev _ _ = .bool (z2) from u4) (congrArg Value.bool n5)) ?_
         exact E_skip (blk_n (thn_n (c7 () _ _ ⟨eA, hfr⟩ h)))
 ·rintro _ nA yB ⟨zB, hfr⟩ h
  refine E_seq (E_region (EL_at (.int .i64 (0)) rfl rfl ?_))
  refine EL_nil (thn_n (E_ret ?_))
  obtain rfl := sinj h
  exact end1 rfl rfl (show _ = .int .i64 (0) from rfl) ⟨_, hfr, rfl⟩
/-- (griffe/loom.mill).soon -/
def f94 (x0 : LoomLoomMill) (x1 : List LoomRun) : Option (Int) :=
 (mks 1 (false : Bool) (((x1).length : Int))).bind fun y2 =>
 Option.bind (α := (List Bool)) (
  lp (σ := (List Bool) × Int) (fun y6 (m4, o0) =>
   bif (decide (o0 < ((((x0).LoomMill).Widths).length : Int))) then
    Option.bind (α := (List Bool)) (
     (f68 x1 o0).bind fun d3 =>
     lp (σ := (List Bool) × Int) (fun z6 (i3, j0) =>
      jn (σ := Unit) (fun (_ : Unit) =>
       Option.bind (α := (List Bool)) (
        (idx d3 j0).bind fun d6 =>
        (idx x1 d6).bind fun j3 =>
        (idx d3 j0).bind fun n4 =>
        (idx d3 (w64 (j0 - (1 : Int)))).bind fun d5 =>
        (idx x1 d5).bind fun a7 =>
        (f69 x0 a7 ((j3).Order)).bind fun i4 =>
        (idx i3 n4).bind fun v8 =>
        some ((List.set i3 (Int.toNat n4) ((decide ((j3).From < i4)))))
        ) fun o3 =>
       z6 (o3, (w64 (j0 + (1 : Int))))
       ) fun b7 =>
      bif (decide (j0 < ((d3).length : Int))) then
       b7 ()
      else
       some (i3)
      ) big (m4, (1 : Int))
     ) fun p3 =>
    y6 (p3, (w64 (o0 + (1 : Int))))
   else
    some (m4)
   ) big (y2, (0 : Int))
  ) fun o4 =>
 (f103 o4 true).bind fun i5 =>
 some (i5)
theorem en94 : Enters Try.prog 94 := enters_of Try.func94 (by kernel_rfl) rfl
theorem wk94 {gI : Gh} {wI : World} {x0 : LoomLoomMill} {x1 : List LoomRun} {up0 : Value} (rp0 : RV gI.m wI x0 up0) {up1 : Value} (rp1 : RV gI.m wI x1 up1) {r : Int} (h : f94 x0 x1 = some r) : Fn Try.prog 94 #[up0, up1] gI wI (fun _ _ v => v = .int .i64 (r)) := by
 unfold f94 at h
 refine fn_of_E Try.func94 rfl (Nat.le_of_ble_eq_true rfl) fun g0 hm hfr => ?_
 have rp0 : RV g0.m wI x0 up0 := hm ▸ rp0
 have rp1 : RV g0.m wI x1 up1 := hm ▸ rp1
 show E _ 60 none _ _ _ _ _
 refine E_seq (E_region (EL_do .plain rfl (D_box (g := g0) rfl rp0 fun g1 w1 p1 hs q1 => ?_)))
 have hfr := hfr.ext hs
 have rp1 := rp1.ext hs
 refine EL_at (.int .i64 (0)) rfl rfl ?_
 refine EL_nil (thn_n (E_seq (E_region (EL_mw up1 rfl rfl ?_))))
 refine EL_pur (v := .int .i64 ((x1).length : Int)) (P_len Try.underlying31 rfl rp1) .plain rfl ?_
 obtain ⟨y2, hy2, h⟩ := bsome h
 refine EL_do .plain rfl (D_makeSliceM (g := g1) 9012 (false : Bool) rfl Try.underlying101 info_4 rfl (fun _ _ => rfl) rfl rfl hy2 fun g3 w3 v3 hs b3 => ?_)
 have hfr := hfr.stp hs
 have rp1 := rp1.stp hs
 have q1 := q1.stp hs
 refine EL_at v3 rfl rfl ?_
 refine EL_nil (thn_n ?_)
 obtain ⟨o4, hx, h⟩ := bsome h
 refine E_join (fun e w => ∃ (g : Gh) , Fr gI wI g w ∧ e 5 = v3 ∧ OM 9012 g w 4 (o4 : List Bool) v3) (fun Q' hQ => ?_) (fun y9 iA hR => ?_)
 ·replace h := hx
  clear hx
  refine E_seq (E_region (EL_pur (v := fPtr p1 0) (P_fieldAddr at_96_0 rfl (PT.ptr q1)) .plain rfl ?_))
  have c7 := PT_field (part_LoomLoomMill_0).1 q1
  refine EL_pur (v := fPtr (fPtr p1 0) 0) (P_fieldAddr at_24_0 rfl (PT.ptr c7)) .plain rfl ?_
  have x8 := PT_field (part_LoomMill_0).1 c7
  refine EL_do .plain rfl (D_load (g := g3) Try.isAgg22 Try.sizeOf22 rfl x8 fun jA y8 => ?_)
  refine EL_pur (v := .int .i64 ((((x0).LoomMill).Widths).length : Int)) (P_len Try.underlying22 rfl y8) .plain rfl ?_
  refine EL_mw (.int .i64 (0)) rfl rfl ?_
  refine EL_nil (thn_n (E_block ?_))
  refine E_lp h (fun (s : (List Bool) × Int) e w => ∃ (g : Gh) , Fr gI wI g w ∧ e 1 = up1 ∧ RV g.m w (x1 : List LoomRun) up1 ∧ e 2 = p1 ∧ PT g.m w (x0 : LoomLoomMill) p1 ∧ e 5 = v3 ∧ OM 9012 g w 4 (s.1 : List Bool) v3 ∧ e 16 = .int .i64 (((((x0).LoomMill).Widths).length : Int)) ∧ e 17 = .int .i64 (s.2)) ⟨g3, hfr, rfl, rp1, rfl, q1, rfl, b3, rfl, rfl⟩ (fun X284 y6 g8 => ?_)
  rintro ⟨m4, o0⟩ z9 kA ⟨d7, hfr, m5, u3, e7, p4, n5, z3, x4, j4⟩ h
  refine E_seq (E_region (EL_pur (v := .bool ((decide (o0 < ((((x0).LoomMill).Widths).length : Int))))) (P_int j4 x4 rfl) .plain rfl ?_))
  refine EL_nil (thn_n (E_seq ?_))
  rcases csome h with ⟨j5, h⟩ | ⟨j5, h⟩
  ·refine E_ct j5 rfl ?_
   refine E_skip (thn_n ?_)
   obtain ⟨p3, hx, h⟩ := bsome h
   refine E_join (fun e w => ∃ (g : Gh) , Fr gI wI g w ∧ e 1 = up1 ∧ RV g.m w (x1 : List LoomRun) up1 ∧ e 2 = p1 ∧ PT g.m w (x0 : LoomLoomMill) p1 ∧ e 5 = v3 ∧ OM 9012 g w 4 (p3 : List Bool) v3 ∧ e 16 = .int .i64 (((((x0).LoomMill).Widths).length : Int)) ∧ e 17 = .int .i64 (o0)) (fun Q' hQ => ?_) (fun aA lA hR => ?_)
   ·replace h := hx
    clear hx
    refine E_block ?_
    refine E_seq (E_region (EL_mv j4 rfl ?_))
    refine EL_at (.int .i64 (o0)) rfl rfl ?_
    refine EL_nil (thn_n (E_seq (E_region (EL_mv m5 rfl ?_))))
    refine EL_mw (.int .i64 (o0)) rfl rfl ?_
    obtain ⟨d3, i8, h⟩ := bsome h
    refine EL_do .plain rfl (D_call (g := d7) (vs := [up1, .int .i64 (o0)]) en68 (.cons rfl (.cons rfl .nil)) (wk68 u3 i8) fun z8 bA z2 hs hr => ?_)
    have hfr := hfr.ext hs
    have u3 := u3.ext hs
    have p4 := p4.ext hs
    have z3 := z3.ext hs
    have a9 := hr
    refine EL_at z2 rfl rfl ?_
    refine EL_nil (thn_n (E_seq (E_region (EL_at (.int .i64 (1)) rfl rfl ?_))))
    refine EL_nil (thn_n (E_block ?_))
    refine E_lp h (fun (s : (List Bool) × Int) e w => ∃ (g : Gh) , Fr gI wI g w ∧ e 1 = up1 ∧ RV g.m w (x1 : List LoomRun) up1 ∧ e 2 = p1 ∧ PT g.m w (x0 : LoomLoomMill) p1 ∧ e 5 = v3 ∧ OM 9012 g w 4 (s.1 : List Bool) v3 ∧ e 7 = z2 ∧ RV g.m w (d3 : List Int) z2 ∧ e 8 = .int .i64 (s.2) ∧ e 16 = .int .i64 (((((x0).LoomMill).Widths).length : Int)) ∧ e 17 = .int .i64 (o0)) ⟨z8, hfr, m5, u3, e7, p4, n5, z3, rfl, a9, rfl, x4, j4⟩ (fun X424 z6 j8 => ?_)
    rintro ⟨i3, j0⟩ cA mA ⟨g7, hfr, o5, p5, q5, t5, u5, x5, y5, z5, a6, z4, c5⟩ h
    refine E_joinC h (fun (s : Unit) e w => ∃ (g : Gh) , Fr gI wI g w ∧ e 1 = up1 ∧ RV g.m w (x1 : List LoomRun) up1 ∧ e 2 = p1 ∧ PT g.m w (x0 : LoomLoomMill) p1 ∧ e 5 = v3 ∧ OM 9012 g w 4 (i3 : List Bool) v3 ∧ e 7 = z2 ∧ RV g.m w (d3 : List Int) z2 ∧ e 8 = .int .i64 (j0) ∧ e 16 = .int .i64 (((((x0).LoomMill).Widths).length : Int)) ∧ e 17 = .int .i64 (o0)) (fun X427 b7 k8 h => ?_) ?_
    ·refine E_seq (E_region (EL_mv a6 rfl ?_))
     refine EL_mv y5 rfl ?_
     refine EL_pur (v := .int .i64 ((d3).length : Int)) (P_len Try.underlying22 rfl z5) .plain rfl ?_
     refine EL_in (.bool ((decide (j0 < ((d3).length : Int))))) rfl rfl rfl rfl ?_
     refine EL_nil (thn_n ?_)
     rcases csome h with ⟨l5, h⟩ | ⟨l5, h⟩
     ·refine E_ct l5 rfl ?_
      exact E_skip (thn_n (k8 () _ _ ⟨g7, hfr, o5, p5, q5, t5, u5, x5, y5, z5, a6, z4, c5⟩ h))
     ·refine E_cf l5 rfl ?_
      refine E_exit ?_
      refine thn_e ?_
      refine thn_e ?_
      refine blk_hit ?_
      refine blk_n ?_
      obtain rfl := sinj h
      exact hQ _ _ ⟨g7, hfr, o5, p5, q5, t5, u5, x5, z4, c5⟩
    ·rintro _ dA nA ⟨i6, hfr, u4, j1, b6, z1, c6, j2, c4, u0, d4, q6, r6⟩ h
     obtain ⟨o3, hx, h⟩ := bsome h
     refine E_join (fun e w => ∃ (g : Gh) , Fr gI wI g w ∧ e 1 = up1 ∧ RV g.m w (x1 : List LoomRun) up1 ∧ e 2 = p1 ∧ PT g.m w (x0 : LoomLoomMill) p1 ∧ e 5 = v3 ∧ OM 9012 g w 4 (o3 : List Bool) v3 ∧ e 7 = z2 ∧ RV g.m w (d3 : List Int) z2 ∧ e 8 = .int .i64 (j0) ∧ e 16 = .int .i64 (((((x0).LoomMill).Widths).length : Int)) ∧ e 17 = .int .i64 (o0)) (fun Q' hQ => ?_) (fun eA oA hR => ?_)
     ·replace h := hx
      clear hx
      refine E_block ?_
      refine E_seq (E_region (EL_mv u4 rfl ?_))
      refine EL_mv c4 rfl ?_
      refine EL_mv d4 rfl ?_
      obtain ⟨d6, k6, h⟩ := bsome h
      refine EL_pur (v := ePtr z2 j0 1) (P_indexAddr (α := Int) Try.underlying22 Try.sizeOf3 rfl u0 rfl k6) .plain rfl ?_
      have b9 := PT_idx u0 k6
      refine EL_do .plain rfl (D_load (g := i6) Try.isAgg3 Try.sizeOf3 rfl b9 fun pA c9 => ?_)
      obtain rfl := RV_int.1 c9
      obtain ⟨j3, l6, h⟩ := bsome h
      refine EL_pur (v := ePtr up1 d6 3) (P_indexAddr (α := LoomRun) Try.underlying31 Try.sizeOf76 rfl j1 rfl l6) .plain rfl ?_
      have d9 := PT_idx j1 l6
      refine EL_do .plain rfl (D_load (g := i6) Try.isAgg76 Try.sizeOf76 rfl d9 fun e9 j6 => ?_)
      refine EL_do .plain rfl (D_allocOc (g := i6) 2009 (⟨0, 0, 0⟩ : LoomRun) Try.zeroValue76 (fun m w => ⟨_, (rep_two rep_int (rep_two rep_int rep_int)), rfl⟩) fun g9 qA i7 hs b499 cb => ?_)
      have hfr := hfr.stp hs
      have j1 := j1.stp hs
      have z1 := z1.stp hs
      have j2 := j2.stp hs rfl
      have u0 := u0.stp hs
      have j6 := j6.stp hs
      clear cb
      refine EL_do .plain rfl (D_storeOc (g := g9) (v := e9) Try.sizeOf76 rfl b499 rfl j6 fun i9 rA hs b500 cb => ?_)
      clear cb
      have hfr := hfr.stp hs
      have j1 := j1.stp hs
      have z1 := z1.stp hs
      have j2 := j2.stp hs rfl
      have u0 := u0.stp hs
      refine EL_nil (thn_n ?_)
      obtain ⟨n4, m6, h⟩ := bsome h
      have j9 := PT_idx u0 m6
      refine L_load (x := .tmp 39) Try.isAgg3 Try.sizeOf3 j9 fun sA k9 l8 => ?_
      obtain rfl := RV_int.1 k9
      refine L_loadO (x := .tmp 41) part_LoomRun_2.1 Try.isAgg3 Try.sizeOf3 b500 fun tA l9 m8 => ?_
      obtain rfl := RV_int.1 l9
      refine L_load (x := .tmp 2) Try.isAgg96 Try.sizeOf96 z1 fun j7 m9 n8 => ?_
      obtain ⟨d5, n6, h⟩ := bsome h
      have n9 := PT_idx u0 n6
      refine L_load (x := .tmp 48) Try.isAgg3 Try.sizeOf3 n9 fun uA o9 o8 => ?_
      obtain rfl := RV_int.1 o9
      obtain ⟨a7, o6, h⟩ := bsome h
      have p9 := PT_idx j1 o6
      refine L_load (x := .tmp 50) Try.isAgg76 Try.sizeOf76 p9 fun l7 q9 p8 => ?_
      refine L_loadO (x := .tmp 52) part_LoomRun_0.1 Try.isAgg3 Try.sizeOf3 b500 fun vA r9 q8 => ?_
      obtain rfl := RV_int.1 r9
      obtain ⟨i4, r8, h⟩ := bsome h
      obtain ⟨v8, p6, h⟩ := bsome h
      refine E_drawL (g := i9) (n := 21) [(18, (fun v g w => v = .int .i64 (i4)))] [0, 1, 2, 3, 4, 5, 6, 7, 8, 9, 10, 11, 12, 13, 14, 15, 16, 17, 18, 19, 20] rfl mixed (by kernel_rfl) (⟨fun _ => up_eq _, trivial⟩) ?_
      refine L_pur (c := v3) rfl rfl .plain (fun _ _ hd => P_move c6) ?_
      refine L_pur (c := z2) rfl rfl .plain (fun _ _ hd => P_move c4) ?_
      refine L_pur (c := .int .i64 (j0)) rfl rfl .plain (fun _ _ hd => P_move d4) ?_
      refine L_pur (c := ePtr z2 j0 1) rfl rfl .plain (fun _ _ hd => P_indexAddr (α := Int) Try.underlying22 Try.sizeOf3 rfl u0 rfl m6) ?_
      refine L_ld (c := .int .i64 (n4)) rfl rfl .plain (fun _ _ h => h.ch) l8 rfl ?_
      refine L_pur (c := fPtr i7 2) rfl rfl .plain (fun _ _ hd => P_fieldAddr at_76_2 rfl (OB.ptr b500)) ?_
      refine L_ld (c := .int .i64 ((j3).From)) rfl rfl .plain (fun _ _ h => ⟨h.ch, fun b hb _ => h.below.block b hb⟩) m8 rfl ?_
      refine L_ld (c := j7) rfl rfl .plain (fun _ _ h => h.ch) n8 b6 ?_
      refine L_pur (c := up1) rfl rfl .plain (fun _ _ hd => P_move u4) ?_
      refine L_pur (c := z2) rfl rfl .plain (fun _ _ hd => P_move c4) ?_
      refine L_pur (c := .int .i64 (j0)) rfl rfl .plain (fun _ _ hd => P_move d4) ?_
      refine L_pur (c := .int .i64 ((w64 (j0 - (1 : Int))))) rfl rfl .plain (fun _ _ hd => P_int rfl rfl rfl) ?_
      refine L_pur (c := ePtr z2 (w64 (j0 - (1 : Int))) 1) rfl rfl .plain (fun _ _ hd => P_indexAddr (α := Int) Try.underlying22 Try.sizeOf3 rfl u0 rfl n6) ?_
      refine L_ld (c := .int .i64 (d5)) rfl rfl .plain (fun _ _ h => h.ch) o8 rfl ?_
      refine L_pur (c := ePtr up1 d5 3) rfl rfl .plain (fun _ _ hd => P_indexAddr (α := LoomRun) Try.underlying31 Try.sizeOf76 rfl j1 rfl o6) ?_
      refine L_ld (c := l7) rfl rfl .plain (fun _ _ h => h.ch) p8 rfl ?_
      refine L_pur (c := fPtr i7 0) rfl rfl .plain (fun _ _ hd => P_fieldAddr at_76_0 rfl (OB.ptr b500)) ?_
      refine L_ld (c := .int .i64 ((j3).Order)) rfl rfl .plain (fun _ _ h => ⟨h.ch, fun b hb _ => h.below.block b hb⟩) q8 rfl ?_
      refine L_do (φ := fun v g w => v = .int .i64 (i4)) rfl rfl .plain (fun g w hd => D_call (g := g) (vs := [j7, l7, .int .i64 ((j3).Order)]) en69 (.cons rfl (.cons rfl (.cons rfl .nil))) (wk69 (m9.ext hd.1) (q9.ext hd.1) r8) fun g' w' v hs hr => ⟨g', hs, hr⟩) (fun xA hv => ?_)
      obtain ⟨_, _, _, rfl⟩ := hv
      refine L_pur (c := .bool ((decide ((j3).From < i4)))) rfl rfl .plain (fun _ _ hd => P_int rfl rfl rfl) ?_
      refine L_pur (c := ePtr v3 n4 1) rfl rfl .plain (fun _ _ hd => P_indexAddrM (α := Bool) Try.underlying101 Try.sizeOf4 rfl j2 rfl p6) ?_
      refine L_nil fun t9 yA hall => ?_
      have hs := hall.1
      have hfr := hfr.ext hs
      have j1 := j1.ext hs
      have z1 := z1.ext hs
      have j2 := j2.ext hs
      have u0 := u0.ext hs
      clear hs hall
      refine EL_do .plain rfl (D_storeM (g := t9) (α := Bool) (a' := ((decide ((j3).From < i4)))) Try.sizeOf4 rfl j2 p6 rfl (RV_bool.2 rfl) fun u9 zA hs b555 => ?_)
      have hfr := hfr.stp hs
      have j1 := j1.stp hs
      have z1 := z1.stp hs
      have u0 := u0.stp hs
      refine EL_nil (blk_n ?_)
      obtain rfl := sinj h
      exact hQ _ _ ⟨u9, hfr, u4, j1, b6, z1, c6, b555, c4, u0, d4, q6, r6⟩
     ·clear hx
      obtain ⟨v9, hfr, m7, n7, o7, p7, q7, r7, t7, u7, v7, t6, u6⟩ := hR
      refine E_region (EL_mv v7 rfl ?_)
      refine EL_in (.int .i64 ((w64 (j0 + (1 : Int))))) rfl rfl rfl rfl ?_
      refine EL_at (.int .i64 ((w64 (j0 + (1 : Int))))) rfl rfl ?_
      exact EL_nil (thn_n (j8 (o3, (w64 (j0 + (1 : Int)))) _ _ ⟨v9, hfr, m7, n7, o7, p7, q7, r7, t7, u7, rfl, t6, u6⟩ h))
   ·clear hx
    obtain ⟨x9, hfr, x7, y7, z7, a8, b8, c8, v6, x6⟩ := hR
    refine E_region (EL_in (.int .i64 ((w64 (o0 + (1 : Int))))) x6 rfl rfl rfl ?_)
    refine EL_mw (.int .i64 ((w64 (o0 + (1 : Int))))) rfl rfl ?_
    exact EL_nil (thn_n (g8 (p3, (w64 (o0 + (1 : Int)))) _ _ ⟨x9, hfr, x7, y7, z7, a8, b8, c8, v6, rfl⟩ h))
  ·refine E_cf j5 rfl ?_
   refine E_exit ?_
   refine thn_e ?_
   refine thn_e ?_
   refine blk_hit ?_
   obtain rfl := sinj h
   exact hQ _ _ ⟨d7, hfr, n5, z3⟩
 ·clear hx
  obtain ⟨aB, hfr, d8, e8⟩ := hR
  refine E_seq (E_region (EL_mv d8 rfl ?_))
  obtain ⟨gp559, hs, rp559⟩ := OM.pub e8
  have hfr := hfr.stp hs
  obtain ⟨i5, t8, h⟩ := bsome h
  refine EL_do .plain rfl (D_call (g := gp559) (vs := [v3, .bool true]) en103 (.cons rfl (.cons rfl .nil)) (wk103 rp559 t8) fun bB gA cB hs hr => ?_)
  have hfr := hfr.ext hs
  subst hr
  refine EL_at (.int .i64 (i5)) rfl rfl ?_
  refine EL_nil (thn_n (E_ret ?_))
  obtain rfl := sinj h
  exact end1 rfl rfl (show _ = .int .i64 (i5) from rfl) ⟨_, hfr, rfl⟩
/-- griffe/loom.Push$1 -/
def f70 (x0 : LoomRun) : Option (Bool) :=
 (f71 (([(x0).From] : List Int))).bind fun y6 =>
 some ((!y6))
theorem en70 : Enters Try.prog 70 := enters_of Try.func70 (by kernel_rfl) rfl
theorem wk70 {gI : Gh} {wI : World} {x0 : LoomRun} {up0 : Value} (rp0 : RV gI.m wI x0 up0) {r : Bool} (h : f70 x0 = some r) : Fn Try.prog 70 #[up0] gI wI (fun _ _ v => v = .bool (r)) := by
 unfold f70 at h
 refine fn_of_E Try.func70 rfl (Nat.le_of_ble_eq_true rfl) fun g0 hm hfr => ?_
 have rp0 : RV g0.m wI x0 up0 := hm ▸ rp0
 show E _ 8 none _ _ _ _ _
 refine E_seq (E_region (EL_do .plain rfl (D_box (g := g0) rfl rp0 fun g1 w1 p1 hs q1 => ?_)))
 have hfr := hfr.ext hs
 refine EL_at (.bool false) rfl rfl ?_
 refine EL_nil (thn_n (E_seq (E_region (EL_pur (v := fPtr p1 2) (P_fieldAddr at_76_2 rfl (PT.ptr q1)) .plain rfl ?_))))
 have q2 := PT_field (part_LoomRun_2).1 q1
 refine EL_do .plain rfl (D_load (g := g1) Try.isAgg3 Try.sizeOf3 rfl q2 fun v3 r3 => ?_)
 obtain rfl := RV_int.1 r3
 refine EL_do .plain rfl (D_buildSlice (g := g1) 3005 (xs := ([(x0).From] : List Int)) (vs := [.int .i64 ((x0).From)]) Try.underlying22 Try.sizeOf3 Try.zeroValue3 rfl rfl (.cons rfl .nil) (RVs.cons (RV_int.2 rfl) RVs.nil) rfl rfl fun g4 w4 v4 hs o4 r4 hxt hfl => ?_)
 have hfr := hfr.stp hs
 obtain ⟨y6, j0, h⟩ := bsome h
 refine EL_do .plain rfl (D_call (g := g4) (vs := [v4]) en71 (.cons rfl .nil) (wk71 r4 j0) fun g5 w5_ v5 hs hr => ?_)
 have hfr := hfr.ext hs
 subst hr
 refine EL_pur (v := .bool (!y6)) (P_not rfl) .plain rfl ?_
 refine EL_at (.bool (!y6)) rfl rfl ?_
 refine EL_nil (thn_n (E_ret ?_))
 obtain rfl := sinj h
 exact end1 rfl rfl (show _ = .bool (!y6) from rfl) ⟨_, hfr, rfl⟩
/-- (griffe/loom.mill).holds -/
def f78 (x0 : LoomLoomMill) (x1 : List LoomRun) : Option (Int × Int) :=
 jn (σ := Unit) (fun (_ : Unit) =>
  jn (σ := Unit) (fun (_ : Unit) =>
   jn (σ := Unit) (fun (_ : Unit) =>
    some ((0 : Int), (0 : Int))
    ) fun d5 =>
   (f94 x0 x1).bind fun o0 =>
   bif (decide (o0 ≥ (0 : Int))) then
    some (o0, (6 : Int))
   else
    d5 ()
   ) fun i5 =>
  lp (σ := Int) (fun j5 j0 =>
   bif (decide (j0 < ((x1).length : Int))) then
    jn (σ := Unit) (fun (_ : Unit) =>
     j5 ((w64 (j0 + (1 : Int))))
     ) fun l5 =>
    (f93 x0 x1 j0).bind fun u0 =>
    bif (u0 != (0 : Int)) then
     some (j0, u0)
    else
     l5 ()
   else
    i5 ()
   ) big ((0 : Int))
  ) fun k5 =>
 bif (decide (((x1).length : Int) > (((x0).orders).length : Int))) then
  some ((0 : Int), (5 : Int))
 else
  k5 ()
theorem en78 : Enters Try.prog 78 := enters_of Try.func78 (by kernel_rfl) rfl
theorem wk78 {gI : Gh} {wI : World} {x0 : LoomLoomMill} {x1 : List LoomRun} {up0 : Value} (rp0 : RV gI.m wI x0 up0) {up1 : Value} (rp1 : RV gI.m wI x1 up1) {r : Int × Int} (h : f78 x0 x1 = some r) : Fn Try.prog 78 #[up0, up1] gI wI (fun m w v => ∃ y0 y1, v = .tuple #[y0, y1] ∧ y0 = .int .i64 (r.1) ∧ y1 = .int .i64 (r.2)) := by
 unfold f78 at h
 refine fn_of_E Try.func78 rfl (Nat.le_of_ble_eq_true rfl) fun g0 hm hfr => ?_
 have rp0 : RV g0.m wI x0 up0 := hm ▸ rp0
 have rp1 : RV g0.m wI x1 up1 := hm ▸ rp1
 show E _ 35 none _ _ _ _ _
 refine E_seq (E_region (EL_do .plain rfl (D_box (g := g0) rfl rp0 fun g1 w1 p1 hs q1 => ?_)))
 have hfr := hfr.ext hs
 have rp1 := rp1.ext hs
 refine EL_at (.int .i64 (0)) rfl rfl ?_
 refine EL_at (.int .i64 (0)) rfl rfl ?_
 refine EL_nil (thn_n (E_joinC h (fun (s : Unit) e w => ∃ (g : Gh) , Fr gI wI g w ∧ e 1 = up1 ∧ RV g.m w (x1 : List LoomRun) up1 ∧ e 2 = p1 ∧ PT g.m w (x0 : LoomLoomMill) p1) (fun X5 k5 hk5 h => ?_) ?_))
 ·refine E_seq (E_region (EL_mw up1 rfl rfl ?_))
  refine EL_pur (v := .int .i64 ((x1).length : Int)) (P_len Try.underlying31 rfl rp1) .plain rfl ?_
  refine EL_pur (v := fPtr p1 2) (P_fieldAddr at_96_1 rfl (PT.ptr q1)) .plain rfl ?_
  have q6 := PT_field (part_LoomLoomMill_1).1 q1
  refine EL_do .plain rfl (D_load (g := g1) Try.isAgg25 Try.sizeOf25 rfl q6 fun v7 r7 => ?_)
  refine EL_pur (v := .int .i64 (((x0).orders).length : Int)) (P_len Try.underlying25 rfl r7) .plain rfl ?_
  refine EL_pur (v := .bool ((decide (((x1).length : Int) > (((x0).orders).length : Int))))) (P_int rfl rfl rfl) .plain rfl ?_
  refine EL_nil (thn_n ?_)
  rcases csome h with ⟨u3, h⟩ | ⟨u3, h⟩
  ·refine E_ct u3 rfl ?_
   refine E_seq (E_region (EL_at (.int .i64 (0)) rfl rfl ?_))
   refine EL_at (.int .i64 (5)) rfl rfl ?_
   refine EL_nil (thn_n (E_ret (thn_r ?_)))
   obtain rfl := sinj h
   exact end2 rfl rfl (show _ = .int .i64 (0) from rfl) (show _ = .int .i64 (5) from rfl) ⟨_, hfr, _, _, rfl, rfl, rfl⟩
  ·refine E_cf u3 rfl ?_
   exact E_skip (thn_n (hk5 () _ _ ⟨g1, hfr, rfl, rp1, rfl, q1⟩ h))
 ·rintro _ r6 w9 ⟨g9, hfr, z3, c4, n5, o5⟩ h
  refine E_joinC h (fun (s : Unit) e w => ∃ (g : Gh) , Fr gI wI g w ∧ e 1 = up1 ∧ RV g.m w (x1 : List LoomRun) up1 ∧ e 2 = p1 ∧ PT g.m w (x0 : LoomLoomMill) p1) (fun X23 i5 p5 h => ?_) ?_
  ·refine E_seq (E_region (EL_mv z3 rfl ?_))
   refine EL_pur (v := .int .i64 ((x1).length : Int)) (P_len Try.underlying31 rfl c4) .plain rfl ?_
   refine EL_mw (.int .i64 (0)) rfl rfl ?_
   refine EL_nil (thn_n (E_block ?_))
   refine E_lp h (fun (s : Int) e w => ∃ (g : Gh) , Fr gI wI g w ∧ e 1 = up1 ∧ RV g.m w (x1 : List LoomRun) up1 ∧ e 2 = p1 ∧ PT g.m w (x0 : LoomLoomMill) p1 ∧ e 16 = .int .i64 (((x1).length : Int)) ∧ e 17 = .int .i64 (s)) ⟨g9, hfr, z3, c4, n5, o5, rfl, rfl⟩ (fun X24 j5 q5 => ?_)
   rintro j0 k6 t6 ⟨d4, hfr, z2, j1, d3, z1, i3, j2⟩ h
   refine E_seq (E_region (EL_in (.bool ((decide (j0 < ((x1).length : Int))))) j2 i3 rfl rfl ?_))
   refine EL_nil (thn_n (E_seq ?_))
   rcases csome h with ⟨j3, h⟩ | ⟨j3, h⟩
   ·refine E_ct j3 rfl ?_
    refine E_skip (thn_n (E_joinC h (fun (s : Unit) e w => ∃ (g : Gh) , Fr gI wI g w ∧ e 1 = up1 ∧ RV g.m w (x1 : List LoomRun) up1 ∧ e 2 = p1 ∧ PT g.m w (x0 : LoomLoomMill) p1 ∧ e 16 = .int .i64 (((x1).length : Int)) ∧ e 17 = .int .i64 (j0)) (fun X31 l5 t5 h => ?_) ?_))
    ·refine E_block ?_
     refine E_seq (E_region (EL_mv j2 rfl ?_))
     refine EL_at (.int .i64 (j0)) rfl rfl ?_
     refine EL_nil (thn_n (E_seq (E_region (EL_do .plain rfl (D_load (g := d4) Try.isAgg96 Try.sizeOf96 d3 z1 fun z5 a6 => ?_)))))
     refine EL_mv z2 rfl ?_
     refine EL_mw (.int .i64 (j0)) rfl rfl ?_
     obtain ⟨u0, u5, h⟩ := bsome h
     refine EL_do .plain rfl (D_call (g := d4) (vs := [z5, up1, .int .i64 (j0)]) en93 (.cons rfl (.cons rfl (.cons rfl .nil))) (wk93 a6 j1 u5) fun b6 l6 u6 hs hr => ?_)
     have hfr := hfr.ext hs
     have j1 := j1.ext hs
     have z1 := z1.ext hs
     subst hr
     refine EL_at (.int .i64 (u0)) rfl rfl ?_
     refine EL_nil (thn_n (E_seq (E_region (EL_mw (.int .i64 (u0)) rfl rfl ?_))))
     refine EL_in (.bool ((u0 != (0 : Int)))) rfl rfl rfl rfl ?_
     refine EL_nil (thn_n ?_)
     rcases csome h with ⟨o3, h⟩ | ⟨o3, h⟩
     ·refine E_ct o3 rfl ?_
      refine E_seq (E_region (EL_mw (.int .i64 (j0)) rfl rfl ?_))
      refine EL_mw (.int .i64 (u0)) rfl rfl ?_
      refine EL_at (.int .i64 (j0)) rfl rfl ?_
      refine EL_at (.int .i64 (u0)) rfl rfl ?_
      refine EL_nil (thn_n (E_ret (blk_r ?_)))
      refine thn_r ?_
      refine thn_r ?_
      refine blk_r ?_
      refine thn_r ?_
      obtain rfl := sinj h
      exact end2 rfl rfl (show _ = .int .i64 (j0) from rfl) (show _ = .int .i64 (u0) from rfl) ⟨_, hfr, _, _, rfl, rfl, rfl⟩
     ·refine E_cf o3 rfl ?_
      exact E_skip (blk_n (thn_n (t5 () _ _ ⟨b6, hfr, z2, j1, d3, z1, i3, j2⟩ h)))
    ·rintro _ m6 v6 ⟨c6, hfr, m4, n4, o4, p4, i4, j4⟩ h
     refine E_region (EL_in (.int .i64 ((w64 (j0 + (1 : Int))))) j4 rfl rfl rfl ?_)
     refine EL_mw (.int .i64 ((w64 (j0 + (1 : Int))))) rfl rfl ?_
     exact EL_nil (thn_n (q5 ((w64 (j0 + (1 : Int)))) _ _ ⟨c6, hfr, m4, n4, o4, p4, i4, rfl⟩ h))
   ·refine E_cf j3 rfl ?_
    refine E_exit ?_
    refine thn_e ?_
    refine thn_e ?_
    refine blk_hit ?_
    exact thn_n (p5 () _ _ ⟨d4, hfr, z2, j1, d3, z1⟩ h)
  ·rintro _ n6 x6 ⟨m5, hfr, u4, x4, z4, c5⟩ h
   refine E_joinC h (fun (s : Unit) e w => ∃ (g : Gh) , Fr gI wI g w) (fun X42 d5 x5 h => ?_) ?_
   ·refine E_seq (E_region (EL_do .plain rfl (D_load (g := m5) Try.isAgg96 Try.sizeOf96 z4 c5 fun d6 i6 => ?_)))
    refine EL_mv u4 rfl ?_
    obtain ⟨o0, y5, h⟩ := bsome h
    refine EL_do .plain rfl (D_call (g := m5) (vs := [d6, up1]) en94 (.cons rfl (.cons rfl .nil)) (wk94 i6 x4 y5) fun j6 o6 y6 hs hr => ?_)
    have hfr := hfr.ext hs
    subst hr
    refine EL_at (.int .i64 (o0)) rfl rfl ?_
    refine EL_nil (thn_n (E_seq (E_region (EL_mw (.int .i64 (o0)) rfl rfl ?_))))
    refine EL_in (.bool ((decide (o0 ≥ (0 : Int))))) rfl rfl rfl rfl ?_
    refine EL_nil (thn_n ?_)
    rcases csome h with ⟨p3, h⟩ | ⟨p3, h⟩
    ·refine E_ct p3 rfl ?_
     refine E_seq (E_region (EL_mw (.int .i64 (o0)) rfl rfl ?_))
     refine EL_at (.int .i64 (o0)) rfl rfl ?_
     refine EL_at (.int .i64 (6)) rfl rfl ?_
     refine EL_nil (thn_n (E_ret (thn_r ?_)))
     obtain rfl := sinj h
     exact end2 rfl rfl (show _ = .int .i64 (o0) from rfl) (show _ = .int .i64 (6) from rfl) ⟨_, hfr, _, _, rfl, rfl, rfl⟩
    ·refine E_cf p3 rfl ?_
     exact E_skip (thn_n (x5 () _ _ ⟨j6, hfr⟩ h))
   ·rintro _ p6 z6 ⟨a7, hfr⟩ h
    refine E_seq (E_region (EL_at (.int .i64 (0)) rfl rfl ?_))
    refine EL_at (.int .i64 (0)) rfl rfl ?_
    refine EL_nil (thn_n (E_ret ?_))
    obtain rfl := sinj h
    exact end2 rfl rfl (show _ = .int .i64 (0) from rfl) (show _ = .int .i64 (0) from rfl) ⟨_, hfr, _, _, rfl, rfl, rfl⟩
/-- griffe/loom.open$1 -/
def f79 (x0 : LoomOrder) : Option (Bool) :=
 (f80 x0).bind fun y4 =>
 some ((!y4))
theorem en79 : Enters Try.prog 79 := enters_of Try.func79 (by kernel_rfl) rfl
theorem wk79 {gI : Gh} {wI : World} {x0 : LoomOrder} {up0 : Value} (rp0 : RV gI.m wI x0 up0) {r : Bool} (h : f79 x0 = some r) : Fn Try.prog 79 #[up0] gI wI (fun _ _ v => v = .bool (r)) := by
 unfold f79 at h
 refine fn_of_E Try.func79 rfl (Nat.le_of_ble_eq_true rfl) fun g0 hm hfr => ?_
 have rp0 : RV g0.m wI x0 up0 := hm ▸ rp0
 show E _ 6 none _ _ _ _ _
 refine E_seq (E_region (EL_do .plain rfl (D_box (g := g0) rfl rp0 fun g1 w1 p1 hs q1 => ?_)))
 have hfr := hfr.ext hs
 refine EL_at (.bool false) rfl rfl ?_
 refine EL_nil (thn_n (E_seq (E_region (EL_do .plain rfl (D_load (g := g1) Try.isAgg82 Try.sizeOf82 rfl q1 fun v2 r2 => ?_)))))
 obtain ⟨y4, j0, h⟩ := bsome h
 refine EL_do .plain rfl (D_call (g := g1) (vs := [v2]) en80 (.cons rfl .nil) (wk80 r2 j0) fun g3 w3_ v3 hs hr => ?_)
 have hfr := hfr.ext hs
 subst hr
 refine EL_pur (v := .bool (!y4)) (P_not rfl) .plain rfl ?_
 refine EL_at (.bool (!y4)) rfl rfl ?_
 refine EL_nil (thn_n (E_ret ?_))
 obtain rfl := sinj h
 exact end1 rfl rfl (show _ = .bool (!y4) from rfl) ⟨_, hfr, rfl⟩
/-- griffe/loom.open -/
def f50 (x0 : LoomMill) (x1 : List LoomOrder) : Option (LoomLoomMill × Int) :=
 jn (σ := LoomLoomMill) (fun i5 =>
  some ((⟨x0, x1⟩ : LoomLoomMill), (0 : Int))
  ) fun l6 =>
 Option.bind (α := Bool) (
  bif (decide ((((x0).Widths).length : Int) > (3 : Int))) then
   some ((decide ((((x0).Widths).length : Int) > (3 : Int))))
  else
   some ((decide (((x1).length : Int) > (7 : Int))))
  ) fun z2 =>
 bif z2 then
  some ((⟨⟨[], 0⟩, []⟩ : LoomLoomMill), (5 : Int))
 else
  Option.bind (α := Bool) (
   bif ((((x0).Widths).length : Int) == (0 : Int)) then
    some (((((x0).Widths).length : Int) == (0 : Int)))
   else
    (f81 ((1 : Int)) ((100 : Int)) ((x0).Widths)).bind fun o3 =>
    bif (!o3) then
     some ((!o3))
    else
     (f81 ((0 : Int)) ((20 : Int)) (([(x0).Change] : List Int))).bind fun p3 =>
     bif (!p3) then
      some ((!p3))
     else
      (f82 x1 ((fun a0 => f79 a0))).bind fun j5 =>
      some (j5)
   ) fun z1 =>
  bif z1 then
   some ((⟨⟨[], 0⟩, []⟩ : LoomLoomMill), (2 : Int))
  else
   l6 ((⟨⟨[], 0⟩, []⟩ : LoomLoomMill))
theorem en50 : Enters Try.prog 50 := enters_of Try.func50 (by kernel_rfl) rfl
theorem wk50 {gI : Gh} {wI : World} {x0 : LoomMill} {x1 : List LoomOrder} {up0 : Value} (rp0 : RV gI.m wI x0 up0) {up1 : Value} (rp1 : RV gI.m wI x1 up1) {r : LoomLoomMill × Int} (h : f50 x0 x1 = some r) : Fn Try.prog 50 #[up0, up1] gI wI (fun m w v => ∃ y0 y1, v = .tuple #[y0, y1] ∧ RV m w (r.1) y0 ∧ y1 = .int .i64 (r.2)) := by
 unfold f50 at h
 refine fn_of_E Try.func50 rfl (Nat.le_of_ble_eq_true rfl) fun g0 hm hfr => ?_
 have rp0 : RV g0.m wI x0 up0 := hm ▸ rp0
 have rp1 : RV g0.m wI x1 up1 := hm ▸ rp1
 show E _ 37 none _ _ _ _ _
 refine E_seq (E_region (EL_do .plain rfl (D_box (g := g0) rfl rp0 fun g1 w1 p1 hs q1 => ?_)))
 have hfr := hfr.ext hs
 have rp1 := rp1.ext hs
 refine EL_do .plain rfl (D_allocOc (g := g1) 2004 (⟨⟨[], 0⟩, []⟩ : LoomLoomMill) Try.zeroValue96 (fun m w => ⟨_, (rep_two (rep_two rep_nil rep_int) rep_nil), rfl⟩) fun g2 w2 p2 hs b2 cb => ?_)
 have hfr := hfr.stp hs
 have rp1 := rp1.stp hs
 have q1 := q1.stp hs
 have l5 : OSF 2004 60400 0 g2 w2 3 96 ([] : List Int) p2 := cb.osf (by rfl)
 have m5 : OSF 2004 60402 2 g2 w2 82 96 ([] : List LoomOrder) p2 := cb.osf (by rfl)
 clear cb
 refine EL_at (.int .i64 (0)) rfl rfl ?_
 refine EL_nil (thn_n (E_seq (E_region (EL_at (.func (.func 79) #[] #[]) rfl rfl ?_))))
 refine EL_nil (thn_n (E_joinC h (fun (s : LoomLoomMill) e w => ∃ (g : Gh) , Fr gI wI g w ∧ e 1 = up1 ∧ RV g.m w (x1 : List LoomOrder) up1 ∧ e 2 = p1 ∧ PT g.m w (x0 : LoomMill) p1 ∧ e 4 = p2 ∧ OB 2004 g w 96 (s : LoomLoomMill) p2 ∧ OSF 2004 60400 0 g w 3 96 (((s).LoomMill).Widths) p2 ∧ OSF 2004 60402 2 g w 82 96 ((s).orders) p2) (fun X51 l6 x6 h => ?_) ?_))
 ·refine E_block ?_
  obtain ⟨z2, hx, h⟩ := bsome h
  refine E_join (fun e w => ∃ (g : Gh) , Fr gI wI g w ∧ e 1 = up1 ∧ RV g.m w (x1 : List LoomOrder) up1 ∧ e 2 = p1 ∧ PT g.m w (x0 : LoomMill) p1 ∧ e 4 = p2 ∧ OB 2004 g w 96 ((⟨⟨[], 0⟩, []⟩ : LoomLoomMill) : LoomLoomMill) p2 ∧ OSF 2004 60400 0 g w 3 96 ((((⟨⟨[], 0⟩, []⟩ : LoomLoomMill)).LoomMill).Widths) p2 ∧ OSF 2004 60402 2 g w 82 96 (((⟨⟨[], 0⟩, []⟩ : LoomLoomMill)).orders) p2 ∧ e 6 = .func (.func 79) #[] #[] ∧ e 7 = .bool (z2)) (fun Q' hQ => ?_) (fun c8 d7 hR => ?_)
  ·replace h := hx
   clear hx
   refine E_seq (E_region (EL_pur (v := fPtr p1 0) (P_fieldAddr at_24_0 rfl (PT.ptr q1)) .plain rfl ?_))
   have e7 := PT_field (part_LoomMill_0).1 q1
   refine EL_do .plain rfl (D_load (g := g2) Try.isAgg22 Try.sizeOf22 rfl e7 fun m8 g7 => ?_)
   refine EL_pur (v := .int .i64 (((x0).Widths).length : Int)) (P_len Try.underlying22 rfl g7) .plain rfl ?_
   refine EL_pur (v := .bool ((decide ((((x0).Widths).length : Int) > (3 : Int))))) (P_int rfl rfl rfl) .plain rfl ?_
   refine EL_pur (v := .bool ((decide ((((x0).Widths).length : Int) > (3 : Int))))) (P_assign rfl) .plain rfl ?_
   refine EL_nil (thn_n ?_)
   rcases csome h with ⟨d4, h⟩ | ⟨d4, h⟩
   ·refine E_ct d4 rfl ?_
    refine E_skip ?_
    obtain rfl := sinj h
    exact hQ _ _ ⟨g2, hfr, rfl, rp1, rfl, q1, rfl, b2, l5, m5, rfl, rfl⟩
   ·refine E_cf d4 rfl ?_
    refine E_region (EL_mw up1 rfl rfl ?_)
    refine EL_pur (v := .int .i64 ((x1).length : Int)) (P_len Try.underlying25 rfl rp1) .plain rfl ?_
    refine EL_in (.bool ((decide (((x1).length : Int) > (7 : Int))))) rfl rfl rfl rfl ?_
    refine EL_at (.bool ((decide (((x1).length : Int) > (7 : Int))))) rfl rfl ?_
    refine EL_nil ?_
    obtain rfl := sinj h
    exact hQ _ _ ⟨g2, hfr, rfl, rp1, rfl, q1, rfl, b2, l5, m5, rfl, rfl⟩
  ·clear hx
   obtain ⟨i3, hfr, d3, o0, j1, j0, j2, u0, u4_0_58, u4_2_58, a6, c5⟩ := hR
   rcases csome h with ⟨i4, h⟩ | ⟨i4, h⟩
   ·refine E_cond_true (Eq.trans (show ev _ _ = .bool (z2) from c5) (congrArg Value.bool i4)) ?_
    refine E_seq (E_region ?_)
    have m6 : RV i3.m d7 (⟨⟨[], 0⟩, []⟩ : LoomLoomMill) (.agg (setCh [[.slice none 0 0, .int .i64 0], [.slice none 0 0]] []).flatten.toArray) := RV_build rfl (rep_pair ((rep_two rep_nil rep_int)) (rep_last (rep_nil)))
    generalize j4 : (Value.agg (setCh [[.slice none 0 0, .int .i64 0], [.slice none 0 0]] []).flatten.toArray) = n6 at m6
    refine EL_pur (v := n6) (j4 ▸ P_build (vs := []) [[.slice none 0 0, .int .i64 0], [.slice none 0 0]] lay_96 rfl rfl .nil trivial) .plain rfl ?_
    refine EL_do .plain rfl (D_storeOc (g := i3) (v := n6) Try.sizeOf96 j2 u0 rfl m6 fun o6 p6 hs b61 cb => ?_)
    have x7 : OSF 2004 60400 0 o6 p6 3 96 ([] : List Int) p2 := cb.osf (by rw [← j4]; rfl)
    have y7 : OSF 2004 60402 2 o6 p6 82 96 ([] : List LoomOrder) p2 := cb.osf (by rw [← j4]; rfl)
    clear cb
    have hfr := hfr.stp hs
    refine EL_at (.int .i64 (5)) rfl rfl ?_
    refine EL_nil (thn_n (E_ret (blk_r ?_)))
    refine thn_r ?_
    obtain rfl := sinj h
    obtain ⟨ad62, cv62, hp62, y6, cr62⟩ := ob_read Try.isAgg96 Try.sizeOf96 b61
    exact endm_ct rfl rfl ((show _ = p2 from j2).trans hp62) y6 (show _ = .int .i64 (5) from rfl) ⟨_, hfr, _, _, rfl, cr62, rfl⟩
   ·refine E_cond_false (Eq.trans (show ev _ _ = .bool (z2) from c5) (congrArg Value.bool i4)) ?_
    obtain ⟨z1, hx, h⟩ := bsome h
    refine E_join (fun e w => ∃ (g : Gh) , Fr gI wI g w ∧ e 1 = up1 ∧ RV g.m w (x1 : List LoomOrder) up1 ∧ e 2 = p1 ∧ PT g.m w (x0 : LoomMill) p1 ∧ e 4 = p2 ∧ OB 2004 g w 96 ((⟨⟨[], 0⟩, []⟩ : LoomLoomMill) : LoomLoomMill) p2 ∧ OSF 2004 60400 0 g w 3 96 ((((⟨⟨[], 0⟩, []⟩ : LoomLoomMill)).LoomMill).Widths) p2 ∧ OSF 2004 60402 2 g w 82 96 (((⟨⟨[], 0⟩, []⟩ : LoomLoomMill)).orders) p2 ∧ e 16 = .bool (z1)) (fun Q' hQ => ?_) (fun d8 i7 hR => ?_)
    ·replace h := hx
     clear hx
     refine E_seq (E_region (EL_pur (v := fPtr p1 0) (P_fieldAddr at_24_0 j1 (PT.ptr j0)) .plain rfl ?_))
     have j7 := PT_field (part_LoomMill_0).1 j0
     refine EL_do .plain rfl (D_load (g := i3) Try.isAgg22 Try.sizeOf22 rfl j7 fun n8 l7 => ?_)
     refine EL_pur (v := .int .i64 (((x0).Widths).length : Int)) (P_len Try.underlying22 rfl l7) .plain rfl ?_
     refine EL_in (.bool (((((x0).Widths).length : Int) == (0 : Int)))) rfl rfl rfl rfl ?_
     refine EL_at (.bool (((((x0).Widths).length : Int) == (0 : Int)))) rfl rfl ?_
     refine EL_nil (thn_n ?_)
     rcases csome h with ⟨m4, h⟩ | ⟨m4, h⟩
     ·refine E_ct m4 rfl ?_
      refine E_skip ?_
      obtain rfl := sinj h
      exact hQ _ _ ⟨i3, hfr, d3, o0, j1, j0, j2, u0, u4_0_58, u4_2_58, rfl⟩
     ·refine E_cf m4 rfl ?_
      refine E_seq (E_region (EL_pur (v := fPtr p1 0) (P_fieldAddr at_24_0 j1 (PT.ptr j0)) .plain rfl ?_))
      have m7 := PT_field (part_LoomMill_0).1 j0
      refine EL_do .plain rfl (D_load (g := i3) Try.isAgg22 Try.sizeOf22 rfl m7 fun n7 o7 => ?_)
      obtain ⟨o3, z6, h⟩ := bsome h
      refine EL_do .plain rfl (D_call (g := i3) (vs := [.int .i64 (1), .int .i64 (100), n7]) en81 (.cons rfl (.cons rfl (.cons rfl .nil))) (wk81 o7 z6) fun n5 e8 o8 hs hr => ?_)
      have hfr := hfr.ext hs
      have o0 := o0.ext hs
      have j0 := j0.ext hs
      have u4_0_58 := u4_0_58.ext hs
      have u4_2_58 := u4_2_58.ext hs
      have u0 := u0.ext hs
      subst hr
      refine EL_pur (v := .bool (!o3)) (P_not rfl) .plain rfl ?_
      refine EL_at (.bool (!o3)) rfl rfl ?_
      refine EL_nil (thn_n ?_)
      rcases csome h with ⟨n4, h⟩ | ⟨n4, h⟩
      ·refine E_ct n4 rfl ?_
       refine E_skip ?_
       obtain rfl := sinj h
       exact hQ _ _ ⟨n5, hfr, d3, o0, j1, j0, j2, u0, u4_0_58, u4_2_58, rfl⟩
      ·refine E_cf n4 rfl ?_
       refine E_seq (E_region (EL_pur (v := fPtr p1 1) (P_fieldAddr at_24_1 j1 (PT.ptr j0)) .plain rfl ?_))
       have p7 := PT_field (part_LoomMill_1).1 j0
       refine EL_do .plain rfl (D_load (g := n5) Try.isAgg3 Try.sizeOf3 rfl p7 fun p8 q7 => ?_)
       obtain rfl := RV_int.1 q7
       refine EL_do .plain rfl (D_buildSlice (g := n5) 3027 (xs := ([(x0).Change] : List Int)) (vs := [.int .i64 ((x0).Change)]) Try.underlying22 Try.sizeOf3 Try.zeroValue3 rfl rfl (.cons rfl .nil) (RVs.cons (RV_int.2 rfl) RVs.nil) rfl rfl fun r7 q8 t7 hs o89 u7 hxt hfl => ?_)
       have hfr := hfr.stp hs
       have o0 := o0.stp hs
       have j0 := j0.stp hs
       have u4_0_58 := u4_0_58.stp hs rfl
       have u4_2_58 := u4_2_58.stp hs rfl
       have u0 := u0.stp hs rfl
       obtain ⟨p3, a7, h⟩ := bsome h
       refine EL_do .plain rfl (D_call (g := r7) (vs := [.int .i64 (0), .int .i64 (20), t7]) en81 (.cons rfl (.cons rfl (.cons rfl .nil))) (wk81 u7 a7) fun q6 g8 r8 hs hr => ?_)
       have hfr := hfr.ext hs
       have o0 := o0.ext hs
       have j0 := j0.ext hs
       have u4_0_58 := u4_0_58.ext hs
       have u4_2_58 := u4_2_58.ext hs
       have u0 := u0.ext hs
       subst hr
       refine EL_pur (v := .bool (!p3)) (P_not rfl) .plain rfl ?_
       refine EL_at (.bool (!p3)) rfl rfl ?_
       refine EL_nil (thn_n ?_)
       rcases csome h with ⟨o4, h⟩ | ⟨o4, h⟩
       ·refine E_ct o4 rfl ?_
        refine E_skip ?_
        obtain rfl := sinj h
        exact hQ _ _ ⟨q6, hfr, d3, o0, j1, j0, j2, u0, u4_0_58, u4_2_58, rfl⟩
       ·refine E_cf o4 rfl ?_
        refine E_region (EL_mv d3 rfl ?_)
        refine EL_mv a6 rfl ?_
        obtain ⟨j5, b7, h⟩ := bsome h
        refine EL_do .plain rfl (D_call (g := q6) (vs := [up1, .func (.func 79) #[] #[]]) en82 (.cons rfl (.cons rfl .nil)) (wk82 o0 ⟨79, #[], #[], rfl, en79, fun g' w' hch a0 b0 r hu0 hr => by exact Fn.mono (wk79 hu0  hr) fun _ _ _ h => RV_bool.2 h⟩ b7) fun v7 i8 t8 hs hr => ?_)
        have hfr := hfr.ext hs
        have o0 := o0.ext hs
        have j0 := j0.ext hs
        have u4_0_58 := u4_0_58.ext hs
        have u4_2_58 := u4_2_58.ext hs
        have u0 := u0.ext hs
        subst hr
        refine EL_at (.bool (j5)) rfl rfl ?_
        refine EL_nil ?_
        obtain rfl := sinj h
        exact hQ _ _ ⟨v7, hfr, d3, o0, j1, j0, j2, u0, u4_0_58, u4_2_58, rfl⟩
    ·clear hx
     obtain ⟨o5, hfr, b6, c6, d6, i6, j3, d5, u4_0_95, u4_2_95, u3⟩ := hR
     rcases csome h with ⟨p4, h⟩ | ⟨p4, h⟩
     ·refine E_cond_true (Eq.trans (show ev _ _ = .bool (z1) from u3) (congrArg Value.bool p4)) ?_
      refine E_seq (E_region ?_)
      have r6 : RV o5.m i7 (⟨⟨[], 0⟩, []⟩ : LoomLoomMill) (.agg (setCh [[.slice none 0 0, .int .i64 0], [.slice none 0 0]] []).flatten.toArray) := RV_build rfl (rep_pair ((rep_two rep_nil rep_int)) (rep_last (rep_nil)))
      generalize u4 : (Value.agg (setCh [[.slice none 0 0, .int .i64 0], [.slice none 0 0]] []).flatten.toArray) = t6 at r6
      refine EL_pur (v := t6) (u4 ▸ P_build (vs := []) [[.slice none 0 0, .int .i64 0], [.slice none 0 0]] lay_96 rfl rfl .nil trivial) .plain rfl ?_
      refine EL_do .plain rfl (D_storeOc (g := o5) (v := t6) Try.sizeOf96 j3 d5 rfl r6 fun u6 v6 hs b98 cb => ?_)
      have z7 : OSF 2004 60400 0 u6 v6 3 96 ([] : List Int) p2 := cb.osf (by rw [← u4]; rfl)
      have a8 : OSF 2004 60402 2 u6 v6 82 96 ([] : List LoomOrder) p2 := cb.osf (by rw [← u4]; rfl)
      clear cb
      have hfr := hfr.stp hs
      refine EL_at (.int .i64 (2)) rfl rfl ?_
      refine EL_nil (thn_n (E_ret (blk_r ?_)))
      refine thn_r ?_
      obtain rfl := sinj h
      obtain ⟨ad99, cv99, hp99, c7, cr99⟩ := ob_read Try.isAgg96 Try.sizeOf96 b98
      exact endm_ct rfl rfl ((show _ = p2 from j3).trans hp99) c7 (show _ = .int .i64 (2) from rfl) ⟨_, hfr, _, _, rfl, cr99, rfl⟩
     ·refine E_cond_false (Eq.trans (show ev _ _ = .bool (z1) from u3) (congrArg Value.bool p4)) ?_
      exact E_skip (blk_n (thn_n (x6 ((⟨⟨[], 0⟩, []⟩ : LoomLoomMill)) _ _ ⟨o5, hfr, b6, c6, d6, i6, j3, d5, u4_0_95, u4_2_95⟩ h)))
 ·rintro i5 b8 j8 ⟨x4, hfr, p5, z3, q5, t5, c4, u5, u4_0_100, u4_2_100⟩ h
  refine E_seq (E_region (EL_do .plain rfl (D_load (g := x4) Try.isAgg24 Try.sizeOf24 q5 t5 fun z4 x5 => ?_)))
  refine EL_mv p5 rfl ?_
  have y5 : RV x4.m _ (⟨x0, x1⟩ : LoomLoomMill) (.agg (setCh [[.slice none 0 0, .int .i64 0], [.slice none 0 0]] [(0, z4), (1, up1)]).flatten.toArray) := RV_build rfl (rep_pair (RV.cells x5) (rep_last (RV.cells z3)))
  generalize j6 : (Value.agg (setCh [[.slice none 0 0, .int .i64 0], [.slice none 0 0]] [(0, z4), (1, up1)]).flatten.toArray) = z5 at y5
  refine EL_pur (v := z5) (j6 ▸ P_build (vs := [(0, z4), (1, up1)]) [[.slice none 0 0, .int .i64 0], [.slice none 0 0]] lay_96 rfl rfl (.cons rfl (.cons rfl .nil)) ⟨⟨_, rfl, cells_size x5⟩, ⟨⟨_, rfl, cells_size z3⟩, trivial⟩⟩) .plain rfl ?_
  refine EL_do .plain rfl (D_storeOc (g := x4) (v := z5) Try.sizeOf96 c4 u5 rfl y5 fun k8 l8 hs b103 cb => ?_)
  clear cb
  have hfr := hfr.stp hs
  refine EL_at (.int .i64 (0)) rfl rfl ?_
  refine EL_nil (thn_n (E_ret ?_))
  obtain rfl := sinj h
  obtain ⟨ad104, cv104, hp104, k6, cr104⟩ := ob_read Try.isAgg96 Try.sizeOf96 b103
  exact endm_ct rfl rfl ((show _ = p2 from c4).trans hp104) k6 (show _ = .int .i64 (0) from rfl) ⟨_, hfr, _, _, rfl, cr104, rfl⟩
/-- griffe/loom.newStill -/
def f65 (x0 : LoomMill) (x1 : List LoomOrder) (x2 : List LoomRun) (x3 : LoomStop) : Option (LoomStill × Int) :=
 (f50 x0 x1).bind fun y6 =>
 Option.bind (α := Int) (
  bif (y6.2 == (0 : Int)) then
   (f78 (y6.1) x2).bind fun o3 =>
   some (o3.2)
  else
   some (y6.2)
  ) fun j1 =>
 jn (σ := LoomStill) (fun y5 =>
  some ((⟨y6.1, x3⟩ : LoomStill), (0 : Int))
  ) fun x6 =>
 bif (j1 != (0 : Int)) then
  some ((⟨⟨⟨[], 0⟩, []⟩, ⟨0, ⟨0, 0⟩⟩⟩ : LoomStill), j1)
 else
  (f81 ((0 : Int)) ((w64 ((((x0).Widths).length : Int) - (1 : Int)))) (([(x3).Loom] : List Int))).bind fun n5 =>
  bif (!n5) then
   some ((⟨⟨⟨[], 0⟩, []⟩, ⟨0, ⟨0, 0⟩⟩⟩ : LoomStill), (7 : Int))
  else
   Option.bind (α := Bool) (
    (f71 (([((x3).Days).Low, ((x3).Days).High] : List Int))).bind fun u3 =>
    bif (!u3) then
     some ((!u3))
    else
     some ((decide (((x3).Days).Low > ((x3).Days).High)))
    ) fun d3 =>
   bif d3 then
    some ((⟨⟨⟨[], 0⟩, []⟩, ⟨0, ⟨0, 0⟩⟩⟩ : LoomStill), (2 : Int))
   else
    x6 ((⟨⟨⟨[], 0⟩, []⟩, ⟨0, ⟨0, 0⟩⟩⟩ : LoomStill))
theorem en65 : Enters Try.prog 65 := enters_of Try.func65 (by kernel_rfl) rfl
theorem wk65 {gI : Gh} {wI : World} {x0 : LoomMill} {x1 : List LoomOrder} {x2 : List LoomRun} {x3 : LoomStop} {up0 : Value} (rp0 : RV gI.m wI x0 up0) {up1 : Value} (rp1 : RV gI.m wI x1 up1) {up2 : Value} (rp2 : RV gI.m wI x2 up2) {up3 : Value} (rp3 : RV gI.m wI x3 up3) {r : LoomStill × Int} (h : f65 x0 x1 x2 x3 = some r) : Fn Try.prog 65 #[up0, up1, up2, up3] gI wI (fun m w v => ∃ y0 y1, v = .tuple #[y0, y1] ∧ RV m w (r.1) y0 ∧ y1 = .int .i64 (r.2)) := by
 unfold f65 at h
 refine fn_of_E Try.func65 rfl (Nat.le_of_ble_eq_true rfl) fun g0 hm hfr => ?_
 have rp0 : RV g0.m wI x0 up0 := hm ▸ rp0
 have rp1 : RV g0.m wI x1 up1 := hm ▸ rp1
 have rp2 : RV g0.m wI x2 up2 := hm ▸ rp2
 have rp3 : RV g0.m wI x3 up3 := hm ▸ rp3
 show E _ 62 none _ _ _ _ _
 refine E_seq (E_region (EL_do .plain rfl (D_box (g := g0) rfl rp0 fun g1 w1 p1 hs q1 => ?_)))
 have hfr := hfr.ext hs
 have rp1 := rp1.ext hs
 have rp2 := rp2.ext hs
 have rp3 := rp3.ext hs
 refine EL_do .plain rfl (D_box (g := g1) rfl rp3 fun g2 w2 p2 hs q2 => ?_)
 have hfr := hfr.ext hs
 have rp1 := rp1.ext hs
 have rp2 := rp2.ext hs
 have q1 := q1.ext hs
 refine EL_do .plain rfl (D_allocOc (g := g2) 2008 (⟨⟨⟨[], 0⟩, []⟩, ⟨0, ⟨0, 0⟩⟩⟩ : LoomStill) Try.zeroValue113 (fun m w => ⟨_, (rep_two (rep_two (rep_two rep_nil rep_int) rep_nil) (rep_two rep_int (rep_two rep_int rep_int))), rfl⟩) fun g3 w3 p3 hs b3 cb => ?_)
 have hfr := hfr.stp hs
 have rp1 := rp1.stp hs
 have rp2 := rp2.stp hs
 have q1 := q1.stp hs
 have q2 := q2.stp hs
 have j2 : OSF 2008 60800 0 g3 w3 3 113 ([] : List Int) p3 := cb.osf (by rfl)
 have z2 : OSF 2008 60802 2 g3 w3 82 113 ([] : List LoomOrder) p3 := cb.osf (by rfl)
 clear cb
 refine EL_at (.int .i64 (0)) rfl rfl ?_
 refine EL_nil (thn_n (E_seq (E_region (EL_do .plain rfl (D_load (g := g3) Try.isAgg24 Try.sizeOf24 rfl q1 fun v4 r4 => ?_)))))
 refine EL_mw up1 rfl rfl ?_
 obtain ⟨y6, z7, h⟩ := bsome h
 refine EL_do .plain rfl (D_call (g := g3) (vs := [v4, up1]) en50 (.cons rfl (.cons rfl .nil)) (wk50 r4 rp1 z7) fun g5 w5_ v5 hs hr => ?_)
 have hfr := hfr.ext hs
 have rp2 := rp2.ext hs
 have q1 := q1.ext hs
 have q2 := q2.ext hs
 have j2 := j2.ext hs
 have z2 := z2.ext hs
 have b3 := b3.ext hs
 obtain ⟨x4, a9, rfl, z4, rfl⟩ := hr
 refine EL_mw (.tuple #[x4, .int .i64 (y6.2)]) rfl rfl ?_
 refine EL_pur (v := x4) (P_extract rfl rfl) .plain rfl ?_
 refine EL_pur (v := .int .i64 (y6.2)) (P_extract rfl rfl) .plain rfl ?_
 refine EL_do .plain rfl (D_allocOc (g := g5) 2010 (⟨⟨[], 0⟩, []⟩ : LoomLoomMill) Try.zeroValue96 (fun m w => ⟨_, (rep_two (rep_two rep_nil rep_int) rep_nil), rfl⟩) fun g7 w7 p7 hs b7 cb => ?_)
 have hfr := hfr.stp hs
 have rp2 := rp2.stp hs
 have q1 := q1.stp hs
 have q2 := q2.stp hs
 have j2 := j2.stp hs rfl
 have z2 := z2.stp hs rfl
 have b3 := b3.stp hs rfl
 have z4 := z4.stp hs
 have b9 : OSF 2010 61000 0 g7 w7 3 96 ([] : List Int) p7 := cb.osf (by rfl)
 have c9 : OSF 2010 61002 2 g7 w7 82 96 ([] : List LoomOrder) p7 := cb.osf (by rfl)
 clear cb
 refine EL_do .plain rfl (D_storeOc (g := g7) (v := x4) Try.sizeOf96 rfl b7 rfl z4 fun g8 w8 hs b8 cb => ?_)
 clear cb
 have hfr := hfr.stp hs
 have rp2 := rp2.stp hs
 have q1 := q1.stp hs
 have q2 := q2.stp hs
 have j2 := j2.stp hs rfl
 have z2 := z2.stp hs rfl
 have b3 := b3.stp hs rfl
 refine EL_at (.int .i64 (y6.2)) rfl rfl ?_
 refine EL_nil (thn_n ?_)
 obtain ⟨j1, hx, h⟩ := bsome h
 refine E_join (fun e w => ∃ (g : Gh) , Fr gI wI g w ∧ e 4 = p1 ∧ PT g.m w (x0 : LoomMill) p1 ∧ e 7 = p2 ∧ PT g.m w (x3 : LoomStop) p2 ∧ e 8 = p3 ∧ OB 2008 g w 113 ((⟨⟨⟨[], 0⟩, []⟩, ⟨0, ⟨0, 0⟩⟩⟩ : LoomStill) : LoomStill) p3 ∧ OSF 2008 60800 0 g w 3 113 (((((⟨⟨⟨[], 0⟩, []⟩, ⟨0, ⟨0, 0⟩⟩⟩ : LoomStill)).mill).LoomMill).Widths) p3 ∧ OSF 2008 60802 2 g w 82 113 ((((⟨⟨⟨[], 0⟩, []⟩, ⟨0, ⟨0, 0⟩⟩⟩ : LoomStill)).mill).orders) p3 ∧ e 9 = .int .i64 (j1) ∧ e 10 = p7 ∧ OB 2010 g w 96 (y6.1 : LoomLoomMill) p7) (fun Q' hQ => ?_) (fun d9 v9 hR => ?_)
 ·replace h := hx
  clear hx
  refine E_seq (E_region (EL_mw (.int .i64 (y6.2)) rfl rfl ?_))
  refine EL_in (.bool ((y6.2 == (0 : Int)))) rfl rfl rfl rfl ?_
  refine EL_nil (thn_n ?_)
  rcases csome h with ⟨c5, h⟩ | ⟨c5, h⟩
  ·refine E_ct c5 rfl ?_
   refine E_region (EL_do .plain rfl (D_loadO (g := g8) Try.isAgg96 Try.sizeOf96 rfl b8 fun a8 c8 => ?_))
   refine EL_mw up2 rfl rfl ?_
   obtain ⟨o3, z6, h⟩ := bsome h
   refine EL_do .plain rfl (D_call (g := g8) (vs := [a8, up2]) en78 (.cons rfl (.cons rfl .nil)) (wk78 c8 rp2 z6) fun d8 e9 x9 hs hr => ?_)
   have hfr := hfr.ext hs
   have q1 := q1.ext hs
   have q2 := q2.ext hs
   have j2 := j2.ext hs
   have z2 := z2.ext hs
   have b3 := b3.ext hs
   have b8 := b8.ext hs
   obtain ⟨t8, v8, rfl, rfl, rfl⟩ := hr
   refine EL_mw (.tuple #[.int .i64 (o3.1), .int .i64 (o3.2)]) rfl rfl ?_
   refine EL_pur (v := .int .i64 (o3.1)) (P_extract rfl rfl) .plain rfl ?_
   refine EL_pur (v := .int .i64 (o3.2)) (P_extract rfl rfl) .plain rfl ?_
   refine EL_at (.int .i64 (o3.2)) rfl rfl ?_
   refine EL_nil ?_
   obtain rfl := sinj h
   exact hQ _ _ ⟨d8, hfr, rfl, q1, rfl, q2, rfl, b3, j2, z2, rfl, rfl, b8⟩
  ·refine E_cf c5 rfl ?_
   refine E_skip ?_
   obtain rfl := sinj h
   exact hQ _ _ ⟨g8, hfr, rfl, q1, rfl, q2, rfl, b3, j2, z2, rfl, rfl, b8⟩
 ·clear hx
  obtain ⟨n4, hfr, q6, o5, i3, j0, z1, o0, u8_0_17, u8_2_17, p5, o4, u0⟩ := hR
  refine E_joinC h (fun (s : LoomStill) e w => ∃ (g : Gh) , Fr gI wI g w ∧ e 7 = p2 ∧ PT g.m w (x3 : LoomStop) p2 ∧ e 8 = p3 ∧ OB 2008 g w 113 (s : LoomStill) p3 ∧ OSF 2008 60800 0 g w 3 113 ((((s).mill).LoomMill).Widths) p3 ∧ OSF 2008 60802 2 g w 82 113 (((s).mill).orders) p3 ∧ e 10 = p7 ∧ OB 2010 g w 96 (y6.1 : LoomLoomMill) p7) (fun X70 x6 a7 h => ?_) ?_
  ·refine E_block ?_
   refine E_seq (E_region (EL_mv p5 rfl ?_))
   refine EL_in (.bool ((j1 != (0 : Int)))) rfl rfl rfl rfl ?_
   refine EL_at (.bool ((j1 != (0 : Int)))) rfl rfl ?_
   refine EL_nil (thn_n ?_)
   rcases csome h with ⟨d5, h⟩ | ⟨d5, h⟩
   ·refine E_ct d5 rfl ?_
    refine E_seq (E_region (EL_do .plain rfl (D_loadO (g := n4) Try.isAgg113 Try.sizeOf113 z1 o0 fun e8 i8 => ?_)))
    refine EL_mv p5 rfl ?_
    refine EL_do .plain rfl (D_storeOc (g := n4) (v := e8) Try.sizeOf113 z1 o0 rfl i8 fun y9 z9 hs b73 cb => ?_)
    clear cb
    have hfr := hfr.stp hs
    refine EL_at (.int .i64 (j1)) rfl rfl ?_
    refine EL_nil (thn_n (E_ret (blk_r ?_)))
    refine thn_r ?_
    obtain rfl := sinj h
    obtain ⟨ad74, cv74, hp74, c7, cr74⟩ := ob_read Try.isAgg113 Try.sizeOf113 b73
    exact endm_ct rfl rfl ((show _ = p3 from z1).trans hp74) c7 (show _ = .int .i64 (j1) from rfl) ⟨_, hfr, _, _, rfl, cr74, rfl⟩
   ·refine E_cf d5 rfl ?_
    refine E_seq (E_region (EL_pur (v := fPtr p1 0) (P_fieldAddr at_24_0 q6 (PT.ptr o5)) .plain rfl ?_))
    have j8 := PT_field (part_LoomMill_0).1 o5
    refine EL_do .plain rfl (D_load (g := n4) Try.isAgg22 Try.sizeOf22 rfl j8 fun aA k8 => ?_)
    refine EL_pur (v := .int .i64 (((x0).Widths).length : Int)) (P_len Try.underlying22 rfl k8) .plain rfl ?_
    refine EL_pur (v := .int .i64 ((w64 ((((x0).Widths).length : Int) - (1 : Int))))) (P_int rfl rfl rfl) .plain rfl ?_
    refine EL_pur (v := fPtr p2 0) (P_fieldAddr at_54_0 i3 (PT.ptr j0)) .plain rfl ?_
    have l8 := PT_field (part_LoomStop_0).1 j0
    refine EL_do .plain rfl (D_load (g := n4) Try.isAgg3 Try.sizeOf3 rfl l8 fun bA m8 => ?_)
    obtain rfl := RV_int.1 m8
    refine EL_do .plain rfl (D_buildSlice (g := n4) 3037 (xs := ([(x3).Loom] : List Int)) (vs := [.int .i64 ((x3).Loom)]) Try.underlying22 Try.sizeOf3 Try.zeroValue3 rfl rfl (.cons rfl .nil) (RVs.cons (RV_int.2 rfl) RVs.nil) rfl rfl fun n8 cA o8 hs o79 p8 hxt hfl => ?_)
    have hfr := hfr.stp hs
    have j0 := j0.stp hs
    have u8_0_17 := u8_0_17.stp hs rfl
    have u8_2_17 := u8_2_17.stp hs rfl
    have o0 := o0.stp hs rfl
    have u0 := u0.stp hs rfl
    obtain ⟨n5, d7, h⟩ := bsome h
    refine EL_do .plain rfl (D_call (g := n8) (vs := [.int .i64 (0), .int .i64 ((w64 ((((x0).Widths).length : Int) - (1 : Int)))), o8]) en81 (.cons rfl (.cons rfl (.cons rfl .nil))) (wk81 p8 d7) fun p4 g9 dA hs hr => ?_)
    have hfr := hfr.ext hs
    have j0 := j0.ext hs
    have u8_0_17 := u8_0_17.ext hs
    have u8_2_17 := u8_2_17.ext hs
    have o0 := o0.ext hs
    have u0 := u0.ext hs
    subst hr
    refine EL_pur (v := .bool (!n5)) (P_not rfl) .plain rfl ?_
    refine EL_at (.bool (!n5)) rfl rfl ?_
    refine EL_nil (thn_n ?_)
    rcases csome h with ⟨i5, h⟩ | ⟨i5, h⟩
    ·refine E_ct i5 rfl ?_
     refine E_seq (E_region (EL_do .plain rfl (D_loadO (g := p4) Try.isAgg113 Try.sizeOf113 z1 o0 fun q8 r8 => ?_)))
     refine EL_do .plain rfl (D_storeOc (g := p4) (v := q8) Try.sizeOf113 z1 o0 rfl r8 fun eA gA hs b84 cb => ?_)
     clear cb
     have hfr := hfr.stp hs
     refine EL_at (.int .i64 (7)) rfl rfl ?_
     refine EL_nil (thn_n (E_ret (blk_r ?_)))
     refine thn_r ?_
     obtain rfl := sinj h
     obtain ⟨ad85, cv85, hp85, e7, cr85⟩ := ob_read Try.isAgg113 Try.sizeOf113 b84
     exact endm_ct rfl rfl ((show _ = p3 from z1).trans hp85) e7 (show _ = .int .i64 (7) from rfl) ⟨_, hfr, _, _, rfl, cr85, rfl⟩
    ·refine E_cf i5 rfl ?_
     obtain ⟨d3, hx, h⟩ := bsome h
     refine E_join (fun e w => ∃ (g : Gh) , Fr gI wI g w ∧ e 7 = p2 ∧ PT g.m w (x3 : LoomStop) p2 ∧ e 8 = p3 ∧ OB 2008 g w 113 ((⟨⟨⟨[], 0⟩, []⟩, ⟨0, ⟨0, 0⟩⟩⟩ : LoomStill) : LoomStill) p3 ∧ OSF 2008 60800 0 g w 3 113 (((((⟨⟨⟨[], 0⟩, []⟩, ⟨0, ⟨0, 0⟩⟩⟩ : LoomStill)).mill).LoomMill).Widths) p3 ∧ OSF 2008 60802 2 g w 82 113 ((((⟨⟨⟨[], 0⟩, []⟩, ⟨0, ⟨0, 0⟩⟩⟩ : LoomStill)).mill).orders) p3 ∧ e 10 = p7 ∧ OB 2010 g w 96 (y6.1 : LoomLoomMill) p7 ∧ e 41 = .bool (d3)) (fun Q' hQ => ?_) (fun x8 i9 hR => ?_)
     ·replace h := hx
      clear hx
      refine E_seq (E_region (EL_pur (v := fPtr p2 1) (P_fieldAddr at_54_1 i3 (PT.ptr j0)) .plain rfl ?_))
      have z5 := PT_field (part_LoomStop_1).1 j0
      refine EL_pur (v := fPtr (fPtr p2 1) 0) (P_fieldAddr at_48_0 rfl (PT.ptr z5)) .plain rfl ?_
      have i7 := PT_field (part_Span_0).1 z5
      refine EL_do .plain rfl (D_load (g := p4) Try.isAgg3 Try.sizeOf3 rfl i7 fun j9 j7 => ?_)
      obtain rfl := RV_int.1 j7
      refine EL_pur (v := fPtr p2 1) (P_fieldAddr at_54_1 i3 (PT.ptr j0)) .plain rfl ?_
      have a6 := PT_field (part_LoomStop_1).1 j0
      refine EL_pur (v := fPtr (fPtr p2 1) 1) (P_fieldAddr at_48_1 rfl (PT.ptr a6)) .plain rfl ?_
      have l7 := PT_field (part_Span_1).1 a6
      refine EL_do .plain rfl (D_load (g := p4) Try.isAgg3 Try.sizeOf3 rfl l7 fun k9 m7 => ?_)
      obtain rfl := RV_int.1 m7
      refine EL_do .plain rfl (D_buildSlice (g := p4) 3048 (xs := ([((x3).Days).Low, ((x3).Days).High] : List Int)) (vs := [.int .i64 (((x3).Days).Low), .int .i64 (((x3).Days).High)]) Try.underlying22 Try.sizeOf3 Try.zeroValue3 rfl rfl (.cons rfl (.cons rfl .nil)) (RVs.cons (RV_int.2 rfl) (RVs.cons (RV_int.2 rfl) RVs.nil)) rfl rfl fun n7 l9 o7 hs o108 q7 hxt hfl => ?_)
      have hfr := hfr.stp hs
      have j0 := j0.stp hs
      have u8_0_17 := u8_0_17.stp hs rfl
      have u8_2_17 := u8_2_17.stp hs rfl
      have o0 := o0.stp hs rfl
      have u0 := u0.stp hs rfl
      obtain ⟨u3, r6, h⟩ := bsome h
      refine EL_do .plain rfl (D_call (g := n7) (vs := [o7]) en71 (.cons rfl .nil) (wk71 q7 r6) fun d4 y8 m9 hs hr => ?_)
      have hfr := hfr.ext hs
      have j0 := j0.ext hs
      have u8_0_17 := u8_0_17.ext hs
      have u8_2_17 := u8_2_17.ext hs
      have o0 := o0.ext hs
      have u0 := u0.ext hs
      subst hr
      refine EL_pur (v := .bool (!u3)) (P_not rfl) .plain rfl ?_
      refine EL_at (.bool (!u3)) rfl rfl ?_
      refine EL_nil (thn_n ?_)
      rcases csome h with ⟨i4, h⟩ | ⟨i4, h⟩
      ·refine E_ct i4 rfl ?_
       refine E_skip ?_
       obtain rfl := sinj h
       exact hQ _ _ ⟨d4, hfr, i3, j0, z1, o0, u8_0_17, u8_2_17, o4, u0, rfl⟩
      ·refine E_cf i4 rfl ?_
       refine E_region (EL_pur (v := fPtr p2 1) (P_fieldAddr at_54_1 i3 (PT.ptr j0)) .plain rfl ?_)
       have b6 := PT_field (part_LoomStop_1).1 j0
       refine EL_pur (v := fPtr (fPtr p2 1) 0) (P_fieldAddr at_48_0 rfl (PT.ptr b6)) .plain rfl ?_
       have r7 := PT_field (part_Span_0).1 b6
       refine EL_do .plain rfl (D_load (g := d4) Try.isAgg3 Try.sizeOf3 rfl r7 fun n9 t7 => ?_)
       obtain rfl := RV_int.1 t7
       refine EL_pur (v := fPtr p2 1) (P_fieldAddr at_54_1 i3 (PT.ptr j0)) .plain rfl ?_
       have c6 := PT_field (part_LoomStop_1).1 j0
       refine EL_pur (v := fPtr (fPtr p2 1) 1) (P_fieldAddr at_48_1 rfl (PT.ptr c6)) .plain rfl ?_
       have u7 := PT_field (part_Span_1).1 c6
       refine EL_do .plain rfl (D_load (g := d4) Try.isAgg3 Try.sizeOf3 rfl u7 fun o9 v7 => ?_)
       obtain rfl := RV_int.1 v7
       refine EL_in (.bool ((decide (((x3).Days).Low > ((x3).Days).High)))) rfl rfl rfl rfl ?_
       refine EL_at (.bool ((decide (((x3).Days).Low > ((x3).Days).High)))) rfl rfl ?_
       refine EL_nil ?_
       obtain rfl := sinj h
       exact hQ _ _ ⟨d4, hfr, i3, j0, z1, o0, u8_0_17, u8_2_17, o4, u0, rfl⟩
     ·clear hx
      obtain ⟨j5, hfr, d6, i6, j3, z3, u8_0_118, u8_2_118, q5, t5, c4⟩ := hR
      rcases csome h with ⟨j4, h⟩ | ⟨j4, h⟩
      ·refine E_cond_true (Eq.trans (show ev _ _ = .bool (d3) from c4) (congrArg Value.bool j4)) ?_
       refine E_seq (E_region (EL_do .plain rfl (D_loadO (g := j5) Try.isAgg113 Try.sizeOf113 j3 z3 fun x7 y7 => ?_)))
       refine EL_do .plain rfl (D_storeOc (g := j5) (v := x7) Try.sizeOf113 j3 z3 rfl y7 fun p9 q9 hs b121 cb => ?_)
       clear cb
       have hfr := hfr.stp hs
       refine EL_at (.int .i64 (2)) rfl rfl ?_
       refine EL_nil (thn_n (E_ret (blk_r ?_)))
       refine thn_r ?_
       obtain rfl := sinj h
       obtain ⟨ad122, cv122, hp122, t6, cr122⟩ := ob_read Try.isAgg113 Try.sizeOf113 b121
       exact endm_ct rfl rfl ((show _ = p3 from j3).trans hp122) t6 (show _ = .int .i64 (2) from rfl) ⟨_, hfr, _, _, rfl, cr122, rfl⟩
      ·refine E_cond_false (Eq.trans (show ev _ _ = .bool (d3) from c4) (congrArg Value.bool j4)) ?_
       exact E_skip (blk_n (thn_n (a7 ((⟨⟨⟨[], 0⟩, []⟩, ⟨0, ⟨0, 0⟩⟩⟩ : LoomStill)) _ _ ⟨j5, hfr, d6, i6, j3, z3, u8_0_118, u8_2_118, q5, t5⟩ h)))
  ·rintro y5 z8 r9 ⟨m4, hfr, j6, k6, u4, l6, u8_0_123, u8_2_123, u5, x5⟩ h
   refine E_seq (E_region (EL_do .plain rfl (D_loadO (g := m4) Try.isAgg96 Try.sizeOf96 u5 x5 fun l5 m6 => ?_)))
   refine EL_do .plain rfl (D_load (g := m4) Try.isAgg54 Try.sizeOf54 j6 k6 fun m5 n6 => ?_)
   have o6 : RV m4.m _ (⟨y6.1, x3⟩ : LoomStill) (.agg (setCh [[.slice none 0 0, .int .i64 0, .slice none 0 0], [.int .i64 0, .int .i64 0, .int .i64 0]] [(0, l5), (1, m5)]).flatten.toArray) := RV_build rfl (rep_pair (RV.cells m6) (rep_last (RV.cells n6)))
   generalize u6 : (Value.agg (setCh [[.slice none 0 0, .int .i64 0, .slice none 0 0], [.int .i64 0, .int .i64 0, .int .i64 0]] [(0, l5), (1, m5)]).flatten.toArray) = p6 at o6
   refine EL_pur (v := p6) (u6 ▸ P_build (vs := [(0, l5), (1, m5)]) [[.slice none 0 0, .int .i64 0, .slice none 0 0], [.int .i64 0, .int .i64 0, .int .i64 0]] lay_113 rfl rfl (.cons rfl (.cons rfl .nil)) ⟨⟨_, rfl, cells_size m6⟩, ⟨⟨_, rfl, cells_size n6⟩, trivial⟩⟩) .plain rfl ?_
   refine EL_do .plain rfl (D_storeOc (g := m4) (v := p6) Try.sizeOf113 u4 l6 rfl o6 fun t9 u9 hs b127 cb => ?_)
   clear cb
   have hfr := hfr.stp hs
   refine EL_at (.int .i64 (0)) rfl rfl ?_
   refine EL_nil (thn_n (E_ret ?_))
   obtain rfl := sinj h
   obtain ⟨ad128, cv128, hp128, v6, cr128⟩ := ob_read Try.isAgg113 Try.sizeOf113 b127
   exact endm_ct rfl rfl ((show _ = p3 from u4).trans hp128) v6 (show _ = .int .i64 (0) from rfl) ⟨_, hfr, _, _, rfl, cr128, rfl⟩
/-- griffe/loom.Plan -/
def f17 (x0 : LoomMill) (x1 : List LoomOrder) : Option ((List LoomRun) × Int) :=
 (f50 x0 x1).bind fun y4 =>
 jn (σ := (List LoomRun)) (fun x4 =>
  jn (σ := (List LoomRun)) (fun j6 =>
   jn (σ := (List LoomRun)) (fun d5 =>
    some (d5, (0 : Int))
    ) fun o6 =>
   lp (σ := (List LoomRun) × (List (Int × LoomRun)) × Int) (fun p6 (z1, i5, j0) =>
    bif (decide (j0 < ((x1).length : Int))) then
     jn (σ := (List LoomRun) × (List (Int × LoomRun))) (fun (i4, j4) =>
      p6 (i4, j4, (w64 (j0 + (1 : Int))))
      ) fun q6 =>
     jn (σ := (List LoomRun) × (List (Int × LoomRun))) (fun (j5, j2) =>
      (apnd 24 j5 (([((mget j2 j0).getD (⟨0, 0, 0⟩ : LoomRun))] : List LoomRun))).bind fun y137 =>
      q6 (y137, j2)
      ) fun r6 =>
     (f54 (y4.1) j0 i5).bind fun m4 =>
     bif (!m4.1) then
      some ([], (9 : Int))
     else
      r6 (z1, m4.2)
    else
     o6 (z1)
    ) big (j6, ([] : List (Int × LoomRun)), (0 : Int))
   ) fun n8 =>
  (f52 (y4.1)).bind fun p4 =>
  (f51 (y4.1) p4 (([] : List (Int × LoomRun)))).bind fun c4 =>
  (f53 (y4.1)).bind fun l5 =>
  (idx c4 l5).bind fun m5 =>
  bif (!m5) then
   some ([], (9 : Int))
  else
   n8 (x4)
  ) fun k8 =>
 bif (y4.2 != (0 : Int)) then
  some ([], y4.2)
 else
  k8 ([])
theorem en17 : Enters Try.prog 17 := enters_of Try.func17 (by kernel_rfl) rfl
theorem wk17 {gI : Gh} {wI : World} {x0 : LoomMill} {x1 : List LoomOrder} {up0 : Value} (rp0 : RV gI.m wI x0 up0) {up1 : Value} (rp1 : RV gI.m wI x1 up1) {r : (List LoomRun) × Int} (h : f17 x0 x1 = some r) : Fn Try.prog 17 #[up0, up1] gI wI (fun m w v => ∃ y0 y1, v = .tuple #[y0, y1] ∧ RV m w (r.1) y0 ∧ y1 = .int .i64 (r.2)) := by
 unfold f17 at h
 refine fn_of_E Try.func17 rfl (Nat.le_of_ble_eq_true rfl) fun g0 hm hfr => ?_
 have rp0 : RV g0.m wI x0 up0 := hm ▸ rp0
 have rp1 : RV g0.m wI x1 up1 := hm ▸ rp1
 show E _ 47 none _ _ _ _ _
 refine E_seq (E_region (EL_do .plain rfl (D_box (g := g0) rfl rp0 fun g1 w1 p1 hs q1 => ?_)))
 have hfr := hfr.ext hs
 have rp1 := rp1.ext hs
 refine EL_at (.slice none 0 0) rfl rfl ?_
 refine EL_at (.int .i64 (0)) rfl rfl ?_
 refine EL_nil (thn_n (E_seq (E_region (EL_do .plain rfl (D_load (g := g1) Try.isAgg24 Try.sizeOf24 rfl q1 fun v2 r2 => ?_)))))
 refine EL_mw up1 rfl rfl ?_
 obtain ⟨y4, n9, h⟩ := bsome h
 refine EL_do .plain rfl (D_call (g := g1) (vs := [v2, up1]) en50 (.cons rfl (.cons rfl .nil)) (wk50 r2 rp1 n9) fun g3 w3_ v3 hs hr => ?_)
 have hfr := hfr.ext hs
 have rp1 := rp1.ext hs
 obtain ⟨z5, gA, rfl, a6, rfl⟩ := hr
 refine EL_mw (.tuple #[z5, .int .i64 (y4.2)]) rfl rfl ?_
 refine EL_pur (v := z5) (P_extract rfl rfl) .plain rfl ?_
 refine EL_pur (v := .int .i64 (y4.2)) (P_extract rfl rfl) .plain rfl ?_
 refine EL_do .plain rfl (D_allocOc (g := g3) 2006 (⟨⟨[], 0⟩, []⟩ : LoomLoomMill) Try.zeroValue96 (fun m w => ⟨_, (rep_two (rep_two rep_nil rep_int) rep_nil), rfl⟩) fun g5 w5 p5 hs b5 cb => ?_)
 have hfr := hfr.stp hs
 have rp1 := rp1.stp hs
 have a6 := a6.stp hs
 have iA : OSF 2006 60600 0 g5 w5 3 96 ([] : List Int) p5 := cb.osf (by rfl)
 have jA : OSF 2006 60602 2 g5 w5 82 96 ([] : List LoomOrder) p5 := cb.osf (by rfl)
 clear cb
 refine EL_do .plain rfl (D_storeOc (g := g5) (v := z5) Try.sizeOf96 rfl b5 rfl a6 fun g6 w6 hs b6 cb => ?_)
 clear cb
 have hfr := hfr.stp hs
 have rp1 := rp1.stp hs
 refine EL_at (.int .i64 (y4.2)) rfl rfl ?_
 refine EL_nil (thn_n (E_joinC h (fun (s : (List LoomRun)) e w => ∃ (g : Gh) (v4 : Value), Fr gI wI g w ∧ e 1 = up1 ∧ RV g.m w (x1 : List LoomOrder) up1 ∧ e 4 = v4 ∧ RV g.m w (s : List LoomRun) v4 ∧ OS 1004 g w 76 (s : List LoomRun) v4 ∧ e 6 = p5 ∧ OB 2006 g w 96 (y4.1 : LoomLoomMill) p5) (fun X8 k8 o9 h => ?_) ?_))
 ·refine E_seq (E_region (EL_mw (.int .i64 (y4.2)) rfl rfl ?_))
  refine EL_in (.bool ((y4.2 != (0 : Int)))) rfl rfl rfl rfl ?_
  refine EL_nil (thn_n ?_)
  rcases csome h with ⟨t6, h⟩ | ⟨t6, h⟩
  ·refine E_ct t6 rfl ?_
   refine E_seq (E_region (EL_mw (.int .i64 (y4.2)) rfl rfl ?_))
   refine EL_at (.slice none 0 0) rfl rfl ?_
   refine EL_at (.int .i64 (y4.2)) rfl rfl ?_
   refine EL_nil (thn_n (E_ret (thn_r ?_)))
   obtain rfl := sinj h
   exact end2 rfl rfl (show _ = .slice none 0 0 from rfl) (show _ = .int .i64 (y4.2) from rfl) ⟨_, hfr, _, _, rfl, RV_nil, rfl⟩
  ·refine E_cf t6 rfl ?_
   exact E_skip (thn_n (o9 ([]) _ _ ⟨g6, (.slice none 0 0), hfr, rfl, rp1, rfl, RV_nil, OS.nil, rfl, b6⟩ h))
 ·rintro x4 kA vA ⟨p9, p7, hfr, q7, d3, r7, i3, j3, d4, o0⟩ h
  refine E_seq (E_region (EL_do .plain rfl (D_makeMap (g := p9) (Value.int .i64) LoomRun 8018 fun q9 xA j1 hs m11 => ?_)))
  have hfr := hfr.stp hs
  have d3 := d3.stp hs
  have i3 := i3.stp hs
  have j3 := j3.stp hs rfl
  have o0 := o0.stp hs rfl
  refine EL_at j1 rfl rfl ?_
  refine EL_nil (thn_n (E_joinC h (fun (s : (List LoomRun)) e w => ∃ (g : Gh) (v4 : Value), Fr gI wI g w ∧ e 1 = up1 ∧ RV g.m w (x1 : List LoomOrder) up1 ∧ e 4 = v4 ∧ RV g.m w (s : List LoomRun) v4 ∧ OS 1004 g w 76 (s : List LoomRun) v4 ∧ e 6 = p5 ∧ OB 2006 g w 96 (y4.1 : LoomLoomMill) p5 ∧ e 7 = j1 ∧ MP (Value.int .i64) 8018 g w (([] : List (Int × LoomRun)) : List (Int × LoomRun)) j1) (fun X41 n8 r8 h => ?_) ?_))
  ·refine E_seq (L_loadO0 (x := .tmp 6) Try.isAgg96 Try.sizeOf96 o0 fun o8 r9 t8 => ?_)
   refine L_loadO0 (x := .tmp 6) Try.isAgg96 Try.sizeOf96 o0 fun p8 t9 v8 => ?_
   obtain ⟨p4, x8, h⟩ := bsome h
   obtain ⟨c4, y8, h⟩ := bsome h
   refine L_loadO0 (x := .tmp 6) Try.isAgg96 Try.sizeOf96 o0 fun q8 u9 z8 => ?_
   obtain ⟨l5, a9, h⟩ := bsome h
   obtain ⟨m5, c6, h⟩ := bsome h
   refine E_drawL (g := q9) (n := 10) [(2, (fun v g w => RV g.m w p4 v)), (4, (fun v g w => RV g.m w c4 v)), (6, (fun v g w => v = .int .i64 (l5))), (8, (fun v _ _ => v = .bool (m5)))] [0, 1, 2, 3, 4, 5, 6, 7, 8, 9] rfl mixed (by kernel_rfl) (⟨fun _ => up_rv, fun _ => up_rv, fun _ => up_eq _, fun _ => up_eq _, trivial⟩) ?_
   refine L_ld (c := o8) rfl rfl .plain (fun _ _ h => ⟨h.ch, fun b hb _ => h.below.block b hb⟩) t8 d4 ?_
   refine L_ld (c := p8) rfl rfl .plain (fun _ _ h => ⟨h.ch, fun b hb _ => h.below.block b hb⟩) v8 d4 ?_
   refine L_do (φ := fun v g w => RV g.m w p4 v) rfl rfl .plain (fun g w hd => D_call (g := g) (vs := [p8]) en52 (.cons rfl .nil) (wk52 (t9.ext hd.1) x8) fun g' w' v hs hr => ⟨g', hs, hr⟩) (fun u6 hv => ?_)
   obtain ⟨_, _, _, rq44⟩ := hv
   refine L_pur (c := j1) rfl rfl .plain (fun _ _ hd => P_move rfl) ?_
   refine L_do (φ := fun v g w => RV g.m w c4 v) rfl rfl .plain (fun g w hd => D_call (g := g) (vs := [o8, u6, j1]) en51 (.cons rfl (.cons rfl (.cons rfl .nil))) (wk51 (r9.ext hd.1) (word (A := fun g w => RV g.m w p4 u6) 2 rfl rfl (deps_of hd)) (m11.ext hd.1).r y8) fun g' w' v hs hr => ⟨g', hs, hr⟩) (fun n5 hv => ?_)
   obtain ⟨_, _, _, rq46⟩ := hv
   refine L_ld (c := q8) rfl rfl .plain (fun _ _ h => ⟨h.ch, fun b hb _ => h.below.block b hb⟩) z8 d4 ?_
   refine L_do (φ := fun v g w => v = .int .i64 (l5)) rfl rfl .plain (fun g w hd => D_call (g := g) (vs := [q8]) en53 (.cons rfl .nil) (wk53 (u9.ext hd.1) a9) fun g' w' v hs hr => ⟨g', hs, hr⟩) (fun yA hv => ?_)
   obtain ⟨_, _, _, rfl⟩ := hv
   refine L_pur (c := ePtr n5 l5 1) rfl rfl .plain (fun _ _ hd => P_indexAddr (α := Bool) Try.underlying101 Try.sizeOf4 rfl (word (A := fun g w => RV g.m w c4 n5) 4 rfl rfl (deps_of hd)) rfl c6) ?_
   refine L_do (φ := (fun v _ _ => v = .bool (m5))) rfl rfl .plain (fun g w hd => D_load (g := g) Try.isAgg4 Try.sizeOf4 rfl (PT_idx (word (A := fun g w => RV g.m w c4 n5) 4 rfl rfl (hop 7 rfl rfl (deps_of hd))) c6) fun v r => ⟨g, Ext.refl g w, RV_bool.1 r⟩) (fun zA hv => ?_)
   obtain ⟨_, _, _, rfl⟩ := hv
   refine L_pur (c := .bool (!m5)) rfl rfl .plain (fun _ _ hd => P_not rfl) ?_
   refine L_nil fun v9 aB hall => ?_
   have hs := hall.1
   have hfr := hfr.ext hs
   have d3 := d3.ext hs
   have i3 := i3.ext hs
   have j3 := j3.ext hs
   have o0 := o0.ext hs
   have m11 := m11.ext hs
   have bB := (word_all (A := fun g w => RV g.m w p4 u6) 2 rfl hall)
   have cB := (word_all (A := fun g w => RV g.m w c4 n5) 4 rfl hall)
   have dB := (PT_idx (word_all (A := fun g w => RV g.m w c4 n5) 4 rfl hall) c6)
   clear hs hall
   refine EL_nil (thn_n ?_)
   rcases csome h with ⟨d6, h⟩ | ⟨d6, h⟩
   ·refine E_ct d6 rfl ?_
    refine E_seq (E_region (EL_at (.slice none 0 0) rfl rfl ?_))
    refine EL_at (.int .i64 (9)) rfl rfl ?_
    refine EL_nil (thn_n (E_ret (thn_r ?_)))
    obtain rfl := sinj h
    exact end2 rfl rfl (show _ = .slice none 0 0 from rfl) (show _ = .int .i64 (9) from rfl) ⟨_, hfr, _, _, rfl, RV_nil, rfl⟩
   ·refine E_cf d6 rfl ?_
    exact E_skip (thn_n (r8 (x4) _ _ ⟨v9, (p7), hfr, q7, d3, r7, i3, j3, d4, o0, rfl, m11⟩ h))
  ·rintro j6 lA eB ⟨x9, t7, hfr, u7, v7, x7, y7, z7, a8, b8, c8, d8⟩ h
   refine E_joinC h (fun (s : (List LoomRun)) e w => ∃ (g : Gh) (v4 : Value), Fr gI wI g w ∧ e 4 = v4 ∧ RV g.m w (s : List LoomRun) v4 ∧ OS 1004 g w 76 (s : List LoomRun) v4) (fun X105 o6 e8 h => ?_) ?_
   ·refine E_seq (E_region (EL_mv u7 rfl ?_))
    refine EL_pur (v := .int .i64 ((x1).length : Int)) (P_len Try.underlying25 rfl v7) .plain rfl ?_
    refine EL_mw (.int .i64 (0)) rfl rfl ?_
    refine EL_nil (thn_n (E_block ?_))
    refine E_lp h (fun (s : (List LoomRun) × (List (Int × LoomRun)) × Int) e w => ∃ (g : Gh) (v4 : Value), Fr gI wI g w ∧ e 4 = v4 ∧ RV g.m w (s.1 : List LoomRun) v4 ∧ OS 1004 g w 76 (s.1 : List LoomRun) v4 ∧ e 6 = p5 ∧ OB 2006 g w 96 (y4.1 : LoomLoomMill) p5 ∧ e 7 = j1 ∧ MP (Value.int .i64) 8018 g w (s.2.1 : List (Int × LoomRun)) j1 ∧ e 30 = .int .i64 (((x1).length : Int)) ∧ e 31 = .int .i64 (s.2.2)) ⟨x9, (t7), hfr, x7, y7, z7, a8, b8, c8, d8, rfl, rfl⟩ (fun X106 p6 g8 => ?_)
    rintro ⟨z1, i5, j0⟩ aA mA ⟨i6, o5, hfr, q5, o3, p3, t5, u3, u5, v6, u4, z3⟩ h
    refine E_seq (E_region (EL_in (.bool ((decide (j0 < ((x1).length : Int))))) z3 u4 rfl rfl ?_))
    refine EL_nil (thn_n (E_seq ?_))
    rcases csome h with ⟨z4, h⟩ | ⟨z4, h⟩
    ·refine E_ct z4 rfl ?_
     refine E_skip (thn_n (E_joinC h (fun (s : (List LoomRun) × (List (Int × LoomRun))) e w => ∃ (g : Gh) (v4 : Value), Fr gI wI g w ∧ e 4 = v4 ∧ RV g.m w (s.1 : List LoomRun) v4 ∧ OS 1004 g w 76 (s.1 : List LoomRun) v4 ∧ e 6 = p5 ∧ OB 2006 g w 96 (y4.1 : LoomLoomMill) p5 ∧ e 7 = j1 ∧ MP (Value.int .i64) 8018 g w (s.2 : List (Int × LoomRun)) j1 ∧ e 30 = .int .i64 (((x1).length : Int)) ∧ e 31 = .int .i64 (j0)) (fun X123 q6 i8 h => ?_) ?_))
     ·refine E_block ?_
      refine E_seq (E_region (EL_mv z3 rfl ?_))
      refine EL_at (.int .i64 (j0)) rfl rfl ?_
      refine EL_nil (thn_n (E_joinC h (fun (s : (List LoomRun) × (List (Int × LoomRun))) e w => ∃ (g : Gh) (v4 : Value), Fr gI wI g w ∧ e 4 = v4 ∧ RV g.m w (s.1 : List LoomRun) v4 ∧ OS 1004 g w 76 (s.1 : List LoomRun) v4 ∧ e 6 = p5 ∧ OB 2006 g w 96 (y4.1 : LoomLoomMill) p5 ∧ e 7 = j1 ∧ MP (Value.int .i64) 8018 g w (s.2 : List (Int × LoomRun)) j1 ∧ e 8 = .int .i64 (j0) ∧ e 30 = .int .i64 (((x1).length : Int)) ∧ e 31 = .int .i64 (j0)) (fun X128 r6 j8 h => ?_) ?_))
      ·refine E_seq (E_region (EL_do .plain rfl (D_loadO (g := i6) Try.isAgg96 Try.sizeOf96 t5 u3 fun b9 c9 => ?_)))
       refine EL_mw (.int .i64 (j0)) rfl rfl ?_
       refine EL_mv u5 rfl ?_
       obtain ⟨m4, l8, h⟩ := bsome h
       refine EL_do .plain rfl (D_callM (g := i6) (i := 8018) (vs := [b9, .int .i64 (j0), j1]) en54 (.cons rfl (.cons rfl (.cons rfl .nil))) (wk54 c9 v6 l8) fun d9 bA nA hs hr => ?_)
       obtain ⟨hrv, b130⟩ := hr
       have hfr := hfr.stp hs
       have o3 := o3.stp hs
       have p3 := p3.stp hs rfl
       have u3 := u3.stp hs rfl
       subst hrv
       refine EL_pur (v := .bool (!m4.1)) (P_not rfl) .plain rfl ?_
       refine EL_nil (thn_n ?_)
       rcases csome h with ⟨c5, h⟩ | ⟨c5, h⟩
       ·refine E_ct c5 rfl ?_
        refine E_seq (E_region (EL_at (.slice none 0 0) rfl rfl ?_))
        refine EL_at (.int .i64 (9)) rfl rfl ?_
        refine EL_nil (thn_n (E_ret (thn_r ?_)))
        refine blk_r ?_
        refine thn_r ?_
        refine thn_r ?_
        refine blk_r ?_
        refine thn_r ?_
        obtain rfl := sinj h
        exact end2 rfl rfl (show _ = .slice none 0 0 from rfl) (show _ = .int .i64 (9) from rfl) ⟨_, hfr, _, _, rfl, RV_nil, rfl⟩
       ·refine E_cf c5 rfl ?_
        exact E_skip (thn_n (j8 (z1, m4.2) _ _ ⟨d9, (o5), hfr, q5, o3, p3, t5, u3, u5, b130, rfl, u4, z3⟩ h))
      ·rintro ⟨j5, j2⟩ cA oA ⟨x6, y9, hfr, y6, n4, o4, z6, z2, x5, u0, a7, k6, l6⟩ h
       refine E_region (EL_mv y6 rfl ?_)
       refine EL_mv x5 rfl ?_
       refine EL_mv a7 rfl ?_
       refine EL_do .plain rfl (D_lookup (g := x6) (z0 := (⟨0, 0, 0⟩ : LoomRun)) Try.underlying100 key_3 Try.zeroValue76 (fun m w => ⟨_, (rep_two rep_int (rep_two rep_int rep_int)), rfl⟩) rfl u0 rfl fun e9 g9 => ?_)
       refine EL_do .plain rfl (D_buildSlice (g := x6) 3043 (xs := ([((mget j2 j0).getD (⟨0, 0, 0⟩ : LoomRun))] : List LoomRun)) (vs := [e9]) Try.underlying31 Try.sizeOf76 Try.zeroValue76 rfl rfl (.cons rfl .nil) (RVs.cons g9 RVs.nil) rfl rfl fun i9 pA qA hs o135 j9 hxt hfl => ?_)
       have hfr := hfr.stp hs
       have n4 := n4.stp hs
       have o4 := o4.stp hs rfl
       have z2 := z2.stp hs rfl
       have u0 := u0.stp hs rfl
       obtain ⟨y137, m8, h⟩ := bsome h
       refine EL_do .plain rfl (D_append (g := i9) (i := 1004) Try.underlying31 info_76 rfl rfl o4 n4 rfl j9 m8 fun k9 rA b7 hs o136 l9 _ => ?_)
       have hfr := hfr.stp hs
       have z2 := z2.stp hs rfl
       have u0 := u0.stp hs rfl
       refine EL_at b7 rfl rfl ?_
       exact EL_nil (blk_n (thn_n (i8 (y137, j2) _ _ ⟨k9, (b7), hfr, rfl, l9, o136, z6, z2, x5, u0, k6, l6⟩ h)))
     ·rintro ⟨i4, j4⟩ dA sA ⟨m9, c7, hfr, d7, e7, g7, i7, j7, l7, m7, m6, n6⟩ h
      refine E_region (EL_in (.int .i64 ((w64 (j0 + (1 : Int))))) n6 rfl rfl rfl ?_)
      refine EL_mw (.int .i64 ((w64 (j0 + (1 : Int))))) rfl rfl ?_
      exact EL_nil (thn_n (g8 (i4, j4, (w64 (j0 + (1 : Int)))) _ _ ⟨m9, (c7), hfr, d7, e7, g7, i7, j7, l7, m7, m6, rfl⟩ h))
    ·refine E_cf z4 rfl ?_
     refine E_exit ?_
     refine thn_e ?_
     refine thn_e ?_
     refine blk_hit ?_
     exact thn_n (e8 (z1) _ _ ⟨i6, (o5), hfr, q5, o3, p3⟩ h)
   ·rintro d5 eA tA ⟨uA, y5, hfr, n7, o7, z9⟩ h
    refine E_seq (E_region (EL_mv n7 rfl ?_))
    refine EL_at y5 rfl rfl ?_
    refine EL_at (.int .i64 (0)) rfl rfl ?_
    refine EL_nil (thn_n (E_ret ?_))
    obtain rfl := sinj h
    exact end2 rfl rfl (show _ = y5 from rfl) (show _ = .int .i64 (0) from rfl) ⟨_, hfr, _, _, rfl, o7, rfl⟩
/-- griffe/loom.Against -/
def f23 (x0 : LoomMill) (x1 : List LoomOrder) : Option ((List Int) × Int) :=
 (f50 x0 x1).bind fun y4 =>
 jn (σ := Unit) (fun (_ : Unit) =>
  (f52 (y4.1)).bind fun j1 =>
  (f51 (y4.1) j1 ([])).bind fun z1 =>
  (f55 (((x1).length : Int)) ((fun a0 => f56 a0 z1))).bind fun u0 =>
  jn (σ := Unit) (fun (_ : Unit) =>
   some (u0.1, (0 : Int))
   ) fun j4 =>
  bif (!u0.2) then
   some ([], (7 : Int))
  else
   j4 ()
  ) fun k8 =>
 bif (y4.2 != (0 : Int)) then
  some ([], y4.2)
 else
  k8 ()
theorem en23 : Enters Try.prog 23 := enters_of Try.func23 (by kernel_rfl) rfl
theorem wk23 {gI : Gh} {wI : World} {x0 : LoomMill} {x1 : List LoomOrder} {up0 : Value} (rp0 : RV gI.m wI x0 up0) {up1 : Value} (rp1 : RV gI.m wI x1 up1) {r : (List Int) × Int} (h : f23 x0 x1 = some r) : Fn Try.prog 23 #[up0, up1] gI wI (fun m w v => ∃ y0 y1, v = .tuple #[y0, y1] ∧ RV m w (r.1) y0 ∧ y1 = .int .i64 (r.2)) := by
 unfold f23 at h
 refine fn_of_E Try.func23 rfl (Nat.le_of_ble_eq_true rfl) fun g0 hm hfr => ?_
 have rp0 : RV g0.m wI x0 up0 := hm ▸ rp0
 have rp1 : RV g0.m wI x1 up1 := hm ▸ rp1
 show E _ 34 none _ _ _ _ _
 refine E_seq (E_region (EL_do .plain rfl (D_box (g := g0) rfl rp0 fun g1 w1 p1 hs q1 => ?_)))
 have hfr := hfr.ext hs
 have rp1 := rp1.ext hs
 refine EL_at (.slice none 0 0) rfl rfl ?_
 refine EL_at (.int .i64 (0)) rfl rfl ?_
 refine EL_nil (thn_n (E_seq (E_region (EL_do .plain rfl (D_load (g := g1) Try.isAgg24 Try.sizeOf24 rfl q1 fun v2 r2 => ?_)))))
 refine EL_mw up1 rfl rfl ?_
 obtain ⟨y4, d5, h⟩ := bsome h
 refine EL_do .plain rfl (D_call (g := g1) (vs := [v2, up1]) en50 (.cons rfl (.cons rfl .nil)) (wk50 r2 rp1 d5) fun g3 w3_ v3 hs hr => ?_)
 have hfr := hfr.ext hs
 have rp1 := rp1.ext hs
 obtain ⟨z2, u5, rfl, d3, rfl⟩ := hr
 refine EL_mw (.tuple #[z2, .int .i64 (y4.2)]) rfl rfl ?_
 refine EL_pur (v := z2) (P_extract rfl rfl) .plain rfl ?_
 refine EL_pur (v := .int .i64 (y4.2)) (P_extract rfl rfl) .plain rfl ?_
 refine EL_do .plain rfl (D_allocOc (g := g3) 2006 (⟨⟨[], 0⟩, []⟩ : LoomLoomMill) Try.zeroValue96 (fun m w => ⟨_, (rep_two (rep_two rep_nil rep_int) rep_nil), rfl⟩) fun g5 w5 p5 hs b5 cb => ?_)
 have hfr := hfr.stp hs
 have rp1 := rp1.stp hs
 have d3 := d3.stp hs
 have x5 : OSF 2006 60600 0 g5 w5 3 96 ([] : List Int) p5 := cb.osf (by rfl)
 have y5 : OSF 2006 60602 2 g5 w5 82 96 ([] : List LoomOrder) p5 := cb.osf (by rfl)
 clear cb
 refine EL_do .plain rfl (D_storeOc (g := g5) (v := z2) Try.sizeOf96 rfl b5 rfl d3 fun g6 w6 hs b6 cb => ?_)
 clear cb
 have hfr := hfr.stp hs
 have rp1 := rp1.stp hs
 refine EL_at (.int .i64 (y4.2)) rfl rfl ?_
 refine EL_nil (thn_n (E_joinC h (fun (s : Unit) e w => ∃ (g : Gh) , Fr gI wI g w ∧ e 1 = up1 ∧ RV g.m w (x1 : List LoomOrder) up1 ∧ e 6 = p5 ∧ OB 2006 g w 96 (y4.1 : LoomLoomMill) p5) (fun X8 k8 i5 h => ?_) ?_))
 ·refine E_seq (E_region (EL_mw (.int .i64 (y4.2)) rfl rfl ?_))
  refine EL_in (.bool ((y4.2 != (0 : Int)))) rfl rfl rfl rfl ?_
  refine EL_nil (thn_n ?_)
  rcases csome h with ⟨p3, h⟩ | ⟨p3, h⟩
  ·refine E_ct p3 rfl ?_
   refine E_seq (E_region (EL_mw (.int .i64 (y4.2)) rfl rfl ?_))
   refine EL_at (.slice none 0 0) rfl rfl ?_
   refine EL_at (.int .i64 (y4.2)) rfl rfl ?_
   refine EL_nil (thn_n (E_ret (thn_r ?_)))
   obtain rfl := sinj h
   exact end2 rfl rfl (show _ = .slice none 0 0 from rfl) (show _ = .int .i64 (y4.2) from rfl) ⟨_, hfr, _, _, rfl, RV_nil, rfl⟩
  ·refine E_cf p3 rfl ?_
   exact E_skip (thn_n (i5 () _ _ ⟨g6, hfr, rfl, rp1, rfl, b6⟩ h))
 ·rintro _ z5 d6 ⟨j5, hfr, z3, j0, j3, o3⟩ h
  refine E_seq (L_loadO0 (x := .tmp 6) Try.isAgg96 Try.sizeOf96 o3 fun m4 l5 p4 => ?_)
  refine L_loadO0 (x := .tmp 6) Try.isAgg96 Try.sizeOf96 o3 fun n4 m5 hl12 => ?_
  obtain ⟨j1, u4, h⟩ := bsome h
  obtain ⟨z1, x4, h⟩ := bsome h
  refine E_drawL (g := j5) (n := 5) [(2, (fun v g w => RV g.m w j1 v)), (3, (fun v g w => RV g.m w z1 v)), (4, (fun v g w => OB 2008 g w 101 ([] : List Bool) v))] [0, 1, 2, 3, 4] rfl mixed (by kernel_rfl) (⟨fun _ => up_rv, fun _ => up_rv, fun _ => up_ob, trivial⟩) ?_
  refine L_ld (c := m4) rfl rfl .plain (fun _ _ h => ⟨h.ch, fun b hb _ => h.below.block b hb⟩) p4 j3 ?_
  refine L_ld (c := n4) rfl rfl .plain (fun _ _ h => ⟨h.ch, fun b hb _ => h.below.block b hb⟩) hl12 j3 ?_
  refine L_do (φ := fun v g w => RV g.m w j1 v) rfl rfl .plain (fun g w hd => D_call (g := g) (vs := [n4]) en52 (.cons rfl .nil) (wk52 (m5.ext hd.1) u4) fun g' w' v hs hr => ⟨g', hs, hr⟩) (fun u3 hv => ?_)
  obtain ⟨_, _, _, rq13⟩ := hv
  refine L_do (φ := fun v g w => RV g.m w z1 v) rfl rfl .plain (fun g w hd => D_call (g := g) (vs := [m4, u3, .map none]) en51 (.cons rfl (.cons rfl (.cons rfl .nil))) (wk51 (l5.ext hd.1) (word (A := fun g w => RV g.m w j1 u3) 2 rfl rfl (deps_of hd)) MR.nil x4) fun g' w' v hs hr => ⟨g', hs, hr⟩) (fun o4 hv => ?_)
  obtain ⟨_, _, _, rq15⟩ := hv
  refine L_do (φ := fun v g w => OB 2008 g w 101 ([] : List Bool) v) rfl rfl .plain (fun g w hd => D_allocX (g := g) 2008 ([] : List Bool) Try.zeroValue101 (fun m w => ⟨_, rep_nil, rfl⟩) fun g' w' v hs b => ⟨g', hs, b⟩) (fun j2 hv => ?_)
  clear hv
  refine L_nil fun n5 i6 hall => ?_
  have hs := hall.1
  have hfr := hfr.ext hs
  have j0 := j0.ext hs
  have j6 := (word_all (A := fun g w => RV g.m w j1 u3) 2 rfl hall)
  have o5 := (word_all (A := fun g w => RV g.m w z1 o4) 3 rfl hall)
  have b25 := (word_all (A := fun g w => OB 2008 g w 101 ([] : List Bool) j2) 4 rfl hall)
  clear hs hall
  refine EL_do .plain rfl (D_storeOc (g := n5) (v := o4) Try.sizeOf101 rfl b25 rfl o5 fun k6 l6 hs b26 cb => ?_)
  clear cb
  have hfr := hfr.stp hs
  have j0 := j0.stp hs
  obtain ⟨gp26, hs, qp26⟩ := OB.pub b26
  have hfr := hfr.stp hs
  have j0 := j0.stp hs
  refine EL_nil (thn_n (E_seq (E_region (EL_mv z3 rfl ?_))))
  refine EL_pur (v := .int .i64 ((x1).length : Int)) (P_len Try.underlying25 rfl j0) .plain rfl ?_
  refine EL_pur (v := (.func (.func 56) #[] #[j2])) (P_makeFunc (capf_0_1 (show ev _ _ = j2 from rfl))) .plain rfl ?_
  obtain ⟨u0, z4, h⟩ := bsome h
  refine EL_do .plain rfl (D_call (g := gp26) (vs := [.int .i64 ((x1).length : Int), (.func (.func 56) #[] #[j2])]) en55 (.cons rfl (.cons rfl .nil)) (wk55 ⟨56, #[], #[j2], rfl, en56, fun g' w' hch a0 b0 r hu0 hr => by obtain rfl := RV_int.1 hu0; exact Fn.mono (wk56  (qp26.ch hch) hr) fun _ _ _ h => RV_bool.2 h⟩ z4) fun q5 a6 m6 hs hr => ?_)
  have hfr := hfr.ext hs
  obtain ⟨o0, t5, rfl, c4, rfl⟩ := hr
  refine EL_mw (.tuple #[o0, .bool (u0.2)]) rfl rfl ?_
  refine EL_pur (v := o0) (P_extract rfl rfl) .plain rfl ?_
  refine EL_pur (v := .bool (u0.2)) (P_extract rfl rfl) .plain rfl ?_
  refine EL_at o0 rfl rfl ?_
  refine EL_at (.bool (u0.2)) rfl rfl ?_
  refine EL_nil (thn_n (E_joinC h (fun (s : Unit) e w => ∃ (g : Gh) , Fr gI wI g w ∧ e 9 = o0 ∧ RV g.m w (u0.1 : List Int) o0) (fun X30 j4 c5 h => ?_) ?_))
  ·refine E_seq (E_region (EL_mw (.bool (u0.2)) rfl rfl ?_))
   refine EL_pur (v := .bool (!u0.2)) (P_not rfl) .plain rfl ?_
   refine EL_nil (thn_n ?_)
   rcases csome h with ⟨i3, h⟩ | ⟨i3, h⟩
   ·refine E_ct i3 rfl ?_
    refine E_seq (E_region (EL_at (.slice none 0 0) rfl rfl ?_))
    refine EL_at (.int .i64 (7)) rfl rfl ?_
    refine EL_nil (thn_n (E_ret (thn_r ?_)))
    obtain rfl := sinj h
    exact end2 rfl rfl (show _ = .slice none 0 0 from rfl) (show _ = .int .i64 (7) from rfl) ⟨_, hfr, _, _, rfl, RV_nil, rfl⟩
   ·refine E_cf i3 rfl ?_
    exact E_skip (thn_n (c5 () _ _ ⟨q5, hfr, rfl, c4⟩ h))
  ·rintro _ c6 n6 ⟨o6, hfr, d4, i4⟩ h
   refine E_seq (E_region (EL_mv d4 rfl ?_))
   refine EL_at o0 rfl rfl ?_
   refine EL_at (.int .i64 (0)) rfl rfl ?_
   refine EL_nil (thn_n (E_ret ?_))
   obtain rfl := sinj h
   exact end2 rfl rfl (show _ = o0 from rfl) (show _ = .int .i64 (0) from rfl) ⟨_, hfr, _, _, rfl, i4, rfl⟩
/-- griffe/loom.Left -/
def f24 (x0 : LoomMill) (x1 : List LoomOrder) : Option ((List Int) × Int) :=
 (f50 x0 x1).bind fun y4 =>
 jn (σ := Unit) (fun (_ : Unit) =>
  (f52 (y4.1)).bind fun j1 =>
  (f51 (y4.1) j1 ([])).bind fun j2 =>
  (f55 (((x1).length : Int)) ((fun a0 => f57 a0 j2 (y4.1)))).bind fun z2 =>
  some (z2.1, (0 : Int))
  ) fun k8 =>
 bif (y4.2 != (0 : Int)) then
  some ([], y4.2)
 else
  k8 ()
theorem en24 : Enters Try.prog 24 := enters_of Try.func24 (by kernel_rfl) rfl
theorem wk24 {gI : Gh} {wI : World} {x0 : LoomMill} {x1 : List LoomOrder} {up0 : Value} (rp0 : RV gI.m wI x0 up0) {up1 : Value} (rp1 : RV gI.m wI x1 up1) {r : (List Int) × Int} (h : f24 x0 x1 = some r) : Fn Try.prog 24 #[up0, up1] gI wI (fun m w v => ∃ y0 y1, v = .tuple #[y0, y1] ∧ RV m w (r.1) y0 ∧ y1 = .int .i64 (r.2)) := by
 unfold f24 at h
 refine fn_of_E Try.func24 rfl (Nat.le_of_ble_eq_true rfl) fun g0 hm hfr => ?_
 have rp0 : RV g0.m wI x0 up0 := hm ▸ rp0
 have rp1 : RV g0.m wI x1 up1 := hm ▸ rp1
 show E _ 32 none _ _ _ _ _
 refine E_seq (E_region (EL_do .plain rfl (D_box (g := g0) rfl rp0 fun g1 w1 p1 hs q1 => ?_)))
 have hfr := hfr.ext hs
 have rp1 := rp1.ext hs
 refine EL_at (.slice none 0 0) rfl rfl ?_
 refine EL_at (.int .i64 (0)) rfl rfl ?_
 refine EL_nil (thn_n (E_seq (E_region (EL_do .plain rfl (D_load (g := g1) Try.isAgg24 Try.sizeOf24 rfl q1 fun v2 r2 => ?_)))))
 refine EL_mw up1 rfl rfl ?_
 obtain ⟨y4, p4, h⟩ := bsome h
 refine EL_do .plain rfl (D_call (g := g1) (vs := [v2, up1]) en50 (.cons rfl (.cons rfl .nil)) (wk50 r2 rp1 p4) fun g3 w3_ v3 hs hr => ?_)
 have hfr := hfr.ext hs
 have rp1 := rp1.ext hs
 obtain ⟨i3, l5, rfl, j3, rfl⟩ := hr
 refine EL_mw (.tuple #[i3, .int .i64 (y4.2)]) rfl rfl ?_
 refine EL_pur (v := i3) (P_extract rfl rfl) .plain rfl ?_
 refine EL_pur (v := .int .i64 (y4.2)) (P_extract rfl rfl) .plain rfl ?_
 refine EL_do .plain rfl (D_allocOc (g := g3) 2006 (⟨⟨[], 0⟩, []⟩ : LoomLoomMill) Try.zeroValue96 (fun m w => ⟨_, (rep_two (rep_two rep_nil rep_int) rep_nil), rfl⟩) fun g5 w5 p5 hs b5 cb => ?_)
 have hfr := hfr.stp hs
 have rp1 := rp1.stp hs
 have j3 := j3.stp hs
 have m5 : OSF 2006 60600 0 g5 w5 3 96 ([] : List Int) p5 := cb.osf (by rfl)
 have n5 : OSF 2006 60602 2 g5 w5 82 96 ([] : List LoomOrder) p5 := cb.osf (by rfl)
 clear cb
 refine EL_do .plain rfl (D_storeOc (g := g5) (v := i3) Try.sizeOf96 rfl b5 rfl j3 fun g6 w6 hs b6 cb => ?_)
 clear cb
 have hfr := hfr.stp hs
 have rp1 := rp1.stp hs
 obtain ⟨gp6, hs, qp6⟩ := OB.pub b6
 have hfr := hfr.stp hs
 have rp1 := rp1.stp hs
 refine EL_at (.int .i64 (y4.2)) rfl rfl ?_
 refine EL_nil (thn_n (E_joinC h (fun (s : Unit) e w => ∃ (g : Gh) , Fr gI wI g w ∧ e 1 = up1 ∧ RV g.m w (x1 : List LoomOrder) up1 ∧ e 6 = p5 ∧ PT g.m w (y4.1 : LoomLoomMill) p5) (fun X8 k8 u4 h => ?_) ?_))
 ·refine E_seq (E_region (EL_mw (.int .i64 (y4.2)) rfl rfl ?_))
  refine EL_in (.bool ((y4.2 != (0 : Int)))) rfl rfl rfl rfl ?_
  refine EL_nil (thn_n ?_)
  rcases csome h with ⟨o3, h⟩ | ⟨o3, h⟩
  ·refine E_ct o3 rfl ?_
   refine E_seq (E_region (EL_mw (.int .i64 (y4.2)) rfl rfl ?_))
   refine EL_at (.slice none 0 0) rfl rfl ?_
   refine EL_at (.int .i64 (y4.2)) rfl rfl ?_
   refine EL_nil (thn_n (E_ret (thn_r ?_)))
   obtain rfl := sinj h
   exact end2 rfl rfl (show _ = .slice none 0 0 from rfl) (show _ = .int .i64 (y4.2) from rfl) ⟨_, hfr, _, _, rfl, RV_nil, rfl⟩
  ·refine E_cf o3 rfl ?_
   exact E_skip (thn_n (u4 () _ _ ⟨gp6, hfr, rfl, rp1, rfl, qp6⟩ h))
 ·rintro _ o5 t5 ⟨x4, hfr, u3, o0, z1, j0⟩ h
  refine E_seq (L_load (x := .tmp 6) Try.isAgg96 Try.sizeOf96 j0 fun c4 z4 j4 => ?_)
  refine L_load (x := .tmp 6) Try.isAgg96 Try.sizeOf96 j0 fun d4 c5 hl12 => ?_
  obtain ⟨j1, m4, h⟩ := bsome h
  obtain ⟨j2, n4, h⟩ := bsome h
  refine E_drawL (g := x4) (n := 5) [(2, (fun v g w => RV g.m w j1 v)), (3, (fun v g w => RV g.m w j2 v)), (4, (fun v g w => OB 2008 g w 101 ([] : List Bool) v))] [0, 1, 2, 3, 4] rfl mixed (by kernel_rfl) (⟨fun _ => up_rv, fun _ => up_rv, fun _ => up_ob, trivial⟩) ?_
  refine L_ld (c := c4) rfl rfl .plain (fun _ _ h => h.ch) j4 z1 ?_
  refine L_ld (c := d4) rfl rfl .plain (fun _ _ h => h.ch) hl12 z1 ?_
  refine L_do (φ := fun v g w => RV g.m w j1 v) rfl rfl .plain (fun g w hd => D_call (g := g) (vs := [d4]) en52 (.cons rfl .nil) (wk52 (c5.ext hd.1) m4) fun g' w' v hs hr => ⟨g', hs, hr⟩) (fun p3 hv => ?_)
  obtain ⟨_, _, _, rq13⟩ := hv
  refine L_do (φ := fun v g w => RV g.m w j2 v) rfl rfl .plain (fun g w hd => D_call (g := g) (vs := [c4, p3, .map none]) en51 (.cons rfl (.cons rfl (.cons rfl .nil))) (wk51 (z4.ext hd.1) (word (A := fun g w => RV g.m w j1 p3) 2 rfl rfl (deps_of hd)) MR.nil n4) fun g' w' v hs hr => ⟨g', hs, hr⟩) (fun i4 hv => ?_)
  obtain ⟨_, _, _, rq15⟩ := hv
  refine L_do (φ := fun v g w => OB 2008 g w 101 ([] : List Bool) v) rfl rfl .plain (fun g w hd => D_allocX (g := g) 2008 ([] : List Bool) Try.zeroValue101 (fun m w => ⟨_, rep_nil, rfl⟩) fun g' w' v hs b => ⟨g', hs, b⟩) (fun d3 hv => ?_)
  clear hv
  refine L_nil fun d5 u5 hall => ?_
  have hs := hall.1
  have hfr := hfr.ext hs
  have o0 := o0.ext hs
  have j0 := j0.ext hs
  have x5 := (word_all (A := fun g w => RV g.m w j1 p3) 2 rfl hall)
  have i5 := (word_all (A := fun g w => RV g.m w j2 i4) 3 rfl hall)
  have b25 := (word_all (A := fun g w => OB 2008 g w 101 ([] : List Bool) d3) 4 rfl hall)
  clear hs hall
  refine EL_do .plain rfl (D_storeOc (g := d5) (v := i4) Try.sizeOf101 rfl b25 rfl i5 fun y5 z5 hs b26 cb => ?_)
  clear cb
  have hfr := hfr.stp hs
  have o0 := o0.stp hs
  have j0 := j0.stp hs
  obtain ⟨gp26, hs, qp26⟩ := OB.pub b26
  have hfr := hfr.stp hs
  have o0 := o0.stp hs
  have j0 := j0.stp hs
  refine EL_nil (thn_n (E_seq (E_region (EL_mv u3 rfl ?_))))
  refine EL_pur (v := .int .i64 ((x1).length : Int)) (P_len Try.underlying25 rfl o0) .plain rfl ?_
  refine EL_pur (v := (.func (.func 57) #[] #[d3, p5])) (P_makeFunc (capf_0_2 (show ev _ _ = d3 from rfl) (show ev _ _ = p5 from z1))) .plain rfl ?_
  obtain ⟨z2, o4, h⟩ := bsome h
  refine EL_do .plain rfl (D_call (g := gp26) (vs := [.int .i64 ((x1).length : Int), (.func (.func 57) #[] #[d3, p5])]) en55 (.cons rfl (.cons rfl .nil)) (wk55 ⟨57, #[], #[d3, p5], rfl, en57, fun g' w' hch a0 b0 r hu0 hr => by obtain rfl := RV_int.1 hu0; exact Fn.mono (wk57  (qp26.ch hch) (j0.ch hch) hr) fun _ _ _ h => RV_bool.2 h⟩ o4) fun a6 q5 c6 hs hr => ?_)
  have hfr := hfr.ext hs
  obtain ⟨u0, j5, rfl, z3, rfl⟩ := hr
  refine EL_mw (.tuple #[u0, .bool (z2.2)]) rfl rfl ?_
  refine EL_pur (v := u0) (P_extract rfl rfl) .plain rfl ?_
  refine EL_pur (v := .bool (z2.2)) (P_extract rfl rfl) .plain rfl ?_
  refine EL_at u0 rfl rfl ?_
  refine EL_at (.bool (z2.2)) rfl rfl ?_
  refine EL_nil (thn_n (E_seq (E_region (EL_mw u0 rfl rfl ?_))))
  refine EL_at u0 rfl rfl ?_
  refine EL_at (.int .i64 (0)) rfl rfl ?_
  refine EL_nil (thn_n (E_ret ?_))
  obtain rfl := sinj h
  exact end2 rfl rfl (show _ = u0 from rfl) (show _ = .int .i64 (0) from rfl) ⟨_, hfr, _, _, rfl, z3, rfl⟩
/-- griffe/loom.Fewest -/
def f25 (x0 : LoomMill) (x1 : List LoomOrder) : Option ((List Int) × Int) :=
 (f50 x0 x1).bind fun y4 =>
 jn (σ := Unit) (fun (_ : Unit) =>
  (f55 ((((x0).Widths).length : Int)) ((fun a0 => f58 a0 (y4.1)))).bind fun o0 =>
  jn (σ := Unit) (fun (_ : Unit) =>
   some (o0.1, (0 : Int))
   ) fun z3 =>
  bif (!o0.2) then
   some ([], (9 : Int))
  else
   z3 ()
  ) fun k8 =>
 bif (y4.2 != (0 : Int)) then
  some ([], y4.2)
 else
  k8 ()
theorem en25 : Enters Try.prog 25 := enters_of Try.func25 (by kernel_rfl) rfl
theorem wk25 {gI : Gh} {wI : World} {x0 : LoomMill} {x1 : List LoomOrder} {up0 : Value} (rp0 : RV gI.m wI x0 up0) {up1 : Value} (rp1 : RV gI.m wI x1 up1) {r : (List Int) × Int} (h : f25 x0 x1 = some r) : Fn Try.prog 25 #[up0, up1] gI wI (fun m w v => ∃ y0 y1, v = .tuple #[y0, y1] ∧ RV m w (r.1) y0 ∧ y1 = .int .i64 (r.2)) := by
 unfold f25 at h
 refine fn_of_E Try.func25 rfl (Nat.le_of_ble_eq_true rfl) fun g0 hm hfr => ?_
 have rp0 : RV g0.m wI x0 up0 := hm ▸ rp0
 have rp1 : RV g0.m wI x1 up1 := hm ▸ rp1
 show E _ 30 none _ _ _ _ _
 refine E_seq (E_region (EL_do .plain rfl (D_box (g := g0) rfl rp0 fun g1 w1 p1 hs q1 => ?_)))
 have hfr := hfr.ext hs
 have rp1 := rp1.ext hs
 refine EL_at (.slice none 0 0) rfl rfl ?_
 refine EL_at (.int .i64 (0)) rfl rfl ?_
 refine EL_nil (thn_n (E_seq (E_region (EL_do .plain rfl (D_load (g := g1) Try.isAgg24 Try.sizeOf24 rfl q1 fun v2 r2 => ?_)))))
 refine EL_mw up1 rfl rfl ?_
 obtain ⟨y4, j4, h⟩ := bsome h
 refine EL_do .plain rfl (D_call (g := g1) (vs := [v2, up1]) en50 (.cons rfl (.cons rfl .nil)) (wk50 r2 rp1 j4) fun g3 w3_ v3 hs hr => ?_)
 have hfr := hfr.ext hs
 have q1 := q1.ext hs
 obtain ⟨u0, x4, rfl, j1, rfl⟩ := hr
 refine EL_mw (.tuple #[u0, .int .i64 (y4.2)]) rfl rfl ?_
 refine EL_pur (v := u0) (P_extract rfl rfl) .plain rfl ?_
 refine EL_pur (v := .int .i64 (y4.2)) (P_extract rfl rfl) .plain rfl ?_
 refine EL_do .plain rfl (D_allocOc (g := g3) 2006 (⟨⟨[], 0⟩, []⟩ : LoomLoomMill) Try.zeroValue96 (fun m w => ⟨_, (rep_two (rep_two rep_nil rep_int) rep_nil), rfl⟩) fun g5 w5 p5 hs b5 cb => ?_)
 have hfr := hfr.stp hs
 have q1 := q1.stp hs
 have j1 := j1.stp hs
 have z4 : OSF 2006 60600 0 g5 w5 3 96 ([] : List Int) p5 := cb.osf (by rfl)
 have c5 : OSF 2006 60602 2 g5 w5 82 96 ([] : List LoomOrder) p5 := cb.osf (by rfl)
 clear cb
 refine EL_do .plain rfl (D_storeOc (g := g5) (v := u0) Try.sizeOf96 rfl b5 rfl j1 fun g6 w6 hs b6 cb => ?_)
 clear cb
 have hfr := hfr.stp hs
 have q1 := q1.stp hs
 obtain ⟨gp6, hs, qp6⟩ := OB.pub b6
 have hfr := hfr.stp hs
 have q1 := q1.stp hs
 refine EL_at (.int .i64 (y4.2)) rfl rfl ?_
 refine EL_nil (thn_n (E_joinC h (fun (s : Unit) e w => ∃ (g : Gh) , Fr gI wI g w ∧ e 2 = p1 ∧ PT g.m w (x0 : LoomMill) p1 ∧ e 6 = p5 ∧ PT g.m w (y4.1 : LoomLoomMill) p5) (fun X8 k8 m4 h => ?_) ?_))
 ·refine E_seq (E_region (EL_mw (.int .i64 (y4.2)) rfl rfl ?_))
  refine EL_in (.bool ((y4.2 != (0 : Int)))) rfl rfl rfl rfl ?_
  refine EL_nil (thn_n ?_)
  rcases csome h with ⟨z2, h⟩ | ⟨z2, h⟩
  ·refine E_ct z2 rfl ?_
   refine E_seq (E_region (EL_mw (.int .i64 (y4.2)) rfl rfl ?_))
   refine EL_at (.slice none 0 0) rfl rfl ?_
   refine EL_at (.int .i64 (y4.2)) rfl rfl ?_
   refine EL_nil (thn_n (E_ret (thn_r ?_)))
   obtain rfl := sinj h
   exact end2 rfl rfl (show _ = .slice none 0 0 from rfl) (show _ = .int .i64 (y4.2) from rfl) ⟨_, hfr, _, _, rfl, RV_nil, rfl⟩
  ·refine E_cf z2 rfl ?_
   exact E_skip (thn_n (m4 () _ _ ⟨gp6, hfr, rfl, q1, rfl, qp6⟩ h))
 ·rintro _ d5 l5 ⟨c4, hfr, d3, j2, i3, j3⟩ h
  refine E_seq (E_region (EL_pur (v := fPtr p1 0) (P_fieldAddr at_24_0 d3 (PT.ptr j2)) .plain rfl ?_))
  have n4 := PT_field (part_LoomMill_0).1 j2
  refine EL_do .plain rfl (D_load (g := c4) Try.isAgg22 Try.sizeOf22 rfl n4 fun m5 o4 => ?_)
  refine EL_pur (v := .int .i64 (((x0).Widths).length : Int)) (P_len Try.underlying22 rfl o4) .plain rfl ?_
  refine EL_pur (v := (.func (.func 58) #[] #[p5])) (P_makeFunc (capf_0_1 (show ev _ _ = p5 from i3))) .plain rfl ?_
  obtain ⟨o0, d4, h⟩ := bsome h
  refine EL_do .plain rfl (D_call (g := c4) (vs := [.int .i64 (((x0).Widths).length : Int), (.func (.func 58) #[] #[p5])]) en55 (.cons rfl (.cons rfl .nil)) (wk55 ⟨58, #[], #[p5], rfl, en58, fun g' w' hch a0 b0 r hu0 hr => by obtain rfl := RV_int.1 hu0; exact Fn.mono (wk58  (j3.ch hch) hr) fun _ _ _ h => RV_bool.2 h⟩ d4) fun p4 i5 n5 hs hr => ?_)
  have hfr := hfr.ext hs
  obtain ⟨j0, u4, rfl, o3, rfl⟩ := hr
  refine EL_mw (.tuple #[j0, .bool (o0.2)]) rfl rfl ?_
  refine EL_pur (v := j0) (P_extract rfl rfl) .plain rfl ?_
  refine EL_pur (v := .bool (o0.2)) (P_extract rfl rfl) .plain rfl ?_
  refine EL_at j0 rfl rfl ?_
  refine EL_at (.bool (o0.2)) rfl rfl ?_
  refine EL_nil (thn_n (E_joinC h (fun (s : Unit) e w => ∃ (g : Gh) , Fr gI wI g w ∧ e 8 = j0 ∧ RV g.m w (o0.1 : List Int) j0) (fun X16 z3 i4 h => ?_) ?_))
  ·refine E_seq (E_region (EL_mw (.bool (o0.2)) rfl rfl ?_))
   refine EL_pur (v := .bool (!o0.2)) (P_not rfl) .plain rfl ?_
   refine EL_nil (thn_n ?_)
   rcases csome h with ⟨z1, h⟩ | ⟨z1, h⟩
   ·refine E_ct z1 rfl ?_
    refine E_seq (E_region (EL_at (.slice none 0 0) rfl rfl ?_))
    refine EL_at (.int .i64 (9)) rfl rfl ?_
    refine EL_nil (thn_n (E_ret (thn_r ?_)))
    obtain rfl := sinj h
    exact end2 rfl rfl (show _ = .slice none 0 0 from rfl) (show _ = .int .i64 (9) from rfl) ⟨_, hfr, _, _, rfl, RV_nil, rfl⟩
   ·refine E_cf z1 rfl ?_
    exact E_skip (thn_n (i4 () _ _ ⟨p4, hfr, rfl, o3⟩ h))
  ·rintro _ j5 o5 ⟨q5, hfr, p3, u3⟩ h
   refine E_seq (E_region (EL_mv p3 rfl ?_))
   refine EL_at j0 rfl rfl ?_
   refine EL_at (.int .i64 (0)) rfl rfl ?_
   refine EL_nil (thn_n (E_ret ?_))
   obtain rfl := sinj h
   exact end2 rfl rfl (show _ = j0 from rfl) (show _ = .int .i64 (0) from rfl) ⟨_, hfr, _, _, rfl, u3, rfl⟩
/-- griffe/loom.Over -/
def f30 (x0 : LoomMill) (x1 : List LoomOrder) : Option (Span × Int × Int) :=
 (f50 x0 x1).bind fun y5 =>
 jn (σ := Span × Int) (fun (l6, m6) =>
  Option.bind (α := Span × Int × Int) (
   lp (σ := Span × Int × Int × Int) (fun l9 (c5, d5, i5, j0) =>
    bif (decide (j0 < (300 : Int))) then
     Option.bind (α := Span × Int × Int) (
      lp (σ := Span × Int × Int × Int) (fun m9 (n4, o4, d3, o0) =>
       jn (σ := Unit) (fun (_ : Unit) =>
        Option.bind (α := Span × Int × Int) (
         (f64 (y5.1) j0 o0).bind fun u0 =>
         bif (decide ((w64 (u0 - (w64 ((w64 (o0 - j0)) * (((x0).Widths).length : Int))))) > d3)) then
          some ((⟨j0, o0⟩ : Span), u0, (w64 (u0 - (w64 ((w64 (o0 - j0)) * (((x0).Widths).length : Int))))))
         else
          some (n4, o4, d3)
         ) fun (i3, j3, o3) =>
        m9 (i3, j3, o3, (w64 (o0 + (1 : Int))))
        ) fun n9 =>
       bif (decide (o0 ≤ (300 : Int))) then
        n9 ()
       else
        some (n4, o4, d3)
       ) big (c5, d5, i5, (w64 (j0 + (1 : Int))))
      ) fun (p3, u3, z3) =>
     l9 (p3, u3, z3, (w64 (j0 + (1 : Int))))
    else
     some (c5, d5, i5)
    ) big (l6, m6, (0 : Int), (0 : Int))
   ) fun (j2, c4, d4) =>
  jn (σ := Span × Int) (fun (q5, i4) =>
   some (q5, i4, (0 : Int))
   ) fun l7 =>
  bif (d4 == (0 : Int)) then
   some (j2, (0 : Int), (7 : Int))
  else
   l7 (j2, c4)
  ) fun o9 =>
 bif (y5.2 != (0 : Int)) then
  some ((⟨0, 0⟩ : Span), (0 : Int), y5.2)
 else
  o9 ((⟨0, 0⟩ : Span), (0 : Int))
theorem en30 : Enters Try.prog 30 := enters_of Try.func30 (by kernel_rfl) rfl
theorem wk30 {gI : Gh} {wI : World} {x0 : LoomMill} {x1 : List LoomOrder} {up0 : Value} (rp0 : RV gI.m wI x0 up0) {up1 : Value} (rp1 : RV gI.m wI x1 up1) {r : Span × Int × Int} (h : f30 x0 x1 = some r) : Fn Try.prog 30 #[up0, up1] gI wI (fun m w v => ∃ y0 y1 y2, v = .tuple #[y0, y1, y2] ∧ RV m w (r.1) y0 ∧ y1 = .int .i64 (r.2.1) ∧ y2 = .int .i64 (r.2.2)) := by
 unfold f30 at h
 refine fn_of_E Try.func30 rfl (Nat.le_of_ble_eq_true rfl) fun g0 hm hfr => ?_
 have rp0 : RV g0.m wI x0 up0 := hm ▸ rp0
 have rp1 : RV g0.m wI x1 up1 := hm ▸ rp1
 show E _ 59 none _ _ _ _ _
 refine E_seq (E_region (EL_do .plain rfl (D_box (g := g0) rfl rp0 fun g1 w1 p1 hs q1 => ?_)))
 have hfr := hfr.ext hs
 have rp1 := rp1.ext hs
 refine EL_do .plain rfl (D_allocOc (g := g1) 2004 (⟨0, 0⟩ : Span) Try.zeroValue48 (fun m w => ⟨_, (rep_two rep_int rep_int), rfl⟩) fun g2 w2 p2 hs b2 cb => ?_)
 have hfr := hfr.stp hs
 have rp1 := rp1.stp hs
 have q1 := q1.stp hs
 clear cb
 refine EL_at (.int .i64 (0)) rfl rfl ?_
 refine EL_at (.int .i64 (0)) rfl rfl ?_
 refine EL_nil (thn_n (E_seq (E_region (EL_do .plain rfl (D_load (g := g2) Try.isAgg24 Try.sizeOf24 rfl q1 fun v3 r3 => ?_)))))
 refine EL_mw up1 rfl rfl ?_
 obtain ⟨y5, mA, h⟩ := bsome h
 refine EL_do .plain rfl (D_call (g := g2) (vs := [v3, up1]) en50 (.cons rfl (.cons rfl .nil)) (wk50 r3 rp1 mA) fun g4 w4_ v4 hs hr => ?_)
 have hfr := hfr.ext hs
 have q1 := q1.ext hs
 have b2 := b2.ext hs
 obtain ⟨a6, uA, rfl, c6, rfl⟩ := hr
 refine EL_mw (.tuple #[a6, .int .i64 (y5.2)]) rfl rfl ?_
 refine EL_pur (v := a6) (P_extract rfl rfl) .plain rfl ?_
 refine EL_pur (v := .int .i64 (y5.2)) (P_extract rfl rfl) .plain rfl ?_
 refine EL_do .plain rfl (D_allocOc (g := g4) 2007 (⟨⟨[], 0⟩, []⟩ : LoomLoomMill) Try.zeroValue96 (fun m w => ⟨_, (rep_two (rep_two rep_nil rep_int) rep_nil), rfl⟩) fun g6 w6 p6 hs b6 cb => ?_)
 have hfr := hfr.stp hs
 have q1 := q1.stp hs
 have b2 := b2.stp hs rfl
 have c6 := c6.stp hs
 have vA : OSF 2007 60700 0 g6 w6 3 96 ([] : List Int) p6 := cb.osf (by rfl)
 have xA : OSF 2007 60702 2 g6 w6 82 96 ([] : List LoomOrder) p6 := cb.osf (by rfl)
 clear cb
 refine EL_do .plain rfl (D_storeOc (g := g6) (v := a6) Try.sizeOf96 rfl b6 rfl c6 fun g7 w7 hs b7 cb => ?_)
 clear cb
 have hfr := hfr.stp hs
 have q1 := q1.stp hs
 have b2 := b2.stp hs rfl
 refine EL_at (.int .i64 (y5.2)) rfl rfl ?_
 refine EL_nil (thn_n (E_joinC h (fun (s : Span × Int) e w => ∃ (g : Gh) , Fr gI wI g w ∧ e 2 = p1 ∧ PT g.m w (x0 : LoomMill) p1 ∧ e 4 = p2 ∧ OB 2004 g w 48 (s.1 : Span) p2 ∧ e 5 = .int .i64 (s.2) ∧ e 7 = p6 ∧ OB 2007 g w 96 (y5.1 : LoomLoomMill) p6) (fun X12 o9 t9 h => ?_) ?_))
 ·refine E_seq (E_region (EL_mw (.int .i64 (y5.2)) rfl rfl ?_))
  refine EL_in (.bool ((y5.2 != (0 : Int)))) rfl rfl rfl rfl ?_
  refine EL_nil (thn_n ?_)
  rcases csome h with ⟨d6, h⟩ | ⟨d6, h⟩
  ·refine E_ct d6 rfl ?_
   refine E_seq (E_region (EL_do .plain rfl (D_loadO (g := g7) Try.isAgg48 Try.sizeOf48 rfl b2 fun nA oA => ?_)))
   refine EL_mw (.int .i64 (y5.2)) rfl rfl ?_
   refine EL_do .plain rfl (D_storeOc (g := g7) (v := nA) Try.sizeOf48 rfl b2 rfl oA fun qB rB hs b15 cb => ?_)
   clear cb
   have hfr := hfr.stp hs
   refine EL_at (.int .i64 (0)) rfl rfl ?_
   refine EL_at (.int .i64 (y5.2)) rfl rfl ?_
   refine EL_nil (thn_n (E_ret (thn_r ?_)))
   obtain rfl := sinj h
   obtain ⟨ad16, cv16, hp16, u9, cr16⟩ := ob_read Try.isAgg48 Try.sizeOf48 b15
   exact endm_ctt rfl rfl ((show _ = p2 from rfl).trans hp16) u9 (show _ = .int .i64 (0) from rfl) (show _ = .int .i64 (y5.2) from rfl) ⟨_, hfr, _, _, _, rfl, cr16, rfl, rfl⟩
  ·refine E_cf d6 rfl ?_
   exact E_skip (thn_n (t9 ((⟨0, 0⟩ : Span), (0 : Int)) _ _ ⟨g7, hfr, rfl, q1, rfl, b2, rfl, rfl, b7⟩ h))
 ·rintro ⟨l6, m6⟩ yA sB ⟨pA, hfr, n8, o8, p8, q8, r8, t8, v8⟩ h
  refine E_seq (E_region (EL_at (.int .i64 (0)) rfl rfl ?_))
  refine EL_nil (thn_n ?_)
  obtain ⟨⟨j2, c4, d4⟩, hx, h⟩ := bsome h
  refine E_join (fun e w => ∃ (g : Gh) , Fr gI wI g w ∧ e 4 = p2 ∧ OB 2004 g w 48 (j2 : Span) p2 ∧ e 5 = .int .i64 (c4) ∧ e 8 = .int .i64 (d4)) (fun Q' hQ => ?_) (fun qA zA hR => ?_)
  ·replace h := hx
   clear hx
   refine E_seq (E_region (EL_mw (.int .i64 (0)) rfl rfl ?_))
   refine EL_nil (thn_n (E_block ?_))
   refine E_lp h (fun (s : Span × Int × Int × Int) e w => ∃ (g : Gh) , Fr gI wI g w ∧ e 2 = p1 ∧ PT g.m w (x0 : LoomMill) p1 ∧ e 4 = p2 ∧ OB 2004 g w 48 (s.1 : Span) p2 ∧ e 5 = .int .i64 (s.2.1) ∧ e 7 = p6 ∧ OB 2007 g w 96 (y5.1 : LoomLoomMill) p6 ∧ e 8 = .int .i64 (s.2.2.1) ∧ e 23 = .int .i64 (s.2.2.2)) ⟨pA, hfr, n8, o8, p8, q8, r8, t8, v8, rfl, rfl⟩ (fun X68 l9 v9 => ?_)
   rintro ⟨c5, d5, i5, j0⟩ aB tB ⟨p9, hfr, x8, y8, n6, o6, q6, z8, a9, r6, u4⟩ h
   refine E_seq (E_region (EL_in (.bool ((decide (j0 < (300 : Int))))) u4 rfl rfl rfl ?_))
   refine EL_nil (thn_n (E_seq ?_))
   rcases csome h with ⟨i6, h⟩ | ⟨i6, h⟩
   ·refine E_ct i6 rfl ?_
    refine E_skip (thn_n ?_)
    obtain ⟨⟨p3, u3, z3⟩, hx, h⟩ := bsome h
    refine E_join (fun e w => ∃ (g : Gh) , Fr gI wI g w ∧ e 2 = p1 ∧ PT g.m w (x0 : LoomMill) p1 ∧ e 4 = p2 ∧ OB 2004 g w 48 (p3 : Span) p2 ∧ e 5 = .int .i64 (u3) ∧ e 7 = p6 ∧ OB 2007 g w 96 (y5.1 : LoomLoomMill) p6 ∧ e 8 = .int .i64 (z3) ∧ e 23 = .int .i64 (j0)) (fun Q' hQ => ?_) (fun rA bB hR => ?_)
    ·replace h := hx
     clear hx
     refine E_block ?_
     refine E_seq (E_region (EL_mv u4 rfl ?_))
     refine EL_at (.int .i64 (j0)) rfl rfl ?_
     refine EL_nil (thn_n (E_seq (E_region (EL_mw (.int .i64 (j0)) rfl rfl ?_))))
     refine EL_in (.int .i64 ((w64 (j0 + (1 : Int))))) rfl rfl rfl rfl ?_
     refine EL_at (.int .i64 ((w64 (j0 + (1 : Int))))) rfl rfl ?_
     refine EL_nil (thn_n (E_block ?_))
     refine E_lp h (fun (s : Span × Int × Int × Int) e w => ∃ (g : Gh) , Fr gI wI g w ∧ e 2 = p1 ∧ PT g.m w (x0 : LoomMill) p1 ∧ e 4 = p2 ∧ OB 2004 g w 48 (s.1 : Span) p2 ∧ e 5 = .int .i64 (s.2.1) ∧ e 7 = p6 ∧ OB 2007 g w 96 (y5.1 : LoomLoomMill) p6 ∧ e 8 = .int .i64 (s.2.2.1) ∧ e 9 = .int .i64 (j0) ∧ e 10 = .int .i64 (s.2.2.2) ∧ e 23 = .int .i64 (j0)) ⟨p9, hfr, x8, y8, n6, o6, q6, z8, a9, r6, rfl, rfl, u4⟩ (fun X94 m9 x9 => ?_)
     rintro ⟨n4, o4, d3, o0⟩ cB uB ⟨q9, hfr, t6, u6, v6, x6, y6, z6, a7, c7, b9, t5, u5⟩ h
     refine E_joinC h (fun (s : Unit) e w => ∃ (g : Gh) , Fr gI wI g w ∧ e 2 = p1 ∧ PT g.m w (x0 : LoomMill) p1 ∧ e 4 = p2 ∧ OB 2004 g w 48 (n4 : Span) p2 ∧ e 5 = .int .i64 (o4) ∧ e 7 = p6 ∧ OB 2007 g w 96 (y5.1 : LoomLoomMill) p6 ∧ e 8 = .int .i64 (d3) ∧ e 9 = .int .i64 (j0) ∧ e 10 = .int .i64 (o0) ∧ e 23 = .int .i64 (j0)) (fun X97 n9 y9 h => ?_) ?_
     ·refine E_seq (E_region (EL_mv t5 rfl ?_))
      refine EL_in (.bool ((decide (o0 ≤ (300 : Int))))) rfl rfl rfl rfl ?_
      refine EL_nil (thn_n ?_)
      rcases csome h with ⟨j6, h⟩ | ⟨j6, h⟩
      ·refine E_ct j6 rfl ?_
       exact E_skip (thn_n (y9 () _ _ ⟨q9, hfr, t6, u6, v6, x6, y6, z6, a7, c7, b9, t5, u5⟩ h))
      ·refine E_cf j6 rfl ?_
       refine E_exit ?_
       refine thn_e ?_
       refine thn_e ?_
       refine blk_hit ?_
       refine blk_n ?_
       obtain ⟨rfl, rfl, rfl⟩ := pairs3 h
       exact hQ _ _ ⟨q9, hfr, t6, u6, v6, x6, y6, z6, a7, c7, u5⟩
     ·rintro _ dB vB ⟨r9, hfr, j5, j1, l5, p4, c9, m5, z1, d7, j4, z2, x5⟩ h
      obtain ⟨⟨i3, j3, o3⟩, hx, h⟩ := bsome h
      refine E_join (fun e w => ∃ (g : Gh) , Fr gI wI g w ∧ e 2 = p1 ∧ PT g.m w (x0 : LoomMill) p1 ∧ e 4 = p2 ∧ OB 2004 g w 48 (i3 : Span) p2 ∧ e 5 = .int .i64 (j3) ∧ e 7 = p6 ∧ OB 2007 g w 96 (y5.1 : LoomLoomMill) p6 ∧ e 8 = .int .i64 (o3) ∧ e 9 = .int .i64 (j0) ∧ e 10 = .int .i64 (o0) ∧ e 23 = .int .i64 (j0)) (fun Q' hQ => ?_) (fun sA eB hR => ?_)
      ·replace h := hx
       clear hx
       refine E_block ?_
       refine E_seq (E_region (EL_do .plain rfl (D_loadO (g := r9) Try.isAgg96 Try.sizeOf96 m5 z1 fun z9 aA => ?_)))
       refine EL_mv j4 rfl ?_
       refine EL_mv z2 rfl ?_
       obtain ⟨u0, d9, h⟩ := bsome h
       refine EL_do .plain rfl (D_call (g := r9) (vs := [z9, .int .i64 (j0), .int .i64 (o0)]) en64 (.cons rfl (.cons rfl (.cons rfl .nil))) (wk64 aA d9) fun n5 e9 iB hs hr => ?_)
       have hfr := hfr.ext hs
       have j1 := j1.ext hs
       have p4 := p4.ext hs
       have z1 := z1.ext hs
       subst hr
       refine EL_at (.int .i64 (u0)) rfl rfl ?_
       refine EL_nil (thn_n (E_seq (E_region (EL_mw (.int .i64 (u0)) rfl rfl ?_))))
       refine EL_mv z2 rfl ?_
       refine EL_mv j4 rfl ?_
       refine EL_in (.int .i64 ((w64 (o0 - j0)))) rfl rfl rfl rfl ?_
       refine EL_pur (v := fPtr p1 0) (P_fieldAddr at_24_0 j5 (PT.ptr j1)) .plain rfl ?_
       have bA := PT_field (part_LoomMill_0).1 j1
       refine EL_do .plain rfl (D_load (g := n5) Try.isAgg22 Try.sizeOf22 rfl bA fun jB cA => ?_)
       refine EL_pur (v := .int .i64 (((x0).Widths).length : Int)) (P_len Try.underlying22 rfl cA) .plain rfl ?_
       refine EL_pur (v := .int .i64 ((w64 ((w64 (o0 - j0)) * (((x0).Widths).length : Int))))) (P_int rfl rfl rfl) .plain rfl ?_
       refine EL_pur (v := .int .i64 ((w64 (u0 - (w64 ((w64 (o0 - j0)) * (((x0).Widths).length : Int))))))) (P_int rfl rfl rfl) .plain rfl ?_
       refine EL_pur (v := .int .i64 ((w64 (u0 - (w64 ((w64 (o0 - j0)) * (((x0).Widths).length : Int))))))) (P_assign rfl) .plain rfl ?_
       refine EL_nil (thn_n (E_seq (E_region (EL_pur (v := .int .i64 ((w64 (u0 - (w64 ((w64 (o0 - j0)) * (((x0).Widths).length : Int))))))) (P_move rfl) .plain rfl ?_))))
       refine EL_mv d7 rfl ?_
       refine EL_pur (v := .bool ((decide ((w64 (u0 - (w64 ((w64 (o0 - j0)) * (((x0).Widths).length : Int))))) > d3)))) (P_int rfl rfl rfl) .plain rfl ?_
       refine EL_nil (thn_n ?_)
       rcases csome h with ⟨o5, h⟩ | ⟨o5, h⟩
       ·refine E_ct o5 rfl ?_
        refine E_region (EL_mv j4 rfl ?_)
        refine EL_mv z2 rfl ?_
        have m7 : RV n5.m e9 (⟨j0, o0⟩ : Span) (.agg (setCh [[.int .i64 0], [.int .i64 0]] [(0, .int .i64 (j0)), (1, .int .i64 (o0))]).flatten.toArray) := RV_build rfl (rep_pair (rfl) (rep_last (rfl)))
        generalize g9 : (Value.agg (setCh [[.int .i64 0], [.int .i64 0]] [(0, .int .i64 (j0)), (1, .int .i64 (o0))]).flatten.toArray) = n7 at m7
        refine EL_pur (v := n7) (g9 ▸ P_build (vs := [(0, .int .i64 (j0)), (1, .int .i64 (o0))]) [[.int .i64 0], [.int .i64 0]] lay_48 rfl rfl (.cons rfl (.cons rfl .nil)) ⟨⟨_, rfl, rfl⟩, ⟨⟨_, rfl, rfl⟩, trivial⟩⟩) .plain rfl ?_
        refine EL_mw (.int .i64 (u0)) rfl rfl ?_
        refine EL_pur (v := .int .i64 ((w64 (u0 - (w64 ((w64 (o0 - j0)) * (((x0).Widths).length : Int))))))) (P_move rfl) .plain rfl ?_
        refine EL_do .plain rfl (D_storeOc (g := n5) (v := n7) Try.sizeOf48 l5 p4 rfl m7 fun dA kB hs b115 cb => ?_)
        clear cb
        have hfr := hfr.stp hs
        have j1 := j1.stp hs
        have z1 := z1.stp hs rfl
        refine EL_at (.int .i64 (u0)) rfl rfl ?_
        refine EL_pur (v := .int .i64 ((w64 (u0 - (w64 ((w64 (o0 - j0)) * (((x0).Widths).length : Int))))))) (P_assign rfl) .plain rfl ?_
        refine EL_nil (blk_n ?_)
        obtain ⟨rfl, rfl, rfl⟩ := pairs3 h
        exact hQ _ _ ⟨dA, hfr, j5, j1, l5, b115, rfl, m5, z1, rfl, j4, z2, x5⟩
       ·refine E_cf o5 rfl ?_
        refine E_skip (blk_n ?_)
        obtain ⟨rfl, rfl, rfl⟩ := pairs3 h
        exact hQ _ _ ⟨n5, hfr, j5, j1, l5, p4, c9, m5, z1, d7, j4, z2, x5⟩
      ·clear hx
       obtain ⟨eA, hfr, o7, p7, q7, r7, t7, u7, v7, x7, y7, e7, i7⟩ := hR
       refine E_region (EL_mv e7 rfl ?_)
       refine EL_in (.int .i64 ((w64 (o0 + (1 : Int))))) rfl rfl rfl rfl ?_
       refine EL_at (.int .i64 ((w64 (o0 + (1 : Int))))) rfl rfl ?_
       exact EL_nil (thn_n (x9 (i3, j3, o3, (w64 (o0 + (1 : Int)))) _ _ ⟨eA, hfr, o7, p7, q7, r7, t7, u7, v7, x7, y7, rfl, i7⟩ h))
    ·clear hx
     obtain ⟨gA, hfr, z7, a8, b8, c8, d8, e8, g8, i8, j7⟩ := hR
     refine E_region (EL_in (.int .i64 ((w64 (j0 + (1 : Int))))) j7 rfl rfl rfl ?_)
     refine EL_mw (.int .i64 ((w64 (j0 + (1 : Int))))) rfl rfl ?_
     exact EL_nil (thn_n (v9 (p3, u3, z3, (w64 (j0 + (1 : Int)))) _ _ ⟨gA, hfr, z7, a8, b8, c8, d8, e8, g8, i8, rfl⟩ h))
   ·refine E_cf i6 rfl ?_
    refine E_exit ?_
    refine thn_e ?_
    refine thn_e ?_
    refine blk_hit ?_
    obtain ⟨rfl, rfl, rfl⟩ := pairs3 h
    exact hQ _ _ ⟨p9, hfr, n6, o6, q6, r6⟩
  ·clear hx
   obtain ⟨k6, hfr, m4, x4, j8, k8⟩ := hR
   refine E_joinC h (fun (s : Span × Int) e w => ∃ (g : Gh) , Fr gI wI g w ∧ e 4 = p2 ∧ OB 2004 g w 48 (s.1 : Span) p2 ∧ e 5 = .int .i64 (s.2)) (fun X123 l7 i9 h => ?_) ?_
   ·refine E_seq (E_region (EL_mv k8 rfl ?_))
    refine EL_in (.bool ((d4 == (0 : Int)))) rfl rfl rfl rfl ?_
    refine EL_nil (thn_n ?_)
    rcases csome h with ⟨p5, h⟩ | ⟨p5, h⟩
    ·refine E_ct p5 rfl ?_
     refine E_seq (E_region (EL_do .plain rfl (D_loadO (g := k6) Try.isAgg48 Try.sizeOf48 m4 x4 fun iA jA => ?_)))
     refine EL_do .plain rfl (D_storeOc (g := k6) (v := iA) Try.sizeOf48 m4 x4 rfl jA fun lB mB hs b126 cb => ?_)
     clear cb
     have hfr := hfr.stp hs
     refine EL_at (.int .i64 (0)) rfl rfl ?_
     refine EL_at (.int .i64 (7)) rfl rfl ?_
     refine EL_nil (thn_n (E_ret (thn_r ?_)))
     obtain rfl := sinj h
     obtain ⟨ad127, cv127, hp127, j9, cr127⟩ := ob_read Try.isAgg48 Try.sizeOf48 b126
     exact endm_ctt rfl rfl ((show _ = p2 from m4).trans hp127) j9 (show _ = .int .i64 (0) from rfl) (show _ = .int .i64 (7) from rfl) ⟨_, hfr, _, _, _, rfl, cr127, rfl, rfl⟩
    ·refine E_cf p5 rfl ?_
     exact E_skip (thn_n (i9 (j2, c4) _ _ ⟨k6, hfr, m4, x4, j8⟩ h))
   ·rintro ⟨q5, i4⟩ tA nB ⟨l8, hfr, z4, z5, m8⟩ h
    refine E_seq (E_region (EL_do .plain rfl (D_loadO (g := l8) Try.isAgg48 Try.sizeOf48 z4 z5 fun kA lA => ?_)))
    refine EL_mv m8 rfl ?_
    refine EL_do .plain rfl (D_storeOc (g := l8) (v := kA) Try.sizeOf48 z4 z5 rfl lA fun oB pB hs b130 cb => ?_)
    clear cb
    have hfr := hfr.stp hs
    refine EL_at (.int .i64 (i4)) rfl rfl ?_
    refine EL_at (.int .i64 (0)) rfl rfl ?_
    refine EL_nil (thn_n (E_ret ?_))
    obtain rfl := sinj h
    obtain ⟨ad131, cv131, hp131, k9, cr131⟩ := ob_read Try.isAgg48 Try.sizeOf48 b130
    exact endm_ctt rfl rfl ((show _ = p2 from z4).trans hp131) k9 (show _ = .int .i64 (i4) from rfl) (show _ = .int .i64 (0) from rfl) ⟨_, hfr, _, _, _, rfl, cr131, rfl, rfl⟩
/-- griffe/loom.Stops -/
def f33 (x0 : LoomMill) (x1 : List LoomOrder) (x2 : List LoomRun) (x3 : LoomStop) : Option ((List Int) × Int) :=
 (f65 x0 x1 x2 x3).bind fun y6 =>
 jn (σ := (List Int)) (fun c6 =>
  Option.bind (α := (List Int)) (
   lp (σ := (List Int) × Int) (fun x7 (z3, j0) =>
    bif (decide (j0 < ((x2).length : Int))) then
     Option.bind (α := (List Int)) (
      (idx x2 j0).bind fun j3 =>
      Option.bind (α := Bool) (
       bif ((j3).Loom == (x3).Loom) then
        (f66 (y6.1) j3).bind fun y132 =>
        some (y132)
       else
        some (false)
       ) fun o3 =>
      bif o3 then
       (apnd 8 z3 (([(j3).Order] : List Int))).bind fun q6 =>
       some (q6)
      else
       some (z3)
      ) fun u3 =>
     x7 (u3, (w64 (j0 + (1 : Int))))
    else
     some (z3)
    ) big (c6, (0 : Int))
   ) fun c4 =>
  some (c4, (0 : Int))
  ) fun y7 =>
 bif (y6.2 != (0 : Int)) then
  some ([], y6.2)
 else
  y7 ([])
theorem en33 : Enters Try.prog 33 := enters_of Try.func33 (by kernel_rfl) rfl
theorem wk33 {gI : Gh} {wI : World} {x0 : LoomMill} {x1 : List LoomOrder} {x2 : List LoomRun} {x3 : LoomStop} {up0 : Value} (rp0 : RV gI.m wI x0 up0) {up1 : Value} (rp1 : RV gI.m wI x1 up1) {up2 : Value} (rp2 : RV gI.m wI x2 up2) {up3 : Value} (rp3 : RV gI.m wI x3 up3) {r : (List Int) × Int} (h : f33 x0 x1 x2 x3 = some r) : Fn Try.prog 33 #[up0, up1, up2, up3] gI wI (fun m w v => ∃ y0 y1, v = .tuple #[y0, y1] ∧ RV m w (r.1) y0 ∧ y1 = .int .i64 (r.2)) := by
 unfold f33 at h
 refine fn_of_E Try.func33 rfl (Nat.le_of_ble_eq_true rfl) fun g0 hm hfr => ?_
 have rp0 : RV g0.m wI x0 up0 := hm ▸ rp0
 have rp1 : RV g0.m wI x1 up1 := hm ▸ rp1
 have rp2 : RV g0.m wI x2 up2 := hm ▸ rp2
 have rp3 : RV g0.m wI x3 up3 := hm ▸ rp3
 show E _ 47 none _ _ _ _ _
 refine E_seq (E_region (EL_do .plain rfl (D_box (g := g0) rfl rp0 fun g1 w1 p1 hs q1 => ?_)))
 have hfr := hfr.ext hs
 have rp1 := rp1.ext hs
 have rp2 := rp2.ext hs
 have rp3 := rp3.ext hs
 refine EL_do .plain rfl (D_box (g := g1) rfl rp3 fun g2 w2 p2 hs q2 => ?_)
 have hfr := hfr.ext hs
 have rp1 := rp1.ext hs
 have rp2 := rp2.ext hs
 have q1 := q1.ext hs
 refine EL_at (.slice none 0 0) rfl rfl ?_
 refine EL_at (.int .i64 (0)) rfl rfl ?_
 refine EL_nil (thn_n (E_seq (E_region (EL_do .plain rfl (D_load (g := g2) Try.isAgg24 Try.sizeOf24 rfl q1 fun v3 r3 => ?_)))))
 refine EL_mw up1 rfl rfl ?_
 refine EL_mw up2 rfl rfl ?_
 refine EL_do .plain rfl (D_load (g := g2) Try.isAgg54 Try.sizeOf54 rfl q2 fun v4 r4 => ?_)
 obtain ⟨y6, a9, h⟩ := bsome h
 refine EL_do .plain rfl (D_call (g := g2) (vs := [v3, up1, up2, v4]) en65 (.cons rfl (.cons rfl (.cons rfl (.cons rfl .nil)))) (wk65 r3 rp1 rp2 r4 a9) fun g5 w5_ v5 hs hr => ?_)
 have hfr := hfr.ext hs
 have rp2 := rp2.ext hs
 have q2 := q2.ext hs
 obtain ⟨u5, j9, rfl, x5, rfl⟩ := hr
 refine EL_mw (.tuple #[u5, .int .i64 (y6.2)]) rfl rfl ?_
 refine EL_pur (v := u5) (P_extract rfl rfl) .plain rfl ?_
 refine EL_pur (v := .int .i64 (y6.2)) (P_extract rfl rfl) .plain rfl ?_
 refine EL_do .plain rfl (D_allocOc (g := g5) 2010 (⟨⟨⟨[], 0⟩, []⟩, ⟨0, ⟨0, 0⟩⟩⟩ : LoomStill) Try.zeroValue113 (fun m w => ⟨_, (rep_two (rep_two (rep_two rep_nil rep_int) rep_nil) (rep_two rep_int (rep_two rep_int rep_int))), rfl⟩) fun g7 w7 p7 hs b7 cb => ?_)
 have hfr := hfr.stp hs
 have rp2 := rp2.stp hs
 have q2 := q2.stp hs
 have x5 := x5.stp hs
 have k9 : OSF 2010 61000 0 g7 w7 3 113 ([] : List Int) p7 := cb.osf (by rfl)
 have l9 : OSF 2010 61002 2 g7 w7 82 113 ([] : List LoomOrder) p7 := cb.osf (by rfl)
 clear cb
 refine EL_do .plain rfl (D_storeOc (g := g7) (v := u5) Try.sizeOf113 rfl b7 rfl x5 fun g8 w8 hs b8 cb => ?_)
 clear cb
 have hfr := hfr.stp hs
 have rp2 := rp2.stp hs
 have q2 := q2.stp hs
 refine EL_at (.int .i64 (y6.2)) rfl rfl ?_
 refine EL_nil (thn_n (E_joinC h (fun (s : (List Int)) e w => ∃ (g : Gh) (v8 : Value), Fr gI wI g w ∧ e 2 = up2 ∧ RV g.m w (x2 : List LoomRun) up2 ∧ e 7 = p2 ∧ PT g.m w (x3 : LoomStop) p2 ∧ e 8 = v8 ∧ RV g.m w (s : List Int) v8 ∧ OS 1008 g w 3 (s : List Int) v8 ∧ e 10 = p7 ∧ OB 2010 g w 113 (y6.1 : LoomStill) p7) (fun X10 y7 z7 h => ?_) ?_))
 ·refine E_seq (E_region (EL_mw (.int .i64 (y6.2)) rfl rfl ?_))
  refine EL_in (.bool ((y6.2 != (0 : Int)))) rfl rfl rfl rfl ?_
  refine EL_nil (thn_n ?_)
  rcases csome h with ⟨y5, h⟩ | ⟨y5, h⟩
  ·refine E_ct y5 rfl ?_
   refine E_seq (E_region (EL_mw (.int .i64 (y6.2)) rfl rfl ?_))
   refine EL_at (.slice none 0 0) rfl rfl ?_
   refine EL_at (.int .i64 (y6.2)) rfl rfl ?_
   refine EL_nil (thn_n (E_ret (thn_r ?_)))
   obtain rfl := sinj h
   exact end2 rfl rfl (show _ = .slice none 0 0 from rfl) (show _ = .int .i64 (y6.2) from rfl) ⟨_, hfr, _, _, rfl, RV_nil, rfl⟩
  ·refine E_cf y5 rfl ?_
   exact E_skip (thn_n (z7 ([]) _ _ ⟨g8, (.slice none 0 0), hfr, rfl, rp2, rfl, q2, rfl, RV_nil, OS.nil, rfl, b8⟩ h))
 ·rintro c6 m9 dA ⟨b9, l7, hfr, m7, d6, n7, o7, q7, r7, t7, r6, t6⟩ h
  obtain ⟨c4, hx, h⟩ := bsome h
  refine E_join (fun e w => ∃ (g : Gh) (v8 : Value), Fr gI wI g w ∧ e 8 = v8 ∧ RV g.m w (c4 : List Int) v8 ∧ OS 1008 g w 3 (c4 : List Int) v8) (fun Q' hQ => ?_) (fun d9 n9 hR => ?_)
  ·replace h := hx
   clear hx
   refine E_seq (E_region (EL_mv m7 rfl ?_))
   refine EL_pur (v := .int .i64 ((x2).length : Int)) (P_len Try.underlying31 rfl d6) .plain rfl ?_
   refine EL_mw (.int .i64 (0)) rfl rfl ?_
   refine EL_nil (thn_n (E_block ?_))
   refine E_lp h (fun (s : (List Int) × Int) e w => ∃ (g : Gh) (v8 : Value), Fr gI wI g w ∧ e 7 = p2 ∧ PT g.m w (x3 : LoomStop) p2 ∧ e 8 = v8 ∧ RV g.m w (s.1 : List Int) v8 ∧ OS 1008 g w 3 (s.1 : List Int) v8 ∧ e 10 = p7 ∧ OB 2010 g w 113 (y6.1 : LoomStill) p7 ∧ e 24 = up2 ∧ RV g.m w (x2 : List LoomRun) up2 ∧ e 25 = .int .i64 (((x2).length : Int)) ∧ e 26 = .int .i64 (s.2)) ⟨b9, (l7), hfr, n7, o7, q7, r7, t7, r6, t6, rfl, d6, rfl, rfl⟩ (fun X77 x7 a8 => ?_)
   rintro ⟨z3, j0⟩ o9 eA ⟨u6, d4, hfr, l5, j1, m5, z1, j2, o4, u0, p4, o0, u4, i4⟩ h
   refine E_seq (E_region (EL_in (.bool ((decide (j0 < ((x2).length : Int))))) i4 u4 rfl rfl ?_))
   refine EL_nil (thn_n (E_seq ?_))
   rcases csome h with ⟨z5, h⟩ | ⟨z5, h⟩
   ·refine E_ct z5 rfl ?_
    refine E_skip (thn_n ?_)
    obtain ⟨u3, hx, h⟩ := bsome h
    refine E_join (fun e w => ∃ (g : Gh) (v8 : Value), Fr gI wI g w ∧ e 7 = p2 ∧ PT g.m w (x3 : LoomStop) p2 ∧ e 8 = v8 ∧ RV g.m w (u3 : List Int) v8 ∧ OS 1008 g w 3 (u3 : List Int) v8 ∧ e 10 = p7 ∧ OB 2010 g w 113 (y6.1 : LoomStill) p7 ∧ e 24 = up2 ∧ RV g.m w (x2 : List LoomRun) up2 ∧ e 25 = .int .i64 (((x2).length : Int)) ∧ e 26 = .int .i64 (j0)) (fun Q' hQ => ?_) (fun e9 p9 hR => ?_)
    ·replace h := hx
     clear hx
     refine E_block ?_
     refine E_seq (E_region ?_)
     obtain ⟨j3, i6, h⟩ := bsome h
     refine EL_pur (v := ePtr up2 j0 3) (P_indexAddr (α := LoomRun) Try.underlying31 Try.sizeOf76 p4 o0 i4 i6) .plain rfl ?_
     have c8 := PT_idx o0 i6
     refine EL_do .plain rfl (D_load (g := u6) Try.isAgg76 Try.sizeOf76 rfl c8 fun d8 a6 => ?_)
     refine EL_do .plain rfl (D_allocOc (g := u6) 2012 (⟨0, 0, 0⟩ : LoomRun) Try.zeroValue76 (fun m w => ⟨_, (rep_two rep_int (rep_two rep_int rep_int)), rfl⟩) fun e8 q9 n5 hs b113 cb => ?_)
     have hfr := hfr.stp hs
     have j1 := j1.stp hs
     have z1 := z1.stp hs
     have j2 := j2.stp hs rfl
     have u0 := u0.stp hs rfl
     have o0 := o0.stp hs
     have a6 := a6.stp hs
     clear cb
     refine EL_do .plain rfl (D_storeOc (g := e8) (v := d8) Try.sizeOf76 rfl b113 rfl a6 fun n4 r9 hs b114 cb => ?_)
     clear cb
     have hfr := hfr.stp hs
     have j1 := j1.stp hs
     have z1 := z1.stp hs
     have j2 := j2.stp hs rfl
     have u0 := u0.stp hs rfl
     have o0 := o0.stp hs
     refine EL_nil (thn_n ?_)
     obtain ⟨o3, hx, h⟩ := bsome h
     refine E_join (fun e w => ∃ (g : Gh) , Fr gI wI g w ∧ e 7 = p2 ∧ PT g.m w (x3 : LoomStop) p2 ∧ e 8 = d4 ∧ RV g.m w (z3 : List Int) d4 ∧ OS 1008 g w 3 (z3 : List Int) d4 ∧ e 10 = p7 ∧ OB 2010 g w 113 (y6.1 : LoomStill) p7 ∧ e 12 = n5 ∧ OB 2012 g w 76 (j3 : LoomRun) n5 ∧ e 24 = up2 ∧ RV g.m w (x2 : List LoomRun) up2 ∧ e 25 = .int .i64 (((x2).length : Int)) ∧ e 26 = .int .i64 (j0) ∧ e 39 = .bool (o3)) (fun Q' hQ => ?_) (fun g9 t9 hR => ?_)
     ·replace h := hx
      clear hx
      refine E_region (EL_pur (v := fPtr n5 1) (P_fieldAddr at_76_1 rfl (OB.ptr b114)) .plain rfl ?_)
      refine EL_do .plain rfl (D_loadF (g := n4) part_LoomRun_1.1 Try.isAgg3 Try.sizeOf3 rfl b114 fun u9 i8 => ?_)
      obtain rfl := RV_int.1 i8
      refine EL_pur (v := fPtr p2 0) (P_fieldAddr at_54_0 l5 (PT.ptr j1)) .plain rfl ?_
      have j8 := PT_field (part_LoomStop_0).1 j1
      refine EL_do .plain rfl (D_load (g := n4) Try.isAgg3 Try.sizeOf3 rfl j8 fun v9 k8 => ?_)
      obtain rfl := RV_int.1 k8
      refine EL_in (.bool (((j3).Loom == (x3).Loom))) rfl rfl rfl rfl ?_
      refine EL_mw (.bool (((j3).Loom == (x3).Loom))) rfl rfl ?_
      rcases csome h with ⟨z2, h⟩ | ⟨z2, h⟩
      ·refine EL_do (.yes2 rfl rfl z2) rfl (D_loadO (g := n4) Try.isAgg113 Try.sizeOf113 o4 u0 fun l8 m8 => ?_)
       refine EL_do (.yes2 rfl rfl z2) rfl (D_loadO (g := n4) Try.isAgg76 Try.sizeOf76 rfl b114 fun n8 o8 => ?_)
       obtain ⟨y132, u7, h⟩ := bsome h
       refine EL_do (.yes2 rfl rfl z2) rfl (D_call (g := n4) (vs := [l8, n8]) en66 (.cons rfl (.cons rfl .nil)) (wk66 m8 o8 u7) fun p8 i9 x9 hs hr => ?_)
       have hfr := hfr.ext hs
       have j1 := j1.ext hs
       have z1 := z1.ext hs
       have j2 := j2.ext hs
       have u0 := u0.ext hs
       have o0 := o0.ext hs
       have b114 := b114.ext hs
       subst hr
       refine EL_pur (v := .bool (y132)) (P_pick (b := ((j3).Loom == (x3).Loom)) rfl (pick_t z2 rfl)) .plain rfl ?_
       refine EL_nil ?_
       obtain rfl := sinj h
       exact hQ _ _ ⟨p8, hfr, l5, j1, m5, z1, j2, o4, u0, rfl, b114, p4, o0, u4, i4, rfl⟩
      ·refine EL_skip (.no2 rfl rfl z2 rfl) rfl ?_
       refine EL_skip (.no2 rfl rfl z2 rfl) rfl ?_
       refine EL_skip (.no2 rfl rfl z2 rfl) rfl ?_
       refine EL_pur (v := .bool false) (P_pick (b := ((j3).Loom == (x3).Loom)) rfl (pick_f z2 rfl)) .plain rfl ?_
       refine EL_nil ?_
       obtain rfl := sinj h
       exact hQ _ _ ⟨n4, hfr, l5, j1, m5, z1, j2, o4, u0, rfl, b114, p4, o0, u4, i4, rfl⟩
     ·clear hx
      obtain ⟨b6, hfr, p5, p3, q5, j4, m4, x4, d3, j6, z4, c5, i3, d5, i5, j5⟩ := hR
      rcases csome h with ⟨o5, h⟩ | ⟨o5, h⟩
      ·refine E_cond_true (Eq.trans (show ev _ _ = .bool (o3) from j5) (congrArg Value.bool o5)) ?_
       refine E_region (EL_mv q5 rfl ?_)
       refine EL_pur (v := fPtr n5 0) (P_fieldAddr at_76_0 j6 (OB.ptr z4)) .plain rfl ?_
       refine EL_do .plain rfl (D_loadF (g := b6) part_LoomRun_0.1 Try.isAgg3 Try.sizeOf3 rfl z4 fun y9 q8 => ?_)
       obtain rfl := RV_int.1 q8
       refine EL_do .plain rfl (D_buildSlice (g := b6) 3043 (xs := ([(j3).Order] : List Int)) (vs := [.int .i64 ((j3).Order)]) Try.underlying22 Try.sizeOf3 Try.zeroValue3 rfl rfl (.cons rfl .nil) (RVs.cons (RV_int.2 rfl) RVs.nil) rfl rfl fun r8 z9 aA hs o137 t8 hxt hfl => ?_)
       have hfr := hfr.stp hs
       have p3 := p3.stp hs
       have j4 := j4.stp hs
       have m4 := m4.stp hs rfl
       have d3 := d3.stp hs rfl
       have i3 := i3.stp hs
       obtain ⟨q6, v7, h⟩ := bsome h
       refine EL_do .plain rfl (D_append (g := r8) (i := 1008) Try.underlying22 info_3 rfl rfl m4 j4 rfl t8 v7 fun x8 bA v6 hs o138 y8 _ => ?_)
       have hfr := hfr.stp hs
       have p3 := p3.stp hs
       have d3 := d3.stp hs rfl
       have i3 := i3.stp hs
       refine EL_at v6 rfl rfl ?_
       refine EL_nil (blk_n ?_)
       obtain rfl := sinj h
       exact hQ _ _ ⟨x8, (v6), hfr, p5, p3, rfl, y8, o138, x4, d3, c5, i3, d5, i5⟩
      ·refine E_cond_false (Eq.trans (show ev _ _ = .bool (o3) from j5) (congrArg Value.bool o5)) ?_
       refine E_skip (blk_n ?_)
       obtain rfl := sinj h
       exact hQ _ _ ⟨b6, (d4), hfr, p5, p3, q5, j4, m4, x4, d3, c5, i3, d5, i5⟩
    ·clear hx
     obtain ⟨z8, x6, hfr, z6, a7, c7, d7, e7, k6, l6, m6, n6, o6, p6⟩ := hR
     refine E_region (EL_in (.int .i64 ((w64 (j0 + (1 : Int))))) p6 rfl rfl rfl ?_)
     refine EL_mw (.int .i64 ((w64 (j0 + (1 : Int))))) rfl rfl ?_
     exact EL_nil (thn_n (a8 (u3, (w64 (j0 + (1 : Int)))) _ _ ⟨z8, (x6), hfr, z6, a7, c7, d7, e7, k6, l6, m6, n6, o6, rfl⟩ h))
   ·refine E_cf z5 rfl ?_
    refine E_exit ?_
    refine thn_e ?_
    refine thn_e ?_
    refine blk_hit ?_
    obtain rfl := sinj h
    exact hQ _ _ ⟨u6, (d4), hfr, m5, z1, j2⟩
  ·clear hx
   obtain ⟨cA, t5, hfr, i7, j7, c9⟩ := hR
   refine E_seq (E_region (EL_mv i7 rfl ?_))
   refine EL_at t5 rfl rfl ?_
   refine EL_at (.int .i64 (0)) rfl rfl ?_
   refine EL_nil (thn_n (E_ret ?_))
   obtain rfl := sinj h
   exact end2 rfl rfl (show _ = t5 from rfl) (show _ = .int .i64 (0) from rfl) ⟨_, hfr, _, _, rfl, j7, rfl⟩
theorem v67_0 {iO : Nat} {gI : Gh} {wI : World} {x0 : List LoomRun} {up0 : Value} (rp0 : RV gI.m wI x0 up0) {r : List LoomRun} (h : f67 x0 = some r) : FnG Try.prog 67 #[up0] gI wI (fun g w v => OM iO g w 76 r v) := by
 unfold f67 at h
 refine fnG_of_E Try.func67 rfl (Nat.le_of_ble_eq_true rfl) fun g0 hm hfr => ?_
 have rp0 : RV g0.m wI x0 up0 := hm ▸ rp0
 show E _ 8 none _ _ _ _ _
 refine E_seq (E_region (EL_at (.slice none 0 0) rfl rfl (EL_nil (thn_n ?_))))
 refine E_seq (E_seq (E_region (EL_mw up0 rfl rfl ?_)))
 obtain ⟨a, c, hv, hc, hrow⟩ := RV_list rp0
 refine EL_pur (v := .bool a.isNone) (P_slnil Try.underlying31 (show ev _ _ = _ from hv)) .plain rfl (EL_nil (thn_n ?_))
 cases a with
 | none =>
  have hx : x0 = [] := by
   cases x0 with
   | nil => rfl
   | cons y ys => obtain ⟨b, off, hb, _⟩ := hrow (by simp); cases hb
  subst hx
  have hr : r = [] := by unfold apnd at h; split at h <;> simp at h; exact h
  subst hr
  refine E_cond_true rfl (E_seq (E_region ?_))
  refine EL_at (.slice none 0 0) rfl rfl (EL_nil (thn_n ?_))
  obtain ⟨gh, hxh, homh⟩ := OM.handn (i := iO) (t := 76) (α := LoomRun) hfr; exact E_ret (thn_r (end1 rfl rfl (show _ = .slice none 0 0 from rfl) ⟨gh, hxh, homh⟩))
 | some a =>
  refine E_cond_false rfl (E_skip (thn_n ?_))
  refine E_seq (E_region (EL_do .plain rfl (D_buildSlice (g := g0) 1 (xs := ([] : List LoomRun)) (vs := []) Try.underlying31 Try.sizeOf76 Try.zeroValue76 rfl rfl .nil RVs.nil rfl rfl fun g1 w1 v1 hs o1 r1 hxt hfl => ?_)))
  have hfr := hfr.stp hs
  have rp0 := rp0.stp hs
  refine EL_mw up0 rfl rfl ?_
  refine EL_do .plain rfl (D_append (g := g1) (i := 1) Try.underlying31 info_76 rfl rfl o1 r1 rfl rp0 h fun g2 w2 v2 hs o2 r2 _ => ?_)
  have hfr := hfr.stp hs
  refine EL_at v2 rfl rfl (EL_nil (thn_n ?_))
  obtain ⟨gh, hxh, homh⟩ := OM.hand (i := iO) plain_LoomRun hfr o2 r2; exact E_ret (end1 rfl rfl (show _ = v2 from rfl) ⟨gh, hxh, homh⟩)
/-- griffe/loom.Holds -/
def f40 (x0 : LoomMill) (x1 : List LoomOrder) (x2 : List LoomRun) : Option (Int × Int) :=
 (f50 x0 x1).bind fun y4 =>
 jn (σ := Unit) (fun (_ : Unit) =>
  (f78 (y4.1) x2).bind fun j0 =>
  some (j0.1, j0.2)
  ) fun k8 =>
 bif (y4.2 != (0 : Int)) then
  some ((0 : Int), y4.2)
 else
  k8 ()
theorem en40 : Enters Try.prog 40 := enters_of Try.func40 (by kernel_rfl) rfl
theorem wk40 {gI : Gh} {wI : World} {x0 : LoomMill} {x1 : List LoomOrder} {x2 : List LoomRun} {up0 : Value} (rp0 : RV gI.m wI x0 up0) {up1 : Value} (rp1 : RV gI.m wI x1 up1) {up2 : Value} (rp2 : RV gI.m wI x2 up2) {r : Int × Int} (h : f40 x0 x1 x2 = some r) : Fn Try.prog 40 #[up0, up1, up2] gI wI (fun m w v => ∃ y0 y1, v = .tuple #[y0, y1] ∧ y0 = .int .i64 (r.1) ∧ y1 = .int .i64 (r.2)) := by
 unfold f40 at h
 refine fn_of_E Try.func40 rfl (Nat.le_of_ble_eq_true rfl) fun g0 hm hfr => ?_
 have rp0 : RV g0.m wI x0 up0 := hm ▸ rp0
 have rp1 : RV g0.m wI x1 up1 := hm ▸ rp1
 have rp2 : RV g0.m wI x2 up2 := hm ▸ rp2
 show E _ 23 none _ _ _ _ _
 refine E_seq (E_region (EL_do .plain rfl (D_box (g := g0) rfl rp0 fun g1 w1 p1 hs q1 => ?_)))
 have hfr := hfr.ext hs
 have rp1 := rp1.ext hs
 have rp2 := rp2.ext hs
 refine EL_at (.int .i64 (0)) rfl rfl ?_
 refine EL_at (.int .i64 (0)) rfl rfl ?_
 refine EL_nil (thn_n (E_seq (E_region (EL_do .plain rfl (D_load (g := g1) Try.isAgg24 Try.sizeOf24 rfl q1 fun v2 r2 => ?_)))))
 refine EL_mw up1 rfl rfl ?_
 obtain ⟨y4, o3, h⟩ := bsome h
 refine EL_do .plain rfl (D_call (g := g1) (vs := [v2, up1]) en50 (.cons rfl (.cons rfl .nil)) (wk50 r2 rp1 o3) fun g3 w3_ v3 hs hr => ?_)
 have hfr := hfr.ext hs
 have rp2 := rp2.ext hs
 obtain ⟨o0, i4, rfl, u0, rfl⟩ := hr
 refine EL_mw (.tuple #[o0, .int .i64 (y4.2)]) rfl rfl ?_
 refine EL_pur (v := o0) (P_extract rfl rfl) .plain rfl ?_
 refine EL_pur (v := .int .i64 (y4.2)) (P_extract rfl rfl) .plain rfl ?_
 refine EL_do .plain rfl (D_allocOc (g := g3) 2008 (⟨⟨[], 0⟩, []⟩ : LoomLoomMill) Try.zeroValue96 (fun m w => ⟨_, (rep_two (rep_two rep_nil rep_int) rep_nil), rfl⟩) fun g5 w5 p5 hs b5 cb => ?_)
 have hfr := hfr.stp hs
 have rp2 := rp2.stp hs
 have u0 := u0.stp hs
 have j4 : OSF 2008 60800 0 g5 w5 3 96 ([] : List Int) p5 := cb.osf (by rfl)
 have m4 : OSF 2008 60802 2 g5 w5 82 96 ([] : List LoomOrder) p5 := cb.osf (by rfl)
 clear cb
 refine EL_do .plain rfl (D_storeOc (g := g5) (v := o0) Try.sizeOf96 rfl b5 rfl u0 fun g6 w6 hs b6 cb => ?_)
 clear cb
 have hfr := hfr.stp hs
 have rp2 := rp2.stp hs
 refine EL_at (.int .i64 (y4.2)) rfl rfl ?_
 refine EL_nil (thn_n (E_joinC h (fun (s : Unit) e w => ∃ (g : Gh) , Fr gI wI g w ∧ e 2 = up2 ∧ RV g.m w (x2 : List LoomRun) up2 ∧ e 8 = p5 ∧ OB 2008 g w 96 (y4.1 : LoomLoomMill) p5) (fun X8 k8 p3 h => ?_) ?_))
 ·refine E_seq (E_region (EL_mw (.int .i64 (y4.2)) rfl rfl ?_))
  refine EL_in (.bool ((y4.2 != (0 : Int)))) rfl rfl rfl rfl ?_
  refine EL_nil (thn_n ?_)
  rcases csome h with ⟨j1, h⟩ | ⟨j1, h⟩
  ·refine E_ct j1 rfl ?_
   refine E_seq (E_region (EL_mw (.int .i64 (y4.2)) rfl rfl ?_))
   refine EL_at (.int .i64 (0)) rfl rfl ?_
   refine EL_at (.int .i64 (y4.2)) rfl rfl ?_
   refine EL_nil (thn_n (E_ret (thn_r ?_)))
   obtain rfl := sinj h
   exact end2 rfl rfl (show _ = .int .i64 (0) from rfl) (show _ = .int .i64 (y4.2) from rfl) ⟨_, hfr, _, _, rfl, rfl, rfl⟩
  ·refine E_cf j1 rfl ?_
   exact E_skip (thn_n (p3 () _ _ ⟨g6, hfr, rfl, rp2, rfl, b6⟩ h))
 ·rintro _ n4 p4 ⟨i3, hfr, z1, j2, z2, d3⟩ h
  refine E_seq (E_region (EL_do .plain rfl (D_loadO (g := i3) Try.isAgg96 Try.sizeOf96 z2 d3 fun u3 z3 => ?_)))
  refine EL_mv z1 rfl ?_
  obtain ⟨j0, j3, h⟩ := bsome h
  refine EL_do .plain rfl (D_call (g := i3) (vs := [u3, up2]) en78 (.cons rfl (.cons rfl .nil)) (wk78 z3 j2 j3) fun u4 o4 x4 hs hr => ?_)
  have hfr := hfr.ext hs
  obtain ⟨c4, d4, rfl, rfl, rfl⟩ := hr
  refine EL_pur (v := .int .i64 (j0.1)) (P_extract rfl rfl) .plain rfl ?_
  refine EL_pur (v := .int .i64 (j0.2)) (P_extract rfl rfl) .plain rfl ?_
  refine EL_at (.int .i64 (j0.1)) rfl rfl ?_
  refine EL_at (.int .i64 (j0.2)) rfl rfl ?_
  refine EL_nil (thn_n (E_ret ?_))
  obtain rfl := sinj h
  exact end2 rfl rfl (show _ = .int .i64 (j0.1) from rfl) (show _ = .int .i64 (j0.2) from rfl) ⟨_, hfr, _, _, rfl, rfl, rfl⟩
theorem v48_0 {iO : Nat} {gI : Gh} {wI : World} {x0 : Int} {x1 : Int}  {r : (List LoomOrder)} (h : f48 x0 x1 = some r) : FnG Try.prog 48 #[.int .i64 (x0), .int .i64 (x1)] gI wI (fun g w v => OM iO g w 82 (r) v) := by
 unfold f48 at h
 refine fnG_of_E Try.func48 rfl (Nat.le_of_ble_eq_true rfl) fun g0 hm hfr => ?_
 show E _ 11 none _ _ _ _ _
 refine E_seq (E_region (EL_at (.slice none 0 0) rfl rfl ?_))
 refine EL_nil (thn_n (E_seq (E_region ?_)))
 have r1 : RV g0.m wI (⟨(5 : Int), (1 : Int), (10 : Int), 0, (20 : Int)⟩ : LoomOrder) (.agg (setCh [[.int .i64 0], [.int .i64 0], [.int .i64 0], [.int .i64 0], [.int .i64 0]] [(0, .int .i64 (5)), (1, .int .i64 (1)), (2, .int .i64 (10)), (4, .int .i64 (20))]).flatten.toArray) := RV_build rfl (rep_pair (rfl) (rep_pair (rfl) (rep_pair (rfl) (rep_pair (rep_int) (rep_last (rfl))))))
 generalize hv1 : (Value.agg (setCh [[.int .i64 0], [.int .i64 0], [.int .i64 0], [.int .i64 0], [.int .i64 0]] [(0, .int .i64 (5)), (1, .int .i64 (1)), (2, .int .i64 (10)), (4, .int .i64 (20))]).flatten.toArray) = v1 at r1
 refine EL_pur (v := v1) (hv1 ▸ P_build (vs := [(0, .int .i64 (5)), (1, .int .i64 (1)), (2, .int .i64 (10)), (4, .int .i64 (20))]) [[.int .i64 0], [.int .i64 0], [.int .i64 0], [.int .i64 0], [.int .i64 0]] lay_82 rfl rfl (.cons rfl (.cons rfl (.cons rfl (.cons rfl .nil)))) ⟨⟨_, rfl, rfl⟩, ⟨⟨_, rfl, rfl⟩, ⟨⟨_, rfl, rfl⟩, ⟨⟨_, rfl, rfl⟩, trivial⟩⟩⟩⟩) .plain rfl ?_
 have r2 : RV g0.m wI (⟨(15 : Int), (2 : Int), (12 : Int), 0, (20 : Int)⟩ : LoomOrder) (.agg (setCh [[.int .i64 0], [.int .i64 0], [.int .i64 0], [.int .i64 0], [.int .i64 0]] [(0, .int .i64 (15)), (1, .int .i64 (2)), (2, .int .i64 (12)), (4, .int .i64 (20))]).flatten.toArray) := RV_build rfl (rep_pair (rfl) (rep_pair (rfl) (rep_pair (rfl) (rep_pair (rep_int) (rep_last (rfl))))))
 generalize hv2 : (Value.agg (setCh [[.int .i64 0], [.int .i64 0], [.int .i64 0], [.int .i64 0], [.int .i64 0]] [(0, .int .i64 (15)), (1, .int .i64 (2)), (2, .int .i64 (12)), (4, .int .i64 (20))]).flatten.toArray) = v2 at r2
 refine EL_pur (v := v2) (hv2 ▸ P_build (vs := [(0, .int .i64 (15)), (1, .int .i64 (2)), (2, .int .i64 (12)), (4, .int .i64 (20))]) [[.int .i64 0], [.int .i64 0], [.int .i64 0], [.int .i64 0], [.int .i64 0]] lay_82 rfl rfl (.cons rfl (.cons rfl (.cons rfl (.cons rfl .nil)))) ⟨⟨_, rfl, rfl⟩, ⟨⟨_, rfl, rfl⟩, ⟨⟨_, rfl, rfl⟩, ⟨⟨_, rfl, rfl⟩, trivial⟩⟩⟩⟩) .plain rfl ?_
 refine EL_mw (.int .i64 (x0)) rfl rfl ?_
 refine EL_mw (.int .i64 (x1)) rfl rfl ?_
 have r3 : RV g0.m wI (⟨(5 : Int), x0, x1, 0, (20 : Int)⟩ : LoomOrder) (.agg (setCh [[.int .i64 0], [.int .i64 0], [.int .i64 0], [.int .i64 0], [.int .i64 0]] [(0, .int .i64 (5)), (1, .int .i64 (x0)), (2, .int .i64 (x1)), (4, .int .i64 (20))]).flatten.toArray) := RV_build rfl (rep_pair (rfl) (rep_pair (rfl) (rep_pair (rfl) (rep_pair (rep_int) (rep_last (rfl))))))
 generalize hv3 : (Value.agg (setCh [[.int .i64 0], [.int .i64 0], [.int .i64 0], [.int .i64 0], [.int .i64 0]] [(0, .int .i64 (5)), (1, .int .i64 (x0)), (2, .int .i64 (x1)), (4, .int .i64 (20))]).flatten.toArray) = v3 at r3
 refine EL_pur (v := v3) (hv3 ▸ P_build (vs := [(0, .int .i64 (5)), (1, .int .i64 (x0)), (2, .int .i64 (x1)), (4, .int .i64 (20))]) [[.int .i64 0], [.int .i64 0], [.int .i64 0], [.int .i64 0], [.int .i64 0]] lay_82 rfl rfl (.cons rfl (.cons rfl (.cons rfl (.cons rfl .nil)))) ⟨⟨_, rfl, rfl⟩, ⟨⟨_, rfl, rfl⟩, ⟨⟨_, rfl, rfl⟩, ⟨⟨_, rfl, rfl⟩, trivial⟩⟩⟩⟩) .plain rfl ?_
 refine EL_do .plain rfl (D_buildSlice (g := g0) 3010 (xs := ([(⟨(5 : Int), (1 : Int), (10 : Int), 0, (20 : Int)⟩ : LoomOrder), (⟨(15 : Int), (2 : Int), (12 : Int), 0, (20 : Int)⟩ : LoomOrder), (⟨(5 : Int), x0, x1, 0, (20 : Int)⟩ : LoomOrder)] : List LoomOrder)) (vs := [v1, v2, v3]) Try.underlying25 Try.sizeOf82 Try.zeroValue82 rfl rfl (.cons rfl (.cons rfl (.cons rfl .nil))) (RVs.cons r1 (RVs.cons r2 (RVs.cons r3 RVs.nil))) rfl rfl fun g4 w4 v4 hs o4 r4 hxt hfl => ?_)
 have hfr := hfr.stp hs
 refine EL_at v4 rfl rfl ?_
 refine EL_nil (thn_n (E_ret ?_))
 obtain rfl := sinj h
 obtain ⟨gh, hxh, homh⟩ := OM.hand (i := iO) plain_LoomOrder hfr o4 r4
 exact end1 rfl rfl (show _ = v4 from rfl) ⟨gh, hxh, homh⟩
/-- griffe/loom.Push -/
def f34 (x0 : LoomMill) (x1 : List LoomOrder) (x2 : List LoomRun) (x3 : LoomStop) : Option ((List LoomRun) × (List Int) × Int) :=
 (f65 x0 x1 x2 x3).bind fun y7 =>
 jn (σ := (List Int)) (fun c4 =>
  (f67 x2).bind fun oE =>
  Option.bind (α := (List LoomRun)) (
   (f68 x2 ((x3).Loom)).bind fun m4 =>
   lp (σ := (List LoomRun) × Int × Int) (fun vA (x4, i5, j2) =>
    bif (decide (j2 < ((m4).length : Int))) then
     Option.bind (α := (List LoomRun) × Int) (
      (idx m4 j2).bind fun j0 =>
      (idx x4 j0).bind fun x5 =>
      Option.bind (α := (List LoomRun)) (
       (epok x4 i5).bind fun c9 =>
       bif c9 then
        (idx x4 i5).bind fun xA =>
        (f69 ((y7.1).mill) xA ((x5).Order)).bind fun e7 =>
        some ((List.set x4 (Int.toNat j0) ({ x5 with From := (max64 (x5).From e7) })))
       else
        some (x4)
       ) fun j5 =>
      Option.bind (α := (List LoomRun)) (
       (idx j5 j0).bind fun yA =>
       (f66 (y7.1) yA).bind fun x7 =>
       bif x7 then
        (idx j5 j0).bind fun zA =>
        some ((List.set j5 (Int.toNat j0) ({ zA with From := (w64 (((x3).Days).High + (1 : Int))) })))
       else
        some (j5)
       ) fun g7 =>
      some (g7, j0)
      ) fun (n6, i6) =>
     vA (n6, i6, (w64 (j2 + (1 : Int))))
    else
     some (x4)
    ) big (oE, (-1), (0 : Int))
   ) fun y5 =>
  jn (σ := (List LoomRun) × (List Int)) (fun (i3, n8) =>
   Option.bind (α := (List Int)) (
    lp (σ := (List Int) × Int) (fun aB (o6, p3) =>
     bif (decide (p3 < ((i3).length : Int))) then
      Option.bind (α := (List Int)) (
       (idx i3 p3).bind fun q5 =>
       (f73 ((y7.1).mill) q5).bind fun i7 =>
       (idx x1 (q5).Order).bind fun z7 =>
       bif (decide (i7 > (z7).Late)) then
        (apnd 8 o6 (([(q5).Order] : List Int))).bind fun bB =>
        some (bB)
       else
        some (o6)
       ) fun z5 =>
      aB (z5, (w64 (p3 + (1 : Int))))
     else
      some (o6)
     ) big (n8, (0 : Int))
    ) fun p6 =>
   some (i3, p6, (0 : Int))
   ) fun cB =>
  (f72 y5 ((fun a0 => f70 a0))).bind fun dB =>
  bif dB then
   some (([] : List LoomRun), [], (8 : Int))
  else
   cB (y5, c4)
  ) fun pE =>
 bif (y7.2 != (0 : Int)) then
  some (([] : List LoomRun), [], y7.2)
 else
  pE ([])
theorem en34 : Enters Try.prog 34 := enters_of Try.func34 (by kernel_rfl) rfl
theorem wk34 {gI : Gh} {wI : World} {x0 : LoomMill} {x1 : List LoomOrder} {x2 : List LoomRun} {x3 : LoomStop} {up0 : Value} (rp0 : RV gI.m wI x0 up0) {up1 : Value} (rp1 : RV gI.m wI x1 up1) {up2 : Value} (rp2 : RV gI.m wI x2 up2) {up3 : Value} (rp3 : RV gI.m wI x3 up3) {r : (List LoomRun) × (List Int) × Int} (h : f34 x0 x1 x2 x3 = some r) : Fn Try.prog 34 #[up0, up1, up2, up3] gI wI (fun m w v => ∃ y0 y1 y2, v = .tuple #[y0, y1, y2] ∧ RV m w (r.1) y0 ∧ RV m w (r.2.1) y1 ∧ y2 = .int .i64 (r.2.2)) := by
 unfold f34 at h
 refine fn_of_E Try.func34 rfl (Nat.le_of_ble_eq_true rfl) fun g0 hm hfr => ?_
 have rp0 : RV g0.m wI x0 up0 := hm ▸ rp0
 have rp1 : RV g0.m wI x1 up1 := hm ▸ rp1
 have rp2 : RV g0.m wI x2 up2 := hm ▸ rp2
 have rp3 : RV g0.m wI x3 up3 := hm ▸ rp3
 show E _ 106 none _ _ _ _ _
 refine E_seq (E_region (EL_do .plain rfl (D_box (g := g0) rfl rp0 fun g1 w1 p1 hs q1 => ?_)))
 have hfr := hfr.ext hs
 have rp1 := rp1.ext hs
 have rp2 := rp2.ext hs
 have rp3 := rp3.ext hs
 refine EL_do .plain rfl (D_box (g := g1) rfl rp3 fun g2 w2 p2 hs q2 => ?_)
 have hfr := hfr.ext hs
 have rp1 := rp1.ext hs
 have rp2 := rp2.ext hs
 have q1 := q1.ext hs
 refine EL_at (.slice none 0 0) rfl rfl ?_
 have b3 : OA 4008 g2 w2 76 ([] : List LoomRun) (.slice none 0 0) := OA.nil
 refine EL_at (.slice none 0 0) rfl rfl ?_
 refine EL_at (.int .i64 (0)) rfl rfl ?_
 refine EL_nil (thn_n (E_seq (E_region (EL_do .plain rfl (D_load (g := g2) Try.isAgg24 Try.sizeOf24 rfl q1 fun v4 r4 => ?_)))))
 refine EL_mw up1 rfl rfl ?_
 refine EL_mw up2 rfl rfl ?_
 refine EL_do .plain rfl (D_load (g := g2) Try.isAgg54 Try.sizeOf54 rfl q2 fun v5 r5 => ?_)
 obtain ⟨y7, hG, h⟩ := bsome h
 refine EL_do .plain rfl (D_call (g := g2) (vs := [v4, up1, up2, v5]) en65 (.cons rfl (.cons rfl (.cons rfl (.cons rfl .nil)))) (wk65 r4 rp1 rp2 r5 hG) fun g6 w6_ v6 hs hr => ?_)
 have hfr := hfr.ext hs
 have rp1 := rp1.ext hs
 have rp2 := rp2.ext hs
 have q2 := q2.ext hs
 obtain ⟨d9, uG, rfl, e9, rfl⟩ := hr
 refine EL_mw (.tuple #[d9, .int .i64 (y7.2)]) rfl rfl ?_
 refine EL_pur (v := d9) (P_extract rfl rfl) .plain rfl ?_
 refine EL_pur (v := .int .i64 (y7.2)) (P_extract rfl rfl) .plain rfl ?_
 refine EL_do .plain rfl (D_allocOc (g := g6) 2011 (⟨⟨⟨[], 0⟩, []⟩, ⟨0, ⟨0, 0⟩⟩⟩ : LoomStill) Try.zeroValue113 (fun m w => ⟨_, (rep_two (rep_two (rep_two rep_nil rep_int) rep_nil) (rep_two rep_int (rep_two rep_int rep_int))), rfl⟩) fun g8 w8 p8 hs b8 cb => ?_)
 have hfr := hfr.stp hs
 have rp1 := rp1.stp hs
 have rp2 := rp2.stp hs
 have q2 := q2.stp hs
 have e9 := e9.stp hs
 have vG : OSF 2011 61100 0 g8 w8 3 113 ([] : List Int) p8 := cb.osf (by rfl)
 have xG : OSF 2011 61102 2 g8 w8 82 113 ([] : List LoomOrder) p8 := cb.osf (by rfl)
 clear cb
 refine EL_do .plain rfl (D_storeOc (g := g8) (v := d9) Try.sizeOf113 rfl b8 rfl e9 fun g9 w9 hs b9 cb => ?_)
 clear cb
 have hfr := hfr.stp hs
 have rp1 := rp1.stp hs
 have rp2 := rp2.stp hs
 have q2 := q2.stp hs
 refine EL_at (.int .i64 (y7.2)) rfl rfl ?_
 refine EL_nil (thn_n (E_joinC h (fun (s : (List Int)) e w => ∃ (g : Gh) (v9 : Value), Fr gI wI g w ∧ e 1 = up1 ∧ RV g.m w (x1 : List LoomOrder) up1 ∧ e 2 = up2 ∧ RV g.m w (x2 : List LoomRun) up2 ∧ e 7 = p2 ∧ PT g.m w (x3 : LoomStop) p2 ∧ e 9 = v9 ∧ RV g.m w (s : List Int) v9 ∧ OS 1009 g w 3 (s : List Int) v9 ∧ e 11 = p8 ∧ OB 2011 g w 113 (y7.1 : LoomStill) p8) (fun X13 pE rE h => ?_) ?_))
 ·refine E_seq (E_region (EL_mw (.int .i64 (y7.2)) rfl rfl ?_))
  refine EL_in (.bool ((y7.2 != (0 : Int)))) rfl rfl rfl rfl ?_
  refine EL_nil (thn_n ?_)
  rcases csome h with ⟨i9, h⟩ | ⟨i9, h⟩
  ·refine E_ct i9 rfl ?_
   refine E_seq (E_region (EL_mw (.int .i64 (y7.2)) rfl rfl ?_))
   refine EL_at (.slice none 0 0) rfl rfl ?_
   have b15 : OA 4008 g9 w9 76 ([] : List LoomRun) (.slice none 0 0) := OA.nil
   refine EL_at (.slice none 0 0) rfl rfl ?_
   refine EL_at (.int .i64 (y7.2)) rfl rfl ?_
   refine EL_nil (thn_n (E_ret (thn_r ?_)))
   obtain ⟨gp16, hs, rp16⟩ := OM.pub (b15.toM)
   have hfr := hfr.stp hs
   obtain rfl := sinj h
   exact end3 rfl rfl (show _ = .slice none 0 0 from rfl) (show _ = .slice none 0 0 from rfl) (show _ = .int .i64 (y7.2) from rfl) ⟨_, hfr, _, _, _, rfl, rp16, RV_nil, rfl⟩
  ·refine E_cf i9 rfl ?_
   exact E_skip (thn_n (rE ([]) _ _ ⟨g9, (.slice none 0 0), hfr, rfl, rp1, rfl, rp2, rfl, q2, rfl, RV_nil, OS.nil, rfl, b9⟩ h))
 ·rintro c4 yG pI ⟨iG, d3, hfr, oD, q6, n9, d7, o9, t5, pD, r6, t6, eB, a6⟩ h
  refine E_seq (E_region (EL_mv n9 rfl ?_))
  obtain ⟨oE, sE, h⟩ := bsome h
  refine EL_do .plain rfl (D_callG (g := iG) (vs := [up2]) en67 (.cons rfl .nil) (v67_0 (iO := 9031) d7 sE) fun qE zG o0 hs hr => ?_)
  have hfr := hfr.ext hs
  have q6 := q6.ext hs
  have d7 := d7.ext hs
  have t5 := t5.ext hs
  have r6 := r6.ext hs
  have t6 := t6.ext hs
  have a6 := a6.ext hs
  have hm18 := hr
  refine EL_at o0 rfl rfl ?_
  refine EL_nil (thn_n (E_seq (E_region (EL_pur (v := epV o0 (-1) 3) (P_assign (rfl.trans epV_nil)) .plain rfl ?_))))
  refine EL_nil (thn_n ?_)
  obtain ⟨y5, hx, h⟩ := bsome h
  refine E_join (fun e w => ∃ (g : Gh) , Fr gI wI g w ∧ e 1 = up1 ∧ RV g.m w (x1 : List LoomOrder) up1 ∧ e 8 = o0 ∧ OM 9031 g w 76 (y5 : List LoomRun) o0 ∧ e 9 = d3 ∧ RV g.m w (c4 : List Int) d3 ∧ OS 1009 g w 3 (c4 : List Int) d3 ∧ e 11 = p8 ∧ OB 2011 g w 113 (y7.1 : LoomStill) p8) (fun Q' hQ => ?_) (fun kG aH hR => ?_)
  ·replace h := hx
   clear hx
   refine E_seq (E_region (EL_mv n9 rfl ?_))
   refine EL_pur (v := fPtr p2 0) (P_fieldAddr at_54_0 o9 (PT.ptr t5)) .plain rfl ?_
   have tE := PT_field (part_LoomStop_0).1 t5
   refine EL_do .plain rfl (D_load (g := qE) Try.isAgg3 Try.sizeOf3 rfl tE fun bH uE => ?_)
   obtain rfl := RV_int.1 uE
   obtain ⟨m4, qD, h⟩ := bsome h
   refine EL_do .plain rfl (D_call (g := qE) (vs := [up2, .int .i64 ((x3).Loom)]) en68 (.cons rfl (.cons rfl .nil)) (wk68 d7 qD) fun vE lG u5 hs hr => ?_)
   have hfr := hfr.ext hs
   have q6 := q6.ext hs
   have t5 := t5.ext hs
   have r6 := r6.ext hs
   have t6 := t6.ext hs
   have a6 := a6.ext hs
   have hm18 := hm18.ext hs
   have iB := hr
   refine EL_pur (v := .int .i64 ((m4).length : Int)) (P_len Try.underlying22 rfl iB) .plain rfl ?_
   refine EL_mw (.int .i64 (0)) rfl rfl ?_
   refine EL_nil (thn_n (E_block ?_))
   refine E_lp h (fun (s : (List LoomRun) × Int × Int) e w => ∃ (g : Gh) , Fr gI wI g w ∧ e 1 = up1 ∧ RV g.m w (x1 : List LoomOrder) up1 ∧ e 7 = p2 ∧ PT g.m w (x3 : LoomStop) p2 ∧ e 8 = o0 ∧ OM 9031 g w 76 (s.1 : List LoomRun) o0 ∧ e 9 = d3 ∧ RV g.m w (c4 : List Int) d3 ∧ OS 1009 g w 3 (c4 : List Int) d3 ∧ e 11 = p8 ∧ OB 2011 g w 113 (y7.1 : LoomStill) p8 ∧ e 12 = epV o0 (s.2.1) 3 ∧ e 35 = u5 ∧ RV g.m w (m4 : List Int) u5 ∧ e 36 = .int .i64 (((m4).length : Int)) ∧ e 37 = .int .i64 (s.2.2)) ⟨vE, hfr, oD, q6, o9, t5, rfl, hm18, pD, r6, t6, eB, a6, rfl, rfl, iB, rfl, rfl⟩ (fun X400 vA rD => ?_)
   rintro ⟨x4, i5, j2⟩ mG cH ⟨a8, hfr, j7, z4, o8, l5, u6, u0, l7, c5, d5, j6, d4, r7, x6, i4, y6, k6⟩ h
   refine E_seq (E_region (EL_in (.bool ((decide (j2 < ((m4).length : Int))))) k6 y6 rfl rfl ?_))
   refine EL_nil (thn_n (E_seq ?_))
   rcases csome h with ⟨c8, h⟩ | ⟨c8, h⟩
   ·refine E_ct c8 rfl ?_
    refine E_skip (thn_n ?_)
    obtain ⟨⟨n6, i6⟩, hx, h⟩ := bsome h
    refine E_join (fun e w => ∃ (g : Gh) , Fr gI wI g w ∧ e 1 = up1 ∧ RV g.m w (x1 : List LoomOrder) up1 ∧ e 7 = p2 ∧ PT g.m w (x3 : LoomStop) p2 ∧ e 8 = o0 ∧ OM 9031 g w 76 (n6 : List LoomRun) o0 ∧ e 9 = d3 ∧ RV g.m w (c4 : List Int) d3 ∧ OS 1009 g w 3 (c4 : List Int) d3 ∧ e 11 = p8 ∧ OB 2011 g w 113 (y7.1 : LoomStill) p8 ∧ e 12 = epV o0 i6 3 ∧ e 35 = u5 ∧ RV g.m w (m4 : List Int) u5 ∧ e 36 = .int .i64 (((m4).length : Int)) ∧ e 37 = .int .i64 (j2)) (fun Q' hQ => ?_) (fun nG dH hR => ?_)
    ·replace h := hx
     clear hx
     refine E_block ?_
     refine E_seq (E_region ?_)
     obtain ⟨j0, p9, h⟩ := bsome h
     refine EL_pur (v := ePtr u5 j2 1) (P_indexAddr (α := Int) Try.underlying22 Try.sizeOf3 x6 i4 k6 p9) .plain rfl ?_
     have xE := PT_idx i4 p9
     refine EL_do .plain rfl (D_load (g := a8) Try.isAgg3 Try.sizeOf3 rfl xE fun gH yE => ?_)
     obtain rfl := RV_int.1 yE
     refine EL_at (.int .i64 (j0)) rfl rfl ?_
     refine EL_nil (thn_n (E_seq (E_region (EL_mv u6 rfl ?_))))
     refine EL_mw (.int .i64 (j0)) rfl rfl ?_
     obtain ⟨x5, j4, h⟩ := bsome h
     refine EL_pur (v := ePtr o0 j0 3) (P_indexAddrM (α := LoomRun) Try.underlying31 Try.sizeOf76 rfl u0 rfl j4) .plain rfl ?_
     refine EL_at (ePtr o0 j0 3) rfl rfl ?_
     refine EL_nil (thn_n ?_)
     obtain ⟨j5, hx, h⟩ := bsome h
     refine E_join (fun e w => ∃ (g : Gh) , Fr gI wI g w ∧ e 1 = up1 ∧ RV g.m w (x1 : List LoomOrder) up1 ∧ e 7 = p2 ∧ PT g.m w (x3 : LoomStop) p2 ∧ e 8 = o0 ∧ OM 9031 g w 76 (j5 : List LoomRun) o0 ∧ e 9 = d3 ∧ RV g.m w (c4 : List Int) d3 ∧ OS 1009 g w 3 (c4 : List Int) d3 ∧ e 11 = p8 ∧ OB 2011 g w 113 (y7.1 : LoomStill) p8 ∧ e 15 = ePtr o0 j0 3 ∧ e 35 = u5 ∧ RV g.m w (m4 : List Int) u5 ∧ e 36 = .int .i64 (((m4).length : Int)) ∧ e 37 = .int .i64 (j2)) (fun Q' hQ => ?_) (fun oG iH hR => ?_)
     ·replace h := hx
      clear hx
      refine E_seq (E_region (EL_mv r7 rfl ?_))
      obtain ⟨c9, sD, h⟩ := bsome h
      refine EL_pur (v := .bool (c9)) (P_epne Try.underlying116 u0 rfl rfl sD) .plain rfl ?_
      refine EL_nil (thn_n ?_)
      rcases csome h with ⟨d8, h⟩ | ⟨d8, h⟩
      ·refine E_ct d8 rfl ?_
       obtain ⟨pb652, po652, pe652⟩ := OM.ptrE (k := 3) u0 j4
       obtain ⟨pb654, po654, pe654⟩ := OM.ptrE (k := 3) u0 j4
       refine L_loadMF (x := .tmp 49) part_LoomRun_2.1 Try.isAgg3 Try.sizeOf3 u0 j4 fun jH zE tD => ?_
       obtain rfl := RV_int.1 zE
       refine L_loadO (x := .tmp 51) part_LoomStill_0.1 Try.isAgg96 Try.sizeOf96 d4 fun jB aF uD => ?_
       obtain ⟨xA, e8, h⟩ := bsome h
       obtain ⟨pb659, po659, pe659⟩ := OM.ptrE (k := 3) u0 e8
       refine L_loadM (x := .tmp 54) Try.isAgg76 Try.sizeOf76 u0 e8 fun kB bF vD => ?_
       obtain ⟨pb661, po661, pe661⟩ := OM.ptrE (k := 3) u0 j4
       obtain ⟨pb663, po663, pe663⟩ := OM.ptrE (k := 3) u0 j4
       refine L_loadMF (x := .tmp 58) part_LoomRun_0.1 Try.isAgg3 Try.sizeOf3 u0 j4 fun kH cF xD => ?_
       obtain rfl := RV_int.1 cF
       obtain ⟨e7, yD, h⟩ := bsome h
       obtain ⟨pb667, po667, pe667⟩ := OM.ptrE (k := 3) u0 j4
       obtain ⟨pb669, po669, pe669⟩ := OM.ptrE (k := 3) u0 j4
       refine E_drawL (g := a8) (n := 18) [(14, (fun v g w => v = .int .i64 (e7)))] [0, 1, 2, 3, 4, 5, 6, 7, 8, 9, 10, 11, 12, 13, 14, 15, 16, 17] rfl mixed (by kernel_rfl) (⟨fun _ => up_eq _, trivial⟩) ?_
       refine L_pur (c := ePtr o0 j0 3) rfl rfl .plain (fun _ _ hd => P_move rfl) ?_
       refine L_pur (c := ePtr o0 j0 3) rfl rfl .plain (fun _ _ hd => P_move rfl) ?_
       refine L_pur (c := ePtr o0 j0 3) rfl rfl .plain (fun _ _ hd => P_nilCk rfl pe652) ?_
       refine L_pur (c := fPtr (ePtr o0 j0 3) 2) rfl rfl .plain (fun _ _ hd => P_fieldAddr at_76_2 rfl ⟨_, _, pe654⟩) ?_
       refine L_ld (c := .int .i64 ((x5).From)) rfl rfl .plain (fun _ _ h => ⟨h.ch, fun b hb _ => h.below.block b hb⟩) tD rfl ?_
       refine L_pur (c := fPtr p8 0) rfl rfl .plain (fun _ _ hd => P_fieldAddr at_113_0 j6 (OB.ptr d4)) ?_
       refine L_ld (c := jB) rfl rfl .plain (fun _ _ h => ⟨h.ch, fun b hb _ => h.below.block b hb⟩) uD rfl ?_
       refine L_pur (c := epV o0 i5 3) rfl rfl .plain (fun _ _ hd => P_move r7) ?_
       refine L_pur (c := ePtr o0 i5 3) rfl rfl .plain (fun _ _ hd => P_nilCk (rfl.trans (epV_pos e8)) pe659) ?_
       refine L_ld (c := kB) rfl rfl .plain (fun _ _ h => ⟨h.ch, fun b hb _ => h.below.block b hb⟩) vD rfl ?_
       refine L_pur (c := ePtr o0 j0 3) rfl rfl .plain (fun _ _ hd => P_move rfl) ?_
       refine L_pur (c := ePtr o0 j0 3) rfl rfl .plain (fun _ _ hd => P_nilCk rfl pe661) ?_
       refine L_pur (c := fPtr (ePtr o0 j0 3) 0) rfl rfl .plain (fun _ _ hd => P_fieldAddr at_76_0 rfl ⟨_, _, pe663⟩) ?_
       refine L_ld (c := .int .i64 ((x5).Order)) rfl rfl .plain (fun _ _ h => ⟨h.ch, fun b hb _ => h.below.block b hb⟩) xD rfl ?_
       refine L_do (φ := fun v g w => v = .int .i64 (e7)) rfl rfl .plain (fun g w hd => D_call (g := g) (vs := [jB, kB, .int .i64 ((x5).Order)]) en69 (.cons rfl (.cons rfl (.cons rfl .nil))) (wk69 (aF.ext hd.1) (bF.ext hd.1) yD) fun g' w' v hs hr => ⟨g', hs, hr⟩) (fun lH hv => ?_)
       obtain ⟨_, _, _, rfl⟩ := hv
       refine L_pur (c := .int .i64 (max64 (x5).From e7)) rfl rfl .plain (fun _ _ hd => P_max rfl rfl) ?_
       refine L_pur (c := ePtr o0 j0 3) rfl rfl .plain (fun _ _ hd => P_nilCk rfl pe667) ?_
       refine L_pur (c := fPtr (ePtr o0 j0 3) 2) rfl rfl .plain (fun _ _ hd => P_fieldAddr at_76_2 rfl ⟨_, _, pe669⟩) ?_
       refine L_nil fun dF mH hall => ?_
       have hs := hall.1
       have hfr := hfr.ext hs
       have z4 := z4.ext hs
       have l5 := l5.ext hs
       have u0 := u0.ext hs
       have c5 := c5.ext hs
       have d5 := d5.ext hs
       have d4 := d4.ext hs
       have i4 := i4.ext hs
       clear hs hall
       refine EL_do .plain rfl (D_storeMF (g := dF) part_LoomRun_2 Try.sizeOf3 rfl u0 j4 rfl (RV_int.2 rfl) fun eF nH hs b708 => ?_)
       have hfr := hfr.stp hs
       have z4 := z4.stp hs
       have l5 := l5.stp hs
       have c5 := c5.stp hs
       have d5 := d5.stp hs rfl
       have d4 := d4.stp hs rfl
       have i4 := i4.stp hs
       refine EL_nil ?_
       obtain rfl := sinj h
       exact hQ _ _ ⟨eF, hfr, j7, z4, o8, l5, u6, b708, l7, c5, d5, j6, d4, rfl, x6, i4, y6, k6⟩
      ·refine E_cf d8 rfl ?_
       refine E_skip ?_
       obtain rfl := sinj h
       exact hQ _ _ ⟨a8, hfr, j7, z4, o8, l5, u6, u0, l7, c5, d5, j6, d4, rfl, x6, i4, y6, k6⟩
     ·clear hx
      obtain ⟨gF, hfr, q8, m5, m7, o4, r8, p4, t8, n5, o5, z6, n4, l6, t7, u4, u7, v7⟩ := hR
      obtain ⟨g7, hx, h⟩ := bsome h
      refine E_join (fun e w => ∃ (g : Gh) , Fr gI wI g w ∧ e 1 = up1 ∧ RV g.m w (x1 : List LoomOrder) up1 ∧ e 7 = p2 ∧ PT g.m w (x3 : LoomStop) p2 ∧ e 8 = o0 ∧ OM 9031 g w 76 (g7 : List LoomRun) o0 ∧ e 9 = d3 ∧ RV g.m w (c4 : List Int) d3 ∧ OS 1009 g w 3 (c4 : List Int) d3 ∧ e 11 = p8 ∧ OB 2011 g w 113 (y7.1 : LoomStill) p8 ∧ e 15 = ePtr o0 j0 3 ∧ e 35 = u5 ∧ RV g.m w (m4 : List Int) u5 ∧ e 36 = .int .i64 (((m4).length : Int)) ∧ e 37 = .int .i64 (j2)) (fun Q' hQ => ?_) (fun pG oH hR => ?_)
      ·replace h := hx
       clear hx
       refine E_seq (L_loadO0 (x := .tmp 11) Try.isAgg113 Try.sizeOf113 n4 fun lB iF zD => ?_)
       obtain ⟨yA, q9, h⟩ := bsome h
       obtain ⟨pb742, po742, pe742⟩ := OM.ptrE (k := 3) p4 q9
       refine L_loadM (x := .tmp 66) Try.isAgg76 Try.sizeOf76 p4 q9 fun mB jF aE => ?_
       obtain ⟨x7, bE, h⟩ := bsome h
       refine E_drawL (g := gF) (n := 5) [(4, (fun v g w => v = .bool (x7)))] [0, 1, 2, 3, 4] rfl mixed (by kernel_rfl) (⟨fun _ => up_eq _, trivial⟩) ?_
       refine L_ld (c := lB) rfl rfl .plain (fun _ _ h => ⟨h.ch, fun b hb _ => h.below.block b hb⟩) zD z6 ?_
       refine L_pur (c := ePtr o0 j0 3) rfl rfl .plain (fun _ _ hd => P_move l6) ?_
       refine L_pur (c := ePtr o0 j0 3) rfl rfl .plain (fun _ _ hd => P_nilCk rfl pe742) ?_
       refine L_ld (c := mB) rfl rfl .plain (fun _ _ h => ⟨h.ch, fun b hb _ => h.below.block b hb⟩) aE rfl ?_
       refine L_do (φ := fun v g w => v = .bool (x7)) rfl rfl .plain (fun g w hd => D_call (g := g) (vs := [lB, mB]) en66 (.cons rfl (.cons rfl .nil)) (wk66 (iF.ext hd.1) (jF.ext hd.1) bE) fun g' w' v hs hr => ⟨g', hs, hr⟩) (fun pH hv => ?_)
       obtain ⟨_, _, _, rfl⟩ := hv
       refine L_nil fun j9 qH hall => ?_
       have hs := hall.1
       have hfr := hfr.ext hs
       have m5 := m5.ext hs
       have o4 := o4.ext hs
       have p4 := p4.ext hs
       have n5 := n5.ext hs
       have o5 := o5.ext hs
       have n4 := n4.ext hs
       have u4 := u4.ext hs
       clear hs hall
       refine EL_nil (thn_n ?_)
       rcases csome h with ⟨i8, h⟩ | ⟨i8, h⟩
       ·refine E_ct i8 rfl ?_
        refine E_region (EL_mv l6 rfl ?_)
        refine EL_pur (v := fPtr p2 1) (P_fieldAddr at_54_1 m7 (PT.ptr o4)) .plain rfl ?_
        have nB := PT_field (part_LoomStop_1).1 o4
        refine EL_pur (v := fPtr (fPtr p2 1) 1) (P_fieldAddr at_48_1 rfl (PT.ptr nB)) .plain rfl ?_
        have kF := PT_field (part_Span_1).1 nB
        refine EL_do .plain rfl (D_load (g := j9) Try.isAgg3 Try.sizeOf3 rfl kF fun sH lF => ?_)
        obtain rfl := RV_int.1 lF
        refine EL_in (.int .i64 ((w64 (((x3).Days).High + (1 : Int))))) rfl rfl rfl rfl ?_
        obtain ⟨zA, j8, h⟩ := bsome h
        obtain ⟨pb766, po766, pe766⟩ := OM.ptrE (k := 3) p4 j8
        refine EL_pur (v := ePtr o0 j0 3) (P_nilCk rfl pe766) .plain rfl ?_
        obtain ⟨pb768, po768, pe768⟩ := OM.ptrE (k := 3) p4 j8
        refine EL_pur (v := fPtr (ePtr o0 j0 3) 2) (P_fieldAddr at_76_2 rfl ⟨_, _, pe768⟩) .plain rfl ?_
        refine EL_do .plain rfl (D_storeMF (g := j9) part_LoomRun_2 Try.sizeOf3 rfl p4 j8 rfl (RV_int.2 rfl) fun mF tH hs b769 => ?_)
        have hfr := hfr.stp hs
        have m5 := m5.stp hs
        have o4 := o4.stp hs
        have n5 := n5.stp hs
        have o5 := o5.stp hs rfl
        have n4 := n4.stp hs rfl
        have u4 := u4.stp hs
        refine EL_nil ?_
        obtain rfl := sinj h
        exact hQ _ _ ⟨mF, hfr, q8, m5, m7, o4, r8, b769, t8, n5, o5, z6, n4, l6, t7, u4, u7, v7⟩
       ·refine E_cf i8 rfl ?_
        refine E_skip ?_
        obtain rfl := sinj h
        exact hQ _ _ ⟨j9, hfr, q8, m5, m7, o4, r8, p4, t8, n5, o5, z6, n4, l6, t7, u4, u7, v7⟩
      ·clear hx
       obtain ⟨nF, hfr, oB, pB, qB, rB, sB, tB, uB, vB, xB, u9, x9, y9, z9, aA, bA, cA⟩ := hR
       refine E_region (EL_mv y9 rfl ?_)
       refine EL_pur (v := epV o0 j0 3) (P_assign (rfl.trans (epV_pos j4).symm)) .plain rfl ?_
       refine EL_nil (blk_n ?_)
       obtain ⟨rfl, rfl⟩ := pairs2 h
       exact hQ _ _ ⟨nF, hfr, oB, pB, qB, rB, sB, tB, uB, vB, xB, u9, x9, rfl, z9, aA, bA, cA⟩
    ·clear hx
     obtain ⟨oF, hfr, yB, zB, aC, bC, cC, dC, eC, iC, jC, dA, eA, gA, iA, jA, kA, lA⟩ := hR
     refine E_region (EL_in (.int .i64 ((w64 (j2 + (1 : Int))))) lA rfl rfl rfl ?_)
     refine EL_mw (.int .i64 ((w64 (j2 + (1 : Int))))) rfl rfl ?_
     exact EL_nil (thn_n (rD (n6, i6, (w64 (j2 + (1 : Int)))) _ _ ⟨oF, hfr, yB, zB, aC, bC, cC, dC, eC, iC, jC, dA, eA, gA, iA, jA, kA, rfl⟩ h))
   ·refine E_cf c8 rfl ?_
    refine E_exit ?_
    refine thn_e ?_
    refine thn_e ?_
    refine blk_hit ?_
    obtain rfl := sinj h
    exact hQ _ _ ⟨a8, hfr, j7, z4, u6, u0, l7, c5, d5, j6, d4⟩
  ·clear hx
   obtain ⟨uH, hfr, kC, b6, x8, lC, mC, c6, d6, mA, p5⟩ := hR
   refine E_seq (E_region (EL_at (.func (.func 70) #[] #[]) rfl rfl ?_))
   refine EL_nil (thn_n (E_joinC h (fun (s : (List LoomRun) × (List Int)) e w => ∃ (g : Gh) (v8 v9 : Value), Fr gI wI g w ∧ e 1 = up1 ∧ RV g.m w (x1 : List LoomOrder) up1 ∧ e 8 = v8 ∧ RV g.m w (s.1 : List LoomRun) v8 ∧ e 9 = v9 ∧ RV g.m w (s.2 : List Int) v9 ∧ OS 1009 g w 3 (s.2 : List Int) v9 ∧ e 11 = p8 ∧ OB 2011 g w 113 (y7.1 : LoomStill) p8) (fun X779 cB cE h => ?_) ?_))
   ·refine E_seq (E_region (EL_mv x8 rfl ?_))
    refine EL_mw (.func (.func 70) #[] #[]) rfl rfl ?_
    obtain ⟨gp780, hs, rp780⟩ := OM.pub lC
    have hfr := hfr.stp hs
    have b6 := b6.stp hs
    have c6 := c6.stp hs
    have d6 := d6.stp hs rfl
    have p5 := p5.stp hs rfl
    obtain ⟨dB, dE, h⟩ := bsome h
    refine EL_do .plain rfl (D_call (g := gp780) (vs := [o0, .func (.func 70) #[] #[]]) en72 (.cons rfl (.cons rfl .nil)) (wk72 rp780 ⟨70, #[], #[], rfl, en70, fun g' w' hch a0 b0 r hu0 hr => by exact Fn.mono (wk70 hu0  hr) fun _ _ _ h => RV_bool.2 h⟩ dE) fun nC eE vH hs hr => ?_)
    have hfr := hfr.ext hs
    have b6 := b6.ext hs
    have rp780 := rp780.ext hs
    have c6 := c6.ext hs
    have d6 := d6.ext hs
    have p5 := p5.ext hs
    subst hr
    refine EL_nil (thn_n ?_)
    rcases csome h with ⟨k8, h⟩ | ⟨k8, h⟩
    ·refine E_ct k8 rfl ?_
     refine E_seq (E_region (EL_at (.slice none 0 0) rfl rfl ?_))
     have b784 : OA 4008 nC eE 76 ([] : List LoomRun) (.slice none 0 0) := OA.nil
     refine EL_at (.slice none 0 0) rfl rfl ?_
     refine EL_at (.int .i64 (8)) rfl rfl ?_
     refine EL_nil (thn_n (E_ret (thn_r ?_)))
     obtain ⟨gp785, hs, rp785⟩ := OM.pub (b784.toM)
     have hfr := hfr.stp hs
     obtain rfl := sinj h
     exact end3 rfl rfl (show _ = .slice none 0 0 from rfl) (show _ = .slice none 0 0 from rfl) (show _ = .int .i64 (8) from rfl) ⟨_, hfr, _, _, _, rfl, rp785, RV_nil, rfl⟩
    ·refine E_cf k8 rfl ?_
     exact E_skip (thn_n (cE (y5, c4) _ _ ⟨nC, (o0), (d3), hfr, kC, b6, x8, rp780, mC, c6, d6, mA, p5⟩ h))
   ·rintro ⟨i3, n8⟩ qG xH ⟨pF, j3, oC, hfr, pC, qC, y8, n7, rC, sC, tC, nA, oA⟩ h
    obtain ⟨p6, hx, h⟩ := bsome h
    refine E_join (fun e w => ∃ (g : Gh) (v9 : Value), Fr gI wI g w ∧ e 8 = j3 ∧ RV g.m w (i3 : List LoomRun) j3 ∧ e 9 = v9 ∧ RV g.m w (p6 : List Int) v9 ∧ OS 1009 g w 3 (p6 : List Int) v9) (fun Q' hQ => ?_) (fun rG yH hR => ?_)
    ·replace h := hx
     clear hx
     refine E_seq (E_region (EL_mv y8 rfl ?_))
     refine EL_pur (v := .int .i64 ((i3).length : Int)) (P_len Try.underlying31 rfl n7) .plain rfl ?_
     refine EL_mw (.int .i64 (0)) rfl rfl ?_
     refine EL_nil (thn_n (E_block ?_))
     refine E_lp h (fun (s : (List Int) × Int) e w => ∃ (g : Gh) (v9 : Value), Fr gI wI g w ∧ e 1 = up1 ∧ RV g.m w (x1 : List LoomOrder) up1 ∧ e 8 = j3 ∧ RV g.m w (i3 : List LoomRun) j3 ∧ e 9 = v9 ∧ RV g.m w (s.1 : List Int) v9 ∧ OS 1009 g w 3 (s.1 : List Int) v9 ∧ e 11 = p8 ∧ OB 2011 g w 113 (y7.1 : LoomStill) p8 ∧ e 81 = j3 ∧ RV g.m w (i3 : List LoomRun) j3 ∧ e 82 = .int .i64 (((i3).length : Int)) ∧ e 83 = .int .i64 (s.2)) ⟨pF, (oC), hfr, pC, qC, y8, n7, rC, sC, tC, nA, oA, rfl, n7, rfl, rfl⟩ (fun X881 aB gE => ?_)
     rintro ⟨o6, p3⟩ sG zH ⟨k9, z8, hfr, o7, z2, p7, o3, q7, u3, z3, a7, j1, b7, z1, c7, m6⟩ h
     refine E_seq (E_region (EL_in (.bool ((decide (p3 < ((i3).length : Int))))) m6 c7 rfl rfl ?_))
     refine EL_nil (thn_n (E_seq ?_))
     rcases csome h with ⟨l8, h⟩ | ⟨l8, h⟩
     ·refine E_ct l8 rfl ?_
      refine E_skip (thn_n ?_)
      obtain ⟨z5, hx, h⟩ := bsome h
      refine E_join (fun e w => ∃ (g : Gh) (v9 : Value), Fr gI wI g w ∧ e 1 = up1 ∧ RV g.m w (x1 : List LoomOrder) up1 ∧ e 8 = j3 ∧ RV g.m w (i3 : List LoomRun) j3 ∧ e 9 = v9 ∧ RV g.m w (z5 : List Int) v9 ∧ OS 1009 g w 3 (z5 : List Int) v9 ∧ e 11 = p8 ∧ OB 2011 g w 113 (y7.1 : LoomStill) p8 ∧ e 81 = j3 ∧ RV g.m w (i3 : List LoomRun) j3 ∧ e 82 = .int .i64 (((i3).length : Int)) ∧ e 83 = .int .i64 (p3)) (fun Q' hQ => ?_) (fun tG aI hR => ?_)
      ·replace h := hx
       clear hx
       refine E_block ?_
       refine E_seq (E_region ?_)
       obtain ⟨q5, r9, h⟩ := bsome h
       refine EL_pur (v := ePtr j3 p3 3) (P_indexAddr (α := LoomRun) Try.underlying31 Try.sizeOf76 b7 z1 m6 r9) .plain rfl ?_
       have qF := PT_idx z1 r9
       refine EL_do .plain rfl (D_load (g := k9) Try.isAgg76 Try.sizeOf76 rfl qF fun rF l9 => ?_)
       refine EL_do .plain rfl (D_allocOc (g := k9) 2018 (⟨0, 0, 0⟩ : LoomRun) Try.zeroValue76 (fun m w => ⟨_, (rep_two rep_int (rep_two rep_int rep_int)), rfl⟩) fun sF bI uC hs b932 cb => ?_)
       have hfr := hfr.stp hs
       have z2 := z2.stp hs
       have o3 := o3.stp hs
       have u3 := u3.stp hs
       have z3 := z3.stp hs rfl
       have j1 := j1.stp hs rfl
       have z1 := z1.stp hs
       have l9 := l9.stp hs
       clear cb
       refine EL_do .plain rfl (D_storeOc (g := sF) (v := rF) Try.sizeOf76 rfl b932 rfl l9 fun tF cI hs b933 cb => ?_)
       clear cb
       have hfr := hfr.stp hs
       have z2 := z2.stp hs
       have o3 := o3.stp hs
       have u3 := u3.stp hs
       have z3 := z3.stp hs rfl
       have j1 := j1.stp hs rfl
       have z1 := z1.stp hs
       refine EL_nil (thn_n (E_seq (L_loadO (x := .tmp 87) part_LoomStill_0.1 Try.isAgg96 Try.sizeOf96 j1 fun vC uF iE => ?_)))
       refine L_loadO0 (x := .tmp 18) Try.isAgg76 Try.sizeOf76 b933 fun xC vF jE => ?_
       obtain ⟨i7, kE, h⟩ := bsome h
       refine L_loadO (x := .tmp 92) part_LoomRun_0.1 Try.isAgg3 Try.sizeOf3 b933 fun dI xF lE => ?_
       obtain rfl := RV_int.1 xF
       obtain ⟨z7, t9, h⟩ := bsome h
       have yC := PT_idx z2 t9
       have yF := PT_field (part_LoomOrder_4).1 yC
       refine L_load (x := .tmp 95) Try.isAgg3 Try.sizeOf3 yF fun eI zF mE => ?_
       obtain rfl := RV_int.1 zF
       refine E_drawL (g := tF) (n := 11) [(3, (fun v g w => v = .int .i64 (i7)))] [0, 1, 2, 3, 4, 5, 6, 7, 8, 9, 10] rfl mixed (by kernel_rfl) (⟨fun _ => up_eq _, trivial⟩) ?_
       refine L_pur (c := fPtr p8 0) rfl rfl .plain (fun _ _ hd => P_fieldAddr at_113_0 a7 (OB.ptr j1)) ?_
       refine L_ld (c := vC) rfl rfl .plain (fun _ _ h => ⟨h.ch, fun b hb _ => h.below.block b hb⟩) iE rfl ?_
       refine L_ld (c := xC) rfl rfl .plain (fun _ _ h => ⟨h.ch, fun b hb _ => h.below.block b hb⟩) jE rfl ?_
       refine L_do (φ := fun v g w => v = .int .i64 (i7)) rfl rfl .plain (fun g w hd => D_call (g := g) (vs := [vC, xC]) en73 (.cons rfl (.cons rfl .nil)) (wk73 (uF.ext hd.1) (vF.ext hd.1) kE) fun g' w' v hs hr => ⟨g', hs, hr⟩) (fun iI hv => ?_)
       obtain ⟨_, _, _, rfl⟩ := hv
       refine L_pur (c := up1) rfl rfl .plain (fun _ _ hd => P_move o7) ?_
       refine L_pur (c := fPtr uC 0) rfl rfl .plain (fun _ _ hd => P_fieldAddr at_76_0 rfl (OB.ptr b933)) ?_
       refine L_ld (c := .int .i64 ((q5).Order)) rfl rfl .plain (fun _ _ h => ⟨h.ch, fun b hb _ => h.below.block b hb⟩) lE rfl ?_
       refine L_pur (c := ePtr up1 (q5).Order 5) rfl rfl .plain (fun _ _ hd => P_indexAddr (α := LoomOrder) Try.underlying25 Try.sizeOf82 rfl z2 rfl t9) ?_
       refine L_pur (c := fPtr (ePtr up1 (q5).Order 5) 4) rfl rfl .plain (fun _ _ hd => P_fieldAddr at_82_4 rfl (PT.ptr yC)) ?_
       refine L_ld (c := .int .i64 ((z7).Late)) rfl rfl .plain (fun _ _ h => h.ch) mE rfl ?_
       refine L_pur (c := .bool ((decide (i7 > (z7).Late)))) rfl rfl .plain (fun _ _ hd => P_int rfl rfl rfl) ?_
       refine L_nil fun m9 jI hall => ?_
       have hs := hall.1
       have hfr := hfr.ext hs
       have z2 := z2.ext hs
       have o3 := o3.ext hs
       have u3 := u3.ext hs
       have z3 := z3.ext hs
       have j1 := j1.ext hs
       have z1 := z1.ext hs
       have b933 := b933.ext hs
       clear hs hall
       refine EL_nil (thn_n ?_)
       rcases csome h with ⟨m8, h⟩ | ⟨m8, h⟩
       ·refine E_ct m8 rfl ?_
        refine E_region (EL_mv q7 rfl ?_)
        refine EL_pur (v := fPtr uC 0) (P_fieldAddr at_76_0 rfl (OB.ptr b933)) .plain rfl ?_
        refine EL_do .plain rfl (D_loadF (g := m9) part_LoomRun_0.1 Try.isAgg3 Try.sizeOf3 rfl b933 fun kI aG => ?_)
        obtain rfl := RV_int.1 aG
        refine EL_do .plain rfl (D_buildSlice (g := m9) 3101 (xs := ([(q5).Order] : List Int)) (vs := [.int .i64 ((q5).Order)]) Try.underlying22 Try.sizeOf3 Try.zeroValue3 rfl rfl (.cons rfl .nil) (RVs.cons (RV_int.2 rfl) RVs.nil) rfl rfl fun bG lI mI hs o971 cG hxt hfl => ?_)
        have hfr := hfr.stp hs
        have z2 := z2.stp hs
        have o3 := o3.stp hs
        have u3 := u3.stp hs
        have z3 := z3.stp hs rfl
        have j1 := j1.stp hs rfl
        have z1 := z1.stp hs
        obtain ⟨bB, nE, h⟩ := bsome h
        refine EL_do .plain rfl (D_append (g := bG) (i := 1009) Try.underlying22 info_3 rfl rfl z3 u3 rfl cG nE fun dG nI zC hs o972 eG _ => ?_)
        have hfr := hfr.stp hs
        have z2 := z2.stp hs
        have o3 := o3.stp hs
        have j1 := j1.stp hs rfl
        have z1 := z1.stp hs
        refine EL_at zC rfl rfl ?_
        refine EL_nil (blk_n ?_)
        obtain rfl := sinj h
        exact hQ _ _ ⟨dG, (zC), hfr, o7, z2, p7, o3, rfl, eG, o972, a7, j1, b7, z1, c7, m6⟩
       ·refine E_cf m8 rfl ?_
        refine E_skip (blk_n ?_)
        obtain rfl := sinj h
        exact hQ _ _ ⟨m9, (z8), hfr, o7, z2, p7, o3, q7, u3, z3, a7, j1, b7, z1, c7, m6⟩
      ·clear hx
       obtain ⟨gG, aD, hfr, bD, cD, dD, eD, gD, iD, jD, pA, qA, rA, sA, tA, uA⟩ := hR
       refine E_region (EL_in (.int .i64 ((w64 (p3 + (1 : Int))))) uA rfl rfl rfl ?_)
       refine EL_mw (.int .i64 ((w64 (p3 + (1 : Int))))) rfl rfl ?_
       exact EL_nil (thn_n (gE (z5, (w64 (p3 + (1 : Int)))) _ _ ⟨gG, (aD), hfr, bD, cD, dD, eD, gD, iD, jD, pA, qA, rA, sA, tA, rfl⟩ h))
     ·refine E_cf l8 rfl ?_
      refine E_exit ?_
      refine thn_e ?_
      refine thn_e ?_
      refine blk_hit ?_
      obtain rfl := sinj h
      exact hQ _ _ ⟨k9, (z8), hfr, p7, o3, q7, u3, z3⟩
    ·clear hx
     obtain ⟨oI, a9, hfr, kD, lD, mD, nD, jG⟩ := hR
     refine E_seq (E_region (EL_mv kD rfl ?_))
     refine EL_mv mD rfl ?_
     refine EL_at j3 rfl rfl ?_
     refine EL_at a9 rfl rfl ?_
     refine EL_at (.int .i64 (0)) rfl rfl ?_
     refine EL_nil (thn_n (E_ret ?_))
     obtain rfl := sinj h
     exact end3 rfl rfl (show _ = j3 from rfl) (show _ = a9 from rfl) (show _ = .int .i64 (0) from rfl) ⟨_, hfr, _, _, _, rfl, lD, nD, rfl⟩
/-- griffe/griffelaw08.known -/
def f14  : Option (Bool) :=
 (f46 ((0 : Int)) ((0 : Int)) ((0 : Int))).bind fun y2 =>
 (f46 ((1 : Int)) ((1 : Int)) ((0 : Int))).bind fun y4 =>
 (f46 ((2 : Int)) ((0 : Int)) ((10 : Int))).bind fun y6 =>
 (f47).bind fun y9 =>
 (f48 ((1 : Int)) ((8 : Int))).bind fun y11 =>
 (f17 y9 y11).bind fun j5 =>
 (f47).bind fun oA =>
 (f48 ((3 : Int)) ((9 : Int))).bind fun pA =>
 (f17 oA pA).bind fun m5 =>
 (f47).bind fun qA =>
 (f48 ((3 : Int)) ((9 : Int))).bind fun y23 =>
 (f23 qA y23).bind fun z4 =>
 (f47).bind fun rA =>
 (f48 ((3 : Int)) ((9 : Int))).bind fun sA =>
 (f24 rA sA).bind fun c5 =>
 (f48 ((1 : Int)) ((8 : Int))).bind fun p8 =>
 (idx p8 (0 : Int)).bind fun tA =>
 (f47).bind fun uA =>
 (f30 uA ((List.set p8 (Int.toNat ((0 : Int))) ({ tA with Woven := (25 : Int) })))).bind fun j3 =>
 (f47).bind fun vA =>
 (f48 ((1 : Int)) ((8 : Int))).bind fun xA =>
 (cut xA (1 : Int) (2 : Int)).bind fun yA =>
 (f25 vA yA).bind fun d5 =>
 (f47).bind fun zA =>
 (f48 ((1 : Int)) ((8 : Int))).bind fun aB =>
 (f32 (([y2, y4, y6] : List LoomRun))).bind fun bB =>
 (f49 ((5 : Int)) ((6 : Int))).bind fun cB =>
 (f33 zA aB bB cB).bind fun i5 =>
 (f47).bind fun dB =>
 (f48 ((1 : Int)) ((8 : Int))).bind fun eB =>
 (f32 (([y2, y4, y6] : List LoomRun))).bind fun iB =>
 (f49 ((5 : Int)) ((6 : Int))).bind fun jB =>
 (f34 dB eB iB jB).bind fun u3 =>
 (f47).bind fun y74 =>
 (f48 ((3 : Int)) ((8 : Int))).bind fun kB =>
 (f32 (([y2, y4, y6] : List LoomRun))).bind fun lB =>
 (f40 y74 kB lB).bind fun y80 =>
 jn (σ := Unit) (fun (_ : Unit) =>
  Option.bind (α := Bool) (
   (f22 (j5.1) (([y2, y4, y6] : List LoomRun))).bind fun y157 =>
   bif y157 then
    (f28 (z4.1) (([(0 : Int), (1 : Int), (2 : Int)] : List Int))).bind fun y161 =>
    bif y161 then
     (f28 (c5.1) (([(0 : Int)] : List Int))).bind fun y165 =>
     bif y165 then
      bif (decide (j3.1 = (⟨0, (20 : Int)⟩ : Span))) then
       bif (j3.2.1 == (45 : Int)) then
        (f28 (d5.1) (([(1 : Int)] : List Int))).bind fun m6 =>
        bif m6 then
         (f28 (i5.1) (([(0 : Int)] : List Int))).bind fun y177 =>
         bif y177 then
          (f46 ((0 : Int)) ((0 : Int)) ((7 : Int))).bind fun y180 =>
          (f46 ((1 : Int)) ((1 : Int)) ((0 : Int))).bind fun e7 =>
          (f46 ((2 : Int)) ((0 : Int)) ((17 : Int))).bind fun i7 =>
          (f22 (u3.1) (([y180, e7, i7] : List LoomRun))).bind fun n6 =>
          bif n6 then
           (f28 (u3.2.1) (([(2 : Int)] : List Int))).bind fun o6 =>
           bif o6 then
            some ((y80.1 == (2 : Int)))
           else
            none
          else
           none
         else
          none
        else
         none
       else
        none
      else
       none
     else
      none
    else
     none
   else
    none
   ) fun n5 =>
  some (n5)
  ) fun mB =>
 Option.bind (α := Bool) (
  bif (j5.2 != (0 : Int)) then
   none
  else
   bif (m5.2 != (9 : Int)) then
    none
   else
    bif (z4.2 != (0 : Int)) then
     none
    else
     bif (c5.2 != (0 : Int)) then
      none
     else
      bif (j3.2.2 != (0 : Int)) then
       none
      else
       bif (d5.2 != (0 : Int)) then
        none
       else
        bif (i5.2 != (0 : Int)) then
         none
        else
         bif (u3.2.2 != (0 : Int)) then
          none
         else
          some ((y80.2 != (6 : Int)))
  ) fun p4 =>
 bif p4 then
  some (false)
 else
  mB ()
theorem en14 : Enters Try.prog 14 := enters_of Try.func14 (by kernel_rfl) rfl
theorem wk14 {gI : Gh} {wI : World}   {r : Bool} (h : f14  = some r) : Fn Try.prog 14 #[] gI wI (fun _ _ v => v = .bool (r)) := by
 unfold f14 at h
 refine fn_of_E Try.func14 rfl (Nat.le_of_ble_eq_true rfl) fun g0 hm hfr => ?_
 show E _ 179 none _ _ _ _ _
 refine E_seq (E_region (EL_at (.bool false) rfl rfl ?_))
 refine EL_nil (thn_n (E_seq (E_region ?_)))
 obtain ⟨y2, hy2, h⟩ := bsome h
 refine EL_do .plain rfl (D_call (g := g0) (vs := [.int .i64 (0), .int .i64 (0), .int .i64 (0)]) en46 (.cons rfl (.cons rfl (.cons rfl .nil))) (wk46  hy2) fun g1 w1_ v1 hs hr => ?_)
 have hfr := hfr.ext hs
 have r1 := hr
 obtain ⟨y4, oE, h⟩ := bsome h
 refine EL_do .plain rfl (D_call (g := g1) (vs := [.int .i64 (1), .int .i64 (1), .int .i64 (0)]) en46 (.cons rfl (.cons rfl (.cons rfl .nil))) (wk46  oE) fun g3 w3_ v3 hs hr => ?_)
 have hfr := hfr.ext hs
 have r1 := r1.ext hs
 have r3 := hr
 obtain ⟨y6, pE, h⟩ := bsome h
 refine EL_do .plain rfl (D_call (g := g3) (vs := [.int .i64 (2), .int .i64 (0), .int .i64 (10)]) en46 (.cons rfl (.cons rfl (.cons rfl .nil))) (wk46  pE) fun g5 w5_ v5 hs hr => ?_)
 have hfr := hfr.ext hs
 have r1 := r1.ext hs
 have r3 := r3.ext hs
 have r5 := hr
 refine EL_do .plain rfl (D_buildSlice (g := g5) 3026 (xs := ([y2, y4, y6] : List LoomRun)) (vs := [v1, v3, v5]) Try.underlying31 Try.sizeOf76 Try.zeroValue76 rfl rfl (.cons rfl (.cons rfl (.cons rfl .nil))) (RVs.cons r1 (RVs.cons r3 (RVs.cons r5 RVs.nil))) rfl rfl fun g7 w7 v7 hs o7 r7 hxt hfl => ?_)
 have hfr := hfr.stp hs
 refine EL_at v7 rfl rfl ?_
 refine EL_nil (thn_n (E_seq (E_region ?_)))
 obtain ⟨y9, qE, h⟩ := bsome h
 refine EL_do .plain rfl (D_call (g := g7) (vs := []) en47 .nil (wk47  qE) fun g8 w8_ v8 hs hr => ?_)
 have hfr := hfr.ext hs
 have r7 := r7.ext hs
 have o7 := o7.ext hs
 have r8 := hr
 obtain ⟨y11, pB, h⟩ := bsome h
 refine EL_do .plain rfl (D_call (g := g8) (vs := [.int .i64 (1), .int .i64 (8)]) en48 (.cons rfl (.cons rfl .nil)) (wk48  pB) fun rE nI sE hs hr => ?_)
 have hfr := hfr.ext hs
 have r7 := r7.ext hs
 have o7 := o7.ext hs
 have r8 := r8.ext hs
 have tE := hr
 obtain ⟨j5, qB, h⟩ := bsome h
 refine EL_do .plain rfl (D_call (g := rE) (vs := [v8, sE]) en17 (.cons rfl (.cons rfl .nil)) (wk17 r8 tE qB) fun uE oI qK hs hr => ?_)
 have hfr := hfr.ext hs
 have r7 := r7.ext hs
 have o7 := o7.ext hs
 obtain ⟨u4, kH, rfl, j0, rfl⟩ := hr
 refine EL_mw (.tuple #[u4, .int .i64 (j5.2)]) rfl rfl ?_
 refine EL_pur (v := u4) (P_extract rfl rfl) .plain rfl ?_
 refine EL_pur (v := .int .i64 (j5.2)) (P_extract rfl rfl) .plain rfl ?_
 refine EL_at u4 rfl rfl ?_
 refine EL_at (.int .i64 (j5.2)) rfl rfl ?_
 refine EL_nil (thn_n (E_seq (E_region ?_)))
 obtain ⟨oA, rB, h⟩ := bsome h
 refine EL_do .plain rfl (D_call (g := uE) (vs := []) en47 .nil (wk47  rB) fun vE pI xE hs hr => ?_)
 have hfr := hfr.ext hs
 have r7 := r7.ext hs
 have o7 := o7.ext hs
 have j0 := j0.ext hs
 have q8 := hr
 obtain ⟨pA, sB, h⟩ := bsome h
 refine EL_do .plain rfl (D_call (g := vE) (vs := [.int .i64 (3), .int .i64 (9)]) en48 (.cons rfl (.cons rfl .nil)) (wk48  sB) fun yE qI zE hs hr => ?_)
 have hfr := hfr.ext hs
 have r7 := r7.ext hs
 have o7 := o7.ext hs
 have j0 := j0.ext hs
 have q8 := q8.ext hs
 have aF := hr
 obtain ⟨m5, tB, h⟩ := bsome h
 refine EL_do .plain rfl (D_call (g := yE) (vs := [xE, zE]) en17 (.cons rfl (.cons rfl .nil)) (wk17 q8 aF tB) fun bF rI sK hs hr => ?_)
 have hfr := hfr.ext hs
 have r7 := r7.ext hs
 have o7 := o7.ext hs
 have j0 := j0.ext hs
 obtain ⟨v6, lH, rfl, mH, rfl⟩ := hr
 refine EL_mw (.tuple #[v6, .int .i64 (m5.2)]) rfl rfl ?_
 refine EL_pur (v := v6) (P_extract rfl rfl) .plain rfl ?_
 refine EL_pur (v := .int .i64 (m5.2)) (P_extract rfl rfl) .plain rfl ?_
 refine EL_at v6 rfl rfl ?_
 refine EL_at (.int .i64 (m5.2)) rfl rfl ?_
 refine EL_nil (thn_n (E_seq (E_region ?_)))
 obtain ⟨qA, uB, h⟩ := bsome h
 refine EL_do .plain rfl (D_call (g := bF) (vs := []) en47 .nil (wk47  uB) fun cF sI dF hs hr => ?_)
 have hfr := hfr.ext hs
 have r7 := r7.ext hs
 have o7 := o7.ext hs
 have j0 := j0.ext hs
 have t8 := hr
 obtain ⟨y23, vB, h⟩ := bsome h
 refine EL_do .plain rfl (D_call (g := cF) (vs := [.int .i64 (3), .int .i64 (9)]) en48 (.cons rfl (.cons rfl .nil)) (wk48  vB) fun eF tI gF hs hr => ?_)
 have hfr := hfr.ext hs
 have r7 := r7.ext hs
 have o7 := o7.ext hs
 have j0 := j0.ext hs
 have t8 := t8.ext hs
 have iF := hr
 obtain ⟨z4, xB, h⟩ := bsome h
 refine EL_do .plain rfl (D_call (g := eF) (vs := [dF, gF]) en23 (.cons rfl (.cons rfl .nil)) (wk23 t8 iF xB) fun jF uI tK hs hr => ?_)
 have hfr := hfr.ext hs
 have r7 := r7.ext hs
 have o7 := o7.ext hs
 have j0 := j0.ext hs
 obtain ⟨z3, nH, rfl, o0, rfl⟩ := hr
 refine EL_mw (.tuple #[z3, .int .i64 (z4.2)]) rfl rfl ?_
 refine EL_pur (v := z3) (P_extract rfl rfl) .plain rfl ?_
 refine EL_pur (v := .int .i64 (z4.2)) (P_extract rfl rfl) .plain rfl ?_
 refine EL_at z3 rfl rfl ?_
 refine EL_at (.int .i64 (z4.2)) rfl rfl ?_
 refine EL_nil (thn_n (E_seq (E_region ?_)))
 obtain ⟨rA, yB, h⟩ := bsome h
 refine EL_do .plain rfl (D_call (g := jF) (vs := []) en47 .nil (wk47  yB) fun kF vI lF hs hr => ?_)
 have hfr := hfr.ext hs
 have r7 := r7.ext hs
 have o7 := o7.ext hs
 have j0 := j0.ext hs
 have o0 := o0.ext hs
 have x8 := hr
 obtain ⟨sA, zB, h⟩ := bsome h
 refine EL_do .plain rfl (D_call (g := kF) (vs := [.int .i64 (3), .int .i64 (9)]) en48 (.cons rfl (.cons rfl .nil)) (wk48  zB) fun mF xI nF hs hr => ?_)
 have hfr := hfr.ext hs
 have r7 := r7.ext hs
 have o7 := o7.ext hs
 have j0 := j0.ext hs
 have o0 := o0.ext hs
 have x8 := x8.ext hs
 have oF := hr
 obtain ⟨c5, aC, h⟩ := bsome h
 refine EL_do .plain rfl (D_call (g := mF) (vs := [lF, nF]) en24 (.cons rfl (.cons rfl .nil)) (wk24 x8 oF aC) fun pF yI uK hs hr => ?_)
 have hfr := hfr.ext hs
 have r7 := r7.ext hs
 have o7 := o7.ext hs
 have j0 := j0.ext hs
 have o0 := o0.ext hs
 obtain ⟨c4, oH, rfl, u0, rfl⟩ := hr
 refine EL_mw (.tuple #[c4, .int .i64 (c5.2)]) rfl rfl ?_
 refine EL_pur (v := c4) (P_extract rfl rfl) .plain rfl ?_
 refine EL_pur (v := .int .i64 (c5.2)) (P_extract rfl rfl) .plain rfl ?_
 refine EL_at c4 rfl rfl ?_
 refine EL_at (.int .i64 (c5.2)) rfl rfl ?_
 refine EL_nil (thn_n (E_seq (E_region ?_)))
 obtain ⟨p8, bC, h⟩ := bsome h
 refine EL_do .plain rfl (D_callG (g := pF) (vs := [.int .i64 (1), .int .i64 (8)]) en48 (.cons rfl (.cons rfl .nil)) (v48_0 (iO := 9051)  bC) fun qF zI u6 hs hr => ?_)
 have hfr := hfr.ext hs
 have r7 := r7.ext hs
 have o7 := o7.ext hs
 have j0 := j0.ext hs
 have o0 := o0.ext hs
 have u0 := u0.ext hs
 have hm32 := hr
 refine EL_at u6 rfl rfl ?_
 refine EL_nil (thn_n (E_seq (E_region (EL_mw u6 rfl rfl ?_))))
 obtain ⟨tA, j7, h⟩ := bsome h
 refine EL_pur (v := ePtr u6 (0 : Int) 5) (P_indexAddrM (α := LoomOrder) Try.underlying25 Try.sizeOf82 rfl hm32 rfl j7) .plain rfl ?_
 obtain ⟨pb36, po36, pe36⟩ := OM.ptrE (k := 5) hm32 j7
 refine EL_pur (v := fPtr (ePtr u6 (0 : Int) 5) 2) (P_fieldAddr at_82_2 rfl ⟨_, _, pe36⟩) .plain rfl ?_
 refine EL_do .plain rfl (D_storeMF (g := qF) part_LoomOrder_2 Try.sizeOf3 rfl hm32 j7 rfl (RV_int.2 rfl) fun rF vK hs b37 => ?_)
 have hfr := hfr.stp hs
 have r7 := r7.stp hs
 have o7 := o7.stp hs rfl
 have j0 := j0.stp hs
 have o0 := o0.stp hs
 have u0 := u0.stp hs
 refine EL_nil (thn_n (E_seq (E_region ?_)))
 obtain ⟨uA, cC, h⟩ := bsome h
 refine EL_do .plain rfl (D_call (g := rF) (vs := []) en47 .nil (wk47  cC) fun xK aJ sF hs hr => ?_)
 have hfr := hfr.ext hs
 have r7 := r7.ext hs
 have o7 := o7.ext hs
 have j0 := j0.ext hs
 have o0 := o0.ext hs
 have u0 := u0.ext hs
 have b37 := b37.ext hs
 have y8 := hr
 refine EL_mw u6 rfl rfl ?_
 obtain ⟨gp40, hs, rp40⟩ := OM.pub b37
 have hfr := hfr.stp hs
 have r7 := r7.stp hs
 have o7 := o7.stp hs rfl
 have j0 := j0.stp hs
 have o0 := o0.stp hs
 have u0 := u0.stp hs
 have y8 := y8.stp hs
 obtain ⟨j3, dC, h⟩ := bsome h
 refine EL_do .plain rfl (D_call (g := gp40) (vs := [sF, u6]) en30 (.cons rfl (.cons rfl .nil)) (wk30 y8 rp40 dC) fun tF bJ yK hs hr => ?_)
 have hfr := hfr.ext hs
 have r7 := r7.ext hs
 have o7 := o7.ext hs
 have j0 := j0.ext hs
 have o0 := o0.ext hs
 have u0 := u0.ext hs
 obtain ⟨x6, pH, qH, rfl, z6, rfl, rfl⟩ := hr
 refine EL_mw (.tuple #[x6, .int .i64 (j3.2.1), .int .i64 (j3.2.2)]) rfl rfl ?_
 refine EL_pur (v := x6) (P_extract rfl rfl) .plain rfl ?_
 refine EL_pur (v := .int .i64 (j3.2.1)) (P_extract rfl rfl) .plain rfl ?_
 refine EL_pur (v := .int .i64 (j3.2.2)) (P_extract rfl rfl) .plain rfl ?_
 refine EL_do .plain rfl (D_allocOc (g := tF) 2011 (⟨0, 0⟩ : Span) Try.zeroValue48 (fun m w => ⟨_, (rep_two rep_int rep_int), rfl⟩) fun uF zK n7 hs b43 cb => ?_)
 have hfr := hfr.stp hs
 have r7 := r7.stp hs
 have o7 := o7.stp hs rfl
 have j0 := j0.stp hs
 have o0 := o0.stp hs
 have u0 := u0.stp hs
 have z6 := z6.stp hs
 clear cb
 refine EL_do .plain rfl (D_storeOc (g := uF) (v := x6) Try.sizeOf48 rfl b43 rfl z6 fun vF aL hs b44 cb => ?_)
 clear cb
 have hfr := hfr.stp hs
 have r7 := r7.stp hs
 have o7 := o7.stp hs rfl
 have j0 := j0.stp hs
 have o0 := o0.stp hs
 have u0 := u0.stp hs
 refine EL_at (.int .i64 (j3.2.1)) rfl rfl ?_
 refine EL_at (.int .i64 (j3.2.2)) rfl rfl ?_
 refine EL_nil (thn_n (E_seq (E_region ?_)))
 obtain ⟨vA, eC, h⟩ := bsome h
 refine EL_do .plain rfl (D_call (g := vF) (vs := []) en47 .nil (wk47  eC) fun xF cJ yF hs hr => ?_)
 have hfr := hfr.ext hs
 have r7 := r7.ext hs
 have o7 := o7.ext hs
 have j0 := j0.ext hs
 have o0 := o0.ext hs
 have u0 := u0.ext hs
 have b44 := b44.ext hs
 have z8 := hr
 obtain ⟨xA, iC, h⟩ := bsome h
 refine EL_do .plain rfl (D_call (g := xF) (vs := [.int .i64 (1), .int .i64 (8)]) en48 (.cons rfl (.cons rfl .nil)) (wk48  iC) fun zF dJ nB hs hr => ?_)
 have hfr := hfr.ext hs
 have r7 := r7.ext hs
 have o7 := o7.ext hs
 have j0 := j0.ext hs
 have o0 := o0.ext hs
 have u0 := u0.ext hs
 have b44 := b44.ext hs
 have z8 := z8.ext hs
 have oB := hr
 obtain ⟨yA, a9, h⟩ := bsome h
 have aG := RV_cut oB a9
 refine EL_pur (v := (cutV nB (Int.toNat (1 : Int)) (Int.toNat (2 : Int)) 5)) (P_slice Try.underlying25 Try.sizeOf82 rfl oB rfl rfl a9) .plain rfl ?_
 obtain ⟨d5, jC, h⟩ := bsome h
 refine EL_do .plain rfl (D_call (g := zF) (vs := [yF, (cutV nB (Int.toNat (1 : Int)) (Int.toNat (2 : Int)) 5)]) en25 (.cons rfl (.cons rfl .nil)) (wk25 z8 aG jC) fun bG eJ bL hs hr => ?_)
 have hfr := hfr.ext hs
 have r7 := r7.ext hs
 have o7 := o7.ext hs
 have j0 := j0.ext hs
 have o0 := o0.ext hs
 have u0 := u0.ext hs
 have b44 := b44.ext hs
 obtain ⟨d4, sH, rfl, j2, rfl⟩ := hr
 refine EL_mw (.tuple #[d4, .int .i64 (d5.2)]) rfl rfl ?_
 refine EL_pur (v := d4) (P_extract rfl rfl) .plain rfl ?_
 refine EL_pur (v := .int .i64 (d5.2)) (P_extract rfl rfl) .plain rfl ?_
 refine EL_at d4 rfl rfl ?_
 refine EL_at (.int .i64 (d5.2)) rfl rfl ?_
 refine EL_nil (thn_n (E_seq (E_region ?_)))
 obtain ⟨zA, kC, h⟩ := bsome h
 refine EL_do .plain rfl (D_call (g := bG) (vs := []) en47 .nil (wk47  kC) fun cG gJ dG hs hr => ?_)
 have hfr := hfr.ext hs
 have r7 := r7.ext hs
 have o7 := o7.ext hs
 have j0 := j0.ext hs
 have o0 := o0.ext hs
 have u0 := u0.ext hs
 have b44 := b44.ext hs
 have j2 := j2.ext hs
 have p6 := hr
 obtain ⟨aB, lC, h⟩ := bsome h
 refine EL_do .plain rfl (D_call (g := cG) (vs := [.int .i64 (1), .int .i64 (8)]) en48 (.cons rfl (.cons rfl .nil)) (wk48  lC) fun eG iJ gG hs hr => ?_)
 have hfr := hfr.ext hs
 have r7 := r7.ext hs
 have o7 := o7.ext hs
 have j0 := j0.ext hs
 have o0 := o0.ext hs
 have u0 := u0.ext hs
 have b44 := b44.ext hs
 have j2 := j2.ext hs
 have p6 := p6.ext hs
 have b7 := hr
 refine EL_mw v7 rfl rfl ?_
 obtain ⟨bB, mC, h⟩ := bsome h
 refine EL_do .plain rfl (D_call (g := eG) (vs := [v7]) en32 (.cons rfl .nil) (wk32 r7 mC) fun hG jJ iG hs hr => ?_)
 have hfr := hfr.ext hs
 have r7 := r7.ext hs
 have o7 := o7.ext hs
 have j0 := j0.ext hs
 have o0 := o0.ext hs
 have u0 := u0.ext hs
 have b44 := b44.ext hs
 have j2 := j2.ext hs
 have p6 := p6.ext hs
 have b7 := b7.ext hs
 have b9 := hr
 obtain ⟨cB, nC, h⟩ := bsome h
 refine EL_do .plain rfl (D_call (g := hG) (vs := [.int .i64 (5), .int .i64 (6)]) en49 (.cons rfl (.cons rfl .nil)) (wk49  nC) fun jG kJ kG hs hr => ?_)
 have hfr := hfr.ext hs
 have r7 := r7.ext hs
 have o7 := o7.ext hs
 have j0 := j0.ext hs
 have o0 := o0.ext hs
 have u0 := u0.ext hs
 have b44 := b44.ext hs
 have j2 := j2.ext hs
 have p6 := p6.ext hs
 have b7 := b7.ext hs
 have b9 := b9.ext hs
 have lG := hr
 obtain ⟨i5, oC, h⟩ := bsome h
 refine EL_do .plain rfl (D_call (g := jG) (vs := [dG, gG, iG, kG]) en33 (.cons rfl (.cons rfl (.cons rfl (.cons rfl .nil)))) (wk33 p6 b7 b9 lG oC) fun mG lJ cL hs hr => ?_)
 have hfr := hfr.ext hs
 have r7 := r7.ext hs
 have o7 := o7.ext hs
 have j0 := j0.ext hs
 have o0 := o0.ext hs
 have u0 := u0.ext hs
 have b44 := b44.ext hs
 have j2 := j2.ext hs
 obtain ⟨i4, tH, rfl, d3, rfl⟩ := hr
 refine EL_mw (.tuple #[i4, .int .i64 (i5.2)]) rfl rfl ?_
 refine EL_pur (v := i4) (P_extract rfl rfl) .plain rfl ?_
 refine EL_pur (v := .int .i64 (i5.2)) (P_extract rfl rfl) .plain rfl ?_
 refine EL_at i4 rfl rfl ?_
 refine EL_at (.int .i64 (i5.2)) rfl rfl ?_
 refine EL_nil (thn_n (E_seq (E_region ?_)))
 obtain ⟨dB, pC, h⟩ := bsome h
 refine EL_do .plain rfl (D_call (g := mG) (vs := []) en47 .nil (wk47  pC) fun nG mJ oG hs hr => ?_)
 have hfr := hfr.ext hs
 have r7 := r7.ext hs
 have o7 := o7.ext hs
 have j0 := j0.ext hs
 have o0 := o0.ext hs
 have u0 := u0.ext hs
 have b44 := b44.ext hs
 have j2 := j2.ext hs
 have d3 := d3.ext hs
 have q6 := hr
 obtain ⟨eB, qC, h⟩ := bsome h
 refine EL_do .plain rfl (D_call (g := nG) (vs := [.int .i64 (1), .int .i64 (8)]) en48 (.cons rfl (.cons rfl .nil)) (wk48  qC) fun pG nJ qG hs hr => ?_)
 have hfr := hfr.ext hs
 have r7 := r7.ext hs
 have o7 := o7.ext hs
 have j0 := j0.ext hs
 have o0 := o0.ext hs
 have u0 := u0.ext hs
 have b44 := b44.ext hs
 have j2 := j2.ext hs
 have d3 := d3.ext hs
 have q6 := q6.ext hs
 have c7 := hr
 refine EL_mw v7 rfl rfl ?_
 obtain ⟨iB, rC, h⟩ := bsome h
 refine EL_do .plain rfl (D_call (g := pG) (vs := [v7]) en32 (.cons rfl .nil) (wk32 r7 rC) fun rG oJ sG hs hr => ?_)
 have hfr := hfr.ext hs
 have r7 := r7.ext hs
 have o7 := o7.ext hs
 have j0 := j0.ext hs
 have o0 := o0.ext hs
 have u0 := u0.ext hs
 have b44 := b44.ext hs
 have j2 := j2.ext hs
 have d3 := d3.ext hs
 have q6 := q6.ext hs
 have c7 := c7.ext hs
 have c9 := hr
 obtain ⟨jB, sC, h⟩ := bsome h
 refine EL_do .plain rfl (D_call (g := rG) (vs := [.int .i64 (5), .int .i64 (6)]) en49 (.cons rfl (.cons rfl .nil)) (wk49  sC) fun tG pJ uG hs hr => ?_)
 have hfr := hfr.ext hs
 have r7 := r7.ext hs
 have o7 := o7.ext hs
 have j0 := j0.ext hs
 have o0 := o0.ext hs
 have u0 := u0.ext hs
 have b44 := b44.ext hs
 have j2 := j2.ext hs
 have d3 := d3.ext hs
 have q6 := q6.ext hs
 have c7 := c7.ext hs
 have c9 := c9.ext hs
 have vG := hr
 obtain ⟨u3, tC, h⟩ := bsome h
 refine EL_do .plain rfl (D_call (g := tG) (vs := [oG, qG, sG, uG]) en34 (.cons rfl (.cons rfl (.cons rfl (.cons rfl .nil)))) (wk34 q6 c7 c9 vG tC) fun xG qJ dL hs hr => ?_)
 have hfr := hfr.ext hs
 have r7 := r7.ext hs
 have o7 := o7.ext hs
 have j0 := j0.ext hs
 have o0 := o0.ext hs
 have u0 := u0.ext hs
 have b44 := b44.ext hs
 have j2 := j2.ext hs
 have d3 := d3.ext hs
 obtain ⟨j4, m4, uH, rfl, n4, o4, rfl⟩ := hr
 refine EL_mw (.tuple #[j4, m4, .int .i64 (u3.2.2)]) rfl rfl ?_
 refine EL_pur (v := j4) (P_extract rfl rfl) .plain rfl ?_
 refine EL_pur (v := m4) (P_extract rfl rfl) .plain rfl ?_
 refine EL_pur (v := .int .i64 (u3.2.2)) (P_extract rfl rfl) .plain rfl ?_
 refine EL_at j4 rfl rfl ?_
 refine EL_at m4 rfl rfl ?_
 refine EL_at (.int .i64 (u3.2.2)) rfl rfl ?_
 refine EL_nil (thn_n (E_seq (E_region ?_)))
 obtain ⟨y74, uC, h⟩ := bsome h
 refine EL_do .plain rfl (D_call (g := xG) (vs := []) en47 .nil (wk47  uC) fun yG rJ zG hs hr => ?_)
 have hfr := hfr.ext hs
 have r7 := r7.ext hs
 have o7 := o7.ext hs
 have j0 := j0.ext hs
 have o0 := o0.ext hs
 have u0 := u0.ext hs
 have b44 := b44.ext hs
 have j2 := j2.ext hs
 have d3 := d3.ext hs
 have n4 := n4.ext hs
 have o4 := o4.ext hs
 have d7 := hr
 obtain ⟨kB, vC, h⟩ := bsome h
 refine EL_do .plain rfl (D_call (g := yG) (vs := [.int .i64 (3), .int .i64 (8)]) en48 (.cons rfl (.cons rfl .nil)) (wk48  vC) fun aH sJ bH hs hr => ?_)
 have hfr := hfr.ext hs
 have r7 := r7.ext hs
 have o7 := o7.ext hs
 have j0 := j0.ext hs
 have o0 := o0.ext hs
 have u0 := u0.ext hs
 have b44 := b44.ext hs
 have j2 := j2.ext hs
 have d3 := d3.ext hs
 have n4 := n4.ext hs
 have o4 := o4.ext hs
 have d7 := d7.ext hs
 have d9 := hr
 refine EL_mw v7 rfl rfl ?_
 obtain ⟨lB, xC, h⟩ := bsome h
 refine EL_do .plain rfl (D_call (g := aH) (vs := [v7]) en32 (.cons rfl .nil) (wk32 r7 xC) fun cH tJ dH hs hr => ?_)
 have hfr := hfr.ext hs
 have r7 := r7.ext hs
 have o7 := o7.ext hs
 have j0 := j0.ext hs
 have o0 := o0.ext hs
 have u0 := u0.ext hs
 have b44 := b44.ext hs
 have j2 := j2.ext hs
 have d3 := d3.ext hs
 have n4 := n4.ext hs
 have o4 := o4.ext hs
 have d7 := d7.ext hs
 have d9 := d9.ext hs
 have gH := hr
 obtain ⟨y80, yC, h⟩ := bsome h
 refine EL_do .plain rfl (D_call (g := cH) (vs := [zG, bH, dH]) en40 (.cons rfl (.cons rfl (.cons rfl .nil))) (wk40 d7 d9 gH yC) fun iH uJ eL hs hr => ?_)
 have hfr := hfr.ext hs
 have r7 := r7.ext hs
 have o7 := o7.ext hs
 have j0 := j0.ext hs
 have o0 := o0.ext hs
 have u0 := u0.ext hs
 have b44 := b44.ext hs
 have j2 := j2.ext hs
 have d3 := d3.ext hs
 have n4 := n4.ext hs
 have o4 := o4.ext hs
 obtain ⟨vH, xH, rfl, rfl, rfl⟩ := hr
 refine EL_mw (.tuple #[.int .i64 (y80.1), .int .i64 (y80.2)]) rfl rfl ?_
 refine EL_pur (v := .int .i64 (y80.1)) (P_extract rfl rfl) .plain rfl ?_
 refine EL_pur (v := .int .i64 (y80.2)) (P_extract rfl rfl) .plain rfl ?_
 refine EL_at (.int .i64 (y80.1)) rfl rfl ?_
 refine EL_at (.int .i64 (y80.2)) rfl rfl ?_
 refine EL_nil (thn_n (E_joinC h (fun (s : Unit) e w => ∃ (g : Gh) , Fr gI wI g w ∧ e 1 = v7 ∧ RV g.m w (([y2, y4, y6] : List LoomRun) : List LoomRun) v7 ∧ OS 3026 g w 76 (([y2, y4, y6] : List LoomRun) : List LoomRun) v7 ∧ e 2 = u4 ∧ RV g.m w (j5.1 : List LoomRun) u4 ∧ e 6 = z3 ∧ RV g.m w (z4.1 : List Int) z3 ∧ e 8 = c4 ∧ RV g.m w (c5.1 : List Int) c4 ∧ e 11 = n7 ∧ OB 2011 g w 48 (j3.1 : Span) n7 ∧ e 12 = .int .i64 (j3.2.1) ∧ e 14 = d4 ∧ RV g.m w (d5.1 : List Int) d4 ∧ e 16 = i4 ∧ RV g.m w (i5.1 : List Int) i4 ∧ e 18 = j4 ∧ RV g.m w (u3.1 : List LoomRun) j4 ∧ e 19 = m4 ∧ RV g.m w (u3.2.1 : List Int) m4 ∧ e 21 = .int .i64 (y80.1)) (fun X99 mB zC h => ?_) ?_))
 ·obtain ⟨p4, hx, h⟩ := bsome h
  refine E_join (fun e w => ∃ (g : Gh) , Fr gI wI g w ∧ e 1 = v7 ∧ RV g.m w (([y2, y4, y6] : List LoomRun) : List LoomRun) v7 ∧ OS 3026 g w 76 (([y2, y4, y6] : List LoomRun) : List LoomRun) v7 ∧ e 2 = u4 ∧ RV g.m w (j5.1 : List LoomRun) u4 ∧ e 6 = z3 ∧ RV g.m w (z4.1 : List Int) z3 ∧ e 8 = c4 ∧ RV g.m w (c5.1 : List Int) c4 ∧ e 11 = n7 ∧ OB 2011 g w 48 (j3.1 : Span) n7 ∧ e 12 = .int .i64 (j3.2.1) ∧ e 14 = d4 ∧ RV g.m w (d5.1 : List Int) d4 ∧ e 16 = i4 ∧ RV g.m w (i5.1 : List Int) i4 ∧ e 18 = j4 ∧ RV g.m w (u3.1 : List LoomRun) j4 ∧ e 19 = m4 ∧ RV g.m w (u3.2.1 : List Int) m4 ∧ e 21 = .int .i64 (y80.1) ∧ e 129 = .bool (p4)) (fun Q' hQ => ?_) (fun yH vJ hR => ?_)
  ·replace h := hx
   clear hx
   refine E_region (EL_mw (.int .i64 (j5.2)) rfl rfl ?_)
   refine EL_in (.bool ((j5.2 != (0 : Int)))) rfl rfl rfl rfl ?_
   refine EL_mw (.bool ((j5.2 != (0 : Int)))) rfl rfl ?_
   rcases csome h with ⟨y5, h⟩ | ⟨y5, h⟩
   ·cases h
   ·refine EL_pur (v := .int .i64 (m5.2)) (P_move rfl) (.yes2 rfl rfl y5) rfl ?_
    refine EL_pur (v := .bool ((m5.2 != (9 : Int)))) (P_int rfl rfl rfl) (.yes2 rfl rfl y5) rfl ?_
    refine EL_pur (v := .bool ((m5.2 != (9 : Int)))) (P_pick (b := (j5.2 != (0 : Int))) rfl (pick_f y5 rfl)) .plain rfl ?_
    refine EL_mw (.bool ((m5.2 != (9 : Int)))) rfl rfl ?_
    rcases csome h with ⟨z5, h⟩ | ⟨z5, h⟩
    ·cases h
    ·refine EL_pur (v := .int .i64 (z4.2)) (P_move rfl) (.yes2 rfl rfl z5) rfl ?_
     refine EL_pur (v := .bool ((z4.2 != (0 : Int)))) (P_int rfl rfl rfl) (.yes2 rfl rfl z5) rfl ?_
     refine EL_pur (v := .bool ((z4.2 != (0 : Int)))) (P_pick (b := (m5.2 != (9 : Int))) rfl (pick_f z5 rfl)) .plain rfl ?_
     refine EL_mw (.bool ((z4.2 != (0 : Int)))) rfl rfl ?_
     rcases csome h with ⟨a6, h⟩ | ⟨a6, h⟩
     ·cases h
     ·refine EL_pur (v := .int .i64 (c5.2)) (P_move rfl) (.yes2 rfl rfl a6) rfl ?_
      refine EL_pur (v := .bool ((c5.2 != (0 : Int)))) (P_int rfl rfl rfl) (.yes2 rfl rfl a6) rfl ?_
      refine EL_pur (v := .bool ((c5.2 != (0 : Int)))) (P_pick (b := (z4.2 != (0 : Int))) rfl (pick_f a6 rfl)) .plain rfl ?_
      refine EL_mw (.bool ((c5.2 != (0 : Int)))) rfl rfl ?_
      rcases csome h with ⟨b6, h⟩ | ⟨b6, h⟩
      ·cases h
      ·refine EL_pur (v := .int .i64 (j3.2.2)) (P_move rfl) (.yes2 rfl rfl b6) rfl ?_
       refine EL_pur (v := .bool ((j3.2.2 != (0 : Int)))) (P_int rfl rfl rfl) (.yes2 rfl rfl b6) rfl ?_
       refine EL_pur (v := .bool ((j3.2.2 != (0 : Int)))) (P_pick (b := (c5.2 != (0 : Int))) rfl (pick_f b6 rfl)) .plain rfl ?_
       refine EL_mw (.bool ((j3.2.2 != (0 : Int)))) rfl rfl ?_
       rcases csome h with ⟨c6, h⟩ | ⟨c6, h⟩
       ·cases h
       ·refine EL_pur (v := .int .i64 (d5.2)) (P_move rfl) (.yes2 rfl rfl c6) rfl ?_
        refine EL_pur (v := .bool ((d5.2 != (0 : Int)))) (P_int rfl rfl rfl) (.yes2 rfl rfl c6) rfl ?_
        refine EL_pur (v := .bool ((d5.2 != (0 : Int)))) (P_pick (b := (j3.2.2 != (0 : Int))) rfl (pick_f c6 rfl)) .plain rfl ?_
        refine EL_mw (.bool ((d5.2 != (0 : Int)))) rfl rfl ?_
        rcases csome h with ⟨d6, h⟩ | ⟨d6, h⟩
        ·cases h
        ·refine EL_pur (v := .int .i64 (i5.2)) (P_move rfl) (.yes2 rfl rfl d6) rfl ?_
         refine EL_pur (v := .bool ((i5.2 != (0 : Int)))) (P_int rfl rfl rfl) (.yes2 rfl rfl d6) rfl ?_
         refine EL_pur (v := .bool ((i5.2 != (0 : Int)))) (P_pick (b := (d5.2 != (0 : Int))) rfl (pick_f d6 rfl)) .plain rfl ?_
         refine EL_mw (.bool ((i5.2 != (0 : Int)))) rfl rfl ?_
         rcases csome h with ⟨i6, h⟩ | ⟨i6, h⟩
         ·cases h
         ·refine EL_pur (v := .int .i64 (u3.2.2)) (P_move rfl) (.yes2 rfl rfl i6) rfl ?_
          refine EL_pur (v := .bool ((u3.2.2 != (0 : Int)))) (P_int rfl rfl rfl) (.yes2 rfl rfl i6) rfl ?_
          refine EL_pur (v := .bool ((u3.2.2 != (0 : Int)))) (P_pick (b := (i5.2 != (0 : Int))) rfl (pick_f i6 rfl)) .plain rfl ?_
          refine EL_mw (.bool ((u3.2.2 != (0 : Int)))) rfl rfl ?_
          rcases csome h with ⟨j6, h⟩ | ⟨j6, h⟩
          ·cases h
          ·refine EL_pur (v := .int .i64 (y80.2)) (P_move rfl) (.yes2 rfl rfl j6) rfl ?_
           refine EL_pur (v := .bool ((y80.2 != (6 : Int)))) (P_int rfl rfl rfl) (.yes2 rfl rfl j6) rfl ?_
           refine EL_pur (v := .bool ((y80.2 != (6 : Int)))) (P_pick (b := (u3.2.2 != (0 : Int))) rfl (pick_f j6 rfl)) .plain rfl ?_
           refine EL_nil ?_
           obtain rfl := sinj h
           exact hQ _ _ ⟨iH, hfr, rfl, r7, o7, rfl, j0, rfl, o0, rfl, u0, rfl, b44, rfl, rfl, j2, rfl, d3, rfl, n4, rfl, o4, rfl, rfl⟩
  ·clear hx
   obtain ⟨aD, hfr, e9, g9, i9, j9, k9, l9, m9, n9, o9, p7, q7, t7, u7, x7, y7, z7, a8, b8, c8, d8, e8, r6⟩ := hR
   rcases csome h with ⟨a7, h⟩ | ⟨a7, h⟩
   ·refine E_cond_true (Eq.trans (show ev _ _ = .bool (p4) from r6) (congrArg Value.bool a7)) ?_
    refine E_seq (E_region (EL_at (.bool false) rfl rfl ?_))
    refine EL_nil (thn_n (E_ret (thn_r ?_)))
    obtain rfl := sinj h
    exact end1 rfl rfl (show _ = .bool false from rfl) ⟨_, hfr, rfl⟩
   ·refine E_cond_false (Eq.trans (show ev _ _ = .bool (p4) from r6) (congrArg Value.bool a7)) ?_
    exact E_skip (thn_n (zC () _ _ ⟨aD, hfr, e9, g9, i9, j9, k9, l9, m9, n9, o9, p7, q7, t7, u7, x7, y7, z7, a8, b8, c8, d8, e8⟩ h))
 ·rintro _ zH xJ ⟨bD, hfr, p9, q9, jH, r9, t9, u9, l5, v9, p3, i8, o3, j8, k8, i3, l8, z2, m8, z1, n8, j1, o8⟩ h
  obtain ⟨n5, hx, h⟩ := bsome h
  refine E_join (fun e w => ∃ (g : Gh) , Fr gI wI g w ∧ e 0 = .bool (n5)) (fun Q' hQ => ?_) (fun aI yJ hR => ?_)
  ·replace h := hx
   clear hx
   refine E_region (EL_mv r9 rfl ?_)
   refine EL_mv p9 rfl ?_
   obtain ⟨y157, aA, h⟩ := bsome h
   refine EL_do .plain rfl (D_call (g := bD) (vs := [u4, v7]) en22 (.cons rfl (.cons rfl .nil)) (wk22 t9 q9 aA) fun cD bI zJ hs hr => ?_)
   have hfr := hfr.ext hs
   have l5 := l5.ext hs
   have p3 := p3.ext hs
   have o3 := o3.ext hs
   have i3 := i3.ext hs
   have z2 := z2.ext hs
   have z1 := z1.ext hs
   have j1 := j1.ext hs
   subst hr
   refine EL_mw (.bool (y157)) rfl rfl ?_
   rcases csome h with ⟨o5, h⟩ | ⟨o5, h⟩
   ·refine EL_pur (v := z3) (P_move u9) (.yes2 rfl rfl o5) rfl ?_
    refine EL_do (.yes2 rfl rfl o5) rfl (D_buildSlice (g := cD) 3135 (xs := ([(0 : Int), (1 : Int), (2 : Int)] : List Int)) (vs := [.int .i64 (0), .int .i64 (1), .int .i64 (2)]) Try.underlying22 Try.sizeOf3 Try.zeroValue3 rfl rfl (.cons rfl (.cons rfl (.cons rfl .nil))) (RVs.cons (RV_int.2 rfl) (RVs.cons (RV_int.2 rfl) (RVs.cons (RV_int.2 rfl) RVs.nil))) rfl rfl fun dD aK eD hs o159 gD hxt hfl => ?_)
    have hfr := hfr.stp hs
    have l5 := l5.stp hs
    have p3 := p3.stp hs
    have o3 := o3.stp hs rfl
    have i3 := i3.stp hs
    have z2 := z2.stp hs
    have z1 := z1.stp hs
    have j1 := j1.stp hs
    obtain ⟨y161, bA, h⟩ := bsome h
    refine EL_do (.yes2 rfl rfl o5) rfl (D_call (g := dD) (vs := [z3, eD]) en28 (.cons rfl (.cons rfl .nil)) (wk28 l5 gD bA) fun iD cI bK hs hr => ?_)
    have hfr := hfr.ext hs
    have p3 := p3.ext hs
    have o3 := o3.ext hs
    have i3 := i3.ext hs
    have z2 := z2.ext hs
    have z1 := z1.ext hs
    have j1 := j1.ext hs
    subst hr
    refine EL_pur (v := .bool (y161)) (P_pick (b := y157) rfl (pick_t o5 rfl)) .plain rfl ?_
    refine EL_mw (.bool (y161)) rfl rfl ?_
    rcases csome h with ⟨p5, h⟩ | ⟨p5, h⟩
    ·refine EL_pur (v := c4) (P_move v9) (.yes2 rfl rfl p5) rfl ?_
     refine EL_do (.yes2 rfl rfl p5) rfl (D_buildSlice (g := iD) 3140 (xs := ([(0 : Int)] : List Int)) (vs := [.int .i64 (0)]) Try.underlying22 Try.sizeOf3 Try.zeroValue3 rfl rfl (.cons rfl .nil) (RVs.cons (RV_int.2 rfl) RVs.nil) rfl rfl fun jD cK kD hs o163 lD hxt hfl => ?_)
     have hfr := hfr.stp hs
     have p3 := p3.stp hs
     have o3 := o3.stp hs rfl
     have i3 := i3.stp hs
     have z2 := z2.stp hs
     have z1 := z1.stp hs
     have j1 := j1.stp hs
     obtain ⟨y165, cA, h⟩ := bsome h
     refine EL_do (.yes2 rfl rfl p5) rfl (D_call (g := jD) (vs := [c4, kD]) en28 (.cons rfl (.cons rfl .nil)) (wk28 p3 lD cA) fun l7 dA dK hs hr => ?_)
     have hfr := hfr.ext hs
     have o3 := o3.ext hs
     have i3 := i3.ext hs
     have z2 := z2.ext hs
     have z1 := z1.ext hs
     have j1 := j1.ext hs
     subst hr
     refine EL_pur (v := .bool (y165)) (P_pick (b := y161) rfl (pick_t p5 rfl)) .plain rfl ?_
     refine EL_mw (.bool (y165)) rfl rfl ?_
     rcases csome h with ⟨q5, h⟩ | ⟨q5, h⟩
     ·refine EL_do (.yes2 rfl rfl q5) rfl (D_loadO (g := l7) Try.isAgg48 Try.sizeOf48 i8 o3 fun eK mD => ?_)
      have x9 : RV l7.m dA (⟨0, (20 : Int)⟩ : Span) (.agg (setCh [[.int .i64 0], [.int .i64 0]] [(1, .int .i64 (20))]).flatten.toArray) := RV_build rfl (rep_pair (rep_int) (rep_last (rfl)))
      generalize eA : (Value.agg (setCh [[.int .i64 0], [.int .i64 0]] [(1, .int .i64 (20))]).flatten.toArray) = nD at x9
      refine EL_pur (v := nD) (eA ▸ P_build (vs := [(1, .int .i64 (20))]) [[.int .i64 0], [.int .i64 0]] lay_48 rfl rfl (.cons rfl .nil) ⟨⟨_, rfl, rfl⟩, trivial⟩) (.yes2 rfl rfl q5) rfl ?_
      refine EL_pur (v := .bool ((decide (j3.1 = (⟨0, (20 : Int)⟩ : Span))))) (P_seq seq_48 rfl eg_48 rfl rfl mD x9) (.yes2 rfl rfl q5) rfl ?_
      refine EL_pur (v := .bool ((decide (j3.1 = (⟨0, (20 : Int)⟩ : Span))))) (P_pick (b := y165) rfl (pick_t q5 rfl)) .plain rfl ?_
      refine EL_mw (.bool ((decide (j3.1 = (⟨0, (20 : Int)⟩ : Span))))) rfl rfl ?_
      rcases csome h with ⟨k6, h⟩ | ⟨k6, h⟩
      ·refine EL_pur (v := .int .i64 (j3.2.1)) (P_move j8) (.yes2 rfl rfl k6) rfl ?_
       refine EL_pur (v := .bool ((j3.2.1 == (45 : Int)))) (P_int rfl rfl rfl) (.yes2 rfl rfl k6) rfl ?_
       refine EL_pur (v := .bool ((j3.2.1 == (45 : Int)))) (P_pick (b := (decide (j3.1 = (⟨0, (20 : Int)⟩ : Span)))) rfl (pick_t k6 rfl)) .plain rfl ?_
       refine EL_mw (.bool ((j3.2.1 == (45 : Int)))) rfl rfl ?_
       rcases csome h with ⟨t5, h⟩ | ⟨t5, h⟩
       ·refine EL_pur (v := d4) (P_move k8) (.yes2 rfl rfl t5) rfl ?_
        refine EL_do (.yes2 rfl rfl t5) rfl (D_buildSlice (g := l7) 3154 (xs := ([(1 : Int)] : List Int)) (vs := [.int .i64 (1)]) Try.underlying22 Try.sizeOf3 Try.zeroValue3 rfl rfl (.cons rfl .nil) (RVs.cons (RV_int.2 rfl) RVs.nil) rfl rfl fun oD gK pD hs o171 qD hxt hfl => ?_)
        have hfr := hfr.stp hs
        have i3 := i3.stp hs
        have z2 := z2.stp hs
        have z1 := z1.stp hs
        have j1 := j1.stp hs
        obtain ⟨m6, gA, h⟩ := bsome h
        refine EL_do (.yes2 rfl rfl t5) rfl (D_call (g := oD) (vs := [d4, pD]) en28 (.cons rfl (.cons rfl .nil)) (wk28 i3 qD gA) fun rD dI iK hs hr => ?_)
        have hfr := hfr.ext hs
        have z2 := z2.ext hs
        have z1 := z1.ext hs
        have j1 := j1.ext hs
        subst hr
        refine EL_pur (v := .bool (m6)) (P_pick (b := (j3.2.1 == (45 : Int))) rfl (pick_t t5 rfl)) .plain rfl ?_
        refine EL_mw (.bool (m6)) rfl rfl ?_
        rcases csome h with ⟨u5, h⟩ | ⟨u5, h⟩
        ·refine EL_pur (v := i4) (P_move l8) (.yes2 rfl rfl u5) rfl ?_
         refine EL_do (.yes2 rfl rfl u5) rfl (D_buildSlice (g := rD) 3159 (xs := ([(0 : Int)] : List Int)) (vs := [.int .i64 (0)]) Try.underlying22 Try.sizeOf3 Try.zeroValue3 rfl rfl (.cons rfl .nil) (RVs.cons (RV_int.2 rfl) RVs.nil) rfl rfl fun sD jK tD hs o175 uD hxt hfl => ?_)
         have hfr := hfr.stp hs
         have z2 := z2.stp hs
         have z1 := z1.stp hs
         have j1 := j1.stp hs
         obtain ⟨y177, iA, h⟩ := bsome h
         refine EL_do (.yes2 rfl rfl u5) rfl (D_call (g := sD) (vs := [i4, tD]) en28 (.cons rfl (.cons rfl .nil)) (wk28 z2 uD iA) fun vD eI kK hs hr => ?_)
         have hfr := hfr.ext hs
         have z1 := z1.ext hs
         have j1 := j1.ext hs
         subst hr
         refine EL_pur (v := .bool (y177)) (P_pick (b := m6) rfl (pick_t u5 rfl)) .plain rfl ?_
         refine EL_mw (.bool (y177)) rfl rfl ?_
         rcases csome h with ⟨x4, h⟩ | ⟨x4, h⟩
         ·refine EL_pur (v := j4) (P_move m8) (.yes2 rfl rfl x4) rfl ?_
          obtain ⟨y180, jA, h⟩ := bsome h
          refine EL_do (.yes2 rfl rfl x4) rfl (D_call (g := vD) (vs := [.int .i64 (0), .int .i64 (0), .int .i64 (7)]) en46 (.cons rfl (.cons rfl (.cons rfl .nil))) (wk46  jA) fun xD iI yD hs hr => ?_)
          have hfr := hfr.ext hs
          have z1 := z1.ext hs
          have j1 := j1.ext hs
          have t6 := hr
          obtain ⟨e7, kA, h⟩ := bsome h
          refine EL_do (.yes2 rfl rfl x4) rfl (D_call (g := xD) (vs := [.int .i64 (1), .int .i64 (1), .int .i64 (0)]) en46 (.cons rfl (.cons rfl (.cons rfl .nil))) (wk46  kA) fun zD jI aE hs hr => ?_)
          have hfr := hfr.ext hs
          have z1 := z1.ext hs
          have j1 := j1.ext hs
          have t6 := t6.ext hs
          have m7 := hr
          obtain ⟨i7, lA, h⟩ := bsome h
          refine EL_do (.yes2 rfl rfl x4) rfl (D_call (g := zD) (vs := [.int .i64 (2), .int .i64 (0), .int .i64 (17)]) en46 (.cons rfl (.cons rfl (.cons rfl .nil))) (wk46  lA) fun bE kI cE hs hr => ?_)
          have hfr := hfr.ext hs
          have z1 := z1.ext hs
          have j1 := j1.ext hs
          have t6 := t6.ext hs
          have m7 := m7.ext hs
          have dE := hr
          refine EL_do (.yes2 rfl rfl x4) rfl (D_buildSlice (g := bE) 3167 (xs := ([y180, e7, i7] : List LoomRun)) (vs := [yD, aE, cE]) Try.underlying31 Try.sizeOf76 Try.zeroValue76 rfl rfl (.cons rfl (.cons rfl (.cons rfl .nil))) (RVs.cons t6 (RVs.cons m7 (RVs.cons dE RVs.nil))) rfl rfl fun eE lK gE hs o185 iE hxt hfl => ?_)
          have hfr := hfr.stp hs
          have z1 := z1.stp hs
          have j1 := j1.stp hs
          obtain ⟨n6, mA, h⟩ := bsome h
          refine EL_do (.yes2 rfl rfl x4) rfl (D_call (g := eE) (vs := [j4, gE]) en22 (.cons rfl (.cons rfl .nil)) (wk22 z1 iE mA) fun jE lI mK hs hr => ?_)
          have hfr := hfr.ext hs
          have j1 := j1.ext hs
          subst hr
          refine EL_pur (v := .bool (n6)) (P_pick (b := y177) rfl (pick_t x4 rfl)) .plain rfl ?_
          refine EL_mw (.bool (n6)) rfl rfl ?_
          rcases csome h with ⟨x5, h⟩ | ⟨x5, h⟩
          ·refine EL_pur (v := m4) (P_move n8) (.yes2 rfl rfl x5) rfl ?_
           refine EL_do (.yes2 rfl rfl x5) rfl (D_buildSlice (g := jE) 3172 (xs := ([(2 : Int)] : List Int)) (vs := [.int .i64 (2)]) Try.underlying22 Try.sizeOf3 Try.zeroValue3 rfl rfl (.cons rfl .nil) (RVs.cons (RV_int.2 rfl) RVs.nil) rfl rfl fun kE nK lE hs o189 mE hxt hfl => ?_)
           have hfr := hfr.stp hs
           have j1 := j1.stp hs
           obtain ⟨o6, nA, h⟩ := bsome h
           refine EL_do (.yes2 rfl rfl x5) rfl (D_call (g := kE) (vs := [m4, lE]) en28 (.cons rfl (.cons rfl .nil)) (wk28 j1 mE nA) fun nE mI oK hs hr => ?_)
           have hfr := hfr.ext hs
           subst hr
           refine EL_pur (v := .bool (o6)) (P_pick (b := n6) rfl (pick_t x5 rfl)) .plain rfl ?_
           refine EL_mw (.bool (o6)) rfl rfl ?_
           rcases csome h with ⟨l6, h⟩ | ⟨l6, h⟩
           ·refine EL_pur (v := .int .i64 (y80.1)) (P_move o8) (.yes2 rfl rfl l6) rfl ?_
            refine EL_pur (v := .bool ((y80.1 == (2 : Int)))) (P_int rfl rfl rfl) (.yes2 rfl rfl l6) rfl ?_
            refine EL_pur (v := .bool ((y80.1 == (2 : Int)))) (P_pick (b := o6) rfl (pick_t l6 rfl)) .plain rfl ?_
            refine EL_at (.bool ((y80.1 == (2 : Int)))) rfl rfl ?_
            refine EL_nil ?_
            obtain rfl := sinj h
            exact hQ _ _ ⟨nE, hfr, rfl⟩
           ·cases h
          ·cases h
         ·cases h
        ·cases h
       ·cases h
      ·cases h
     ·cases h
    ·cases h
   ·cases h
  ·clear hx
   obtain ⟨pK, hfr, z9⟩ := hR
   refine E_ret ?_
   obtain rfl := sinj h
   exact end1 rfl rfl (show _ = .bool (n5) from z9) ⟨_, hfr, rfl⟩
end Go.Proofs.Ytnfjhdagbknlbaa
