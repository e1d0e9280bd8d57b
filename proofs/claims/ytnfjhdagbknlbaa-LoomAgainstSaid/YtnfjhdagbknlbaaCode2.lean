import Derived.Test.YtnfjhdagbknlbaaCode1
set_option maxRecDepth 8000
set_option maxHeartbeats 4000000
namespace Go.Proofs.Ytnfjhdagbknlbaa
open Go.RowKit
def f89 (x0 : List Int) : Option (Int) :=
 jn (σ := Unit) (fun (_ : Unit) =>
  some ((0 : Int))
  ) fun l5 =>
 lp (σ := Int) (fun o5 o0 =>
  bif (decide (o0 < ((x0).length : Int))) then
   jn (σ := Unit) (fun (_ : Unit) =>
    o5 ((w64 (o0 + (1 : Int))))
    ) fun p5 =>
   (idx x0 o0).bind fun y23 =>
   bif (y23 != (0 : Int)) then
    some (y23)
   else
    p5 ()
  else
   l5 ()
  ) big ((0 : Int))
theorem en89 : Enters Try.prog 89 := enters_of Try.func89 (by kernel_rfl) rfl
theorem wk89 {gI : Gh} {wI : World} {x0 : List Int} {up0 : Value} (rp0 : RV gI.m wI x0 up0) {r : Int} (h : f89 x0 = some r) : Fn Try.prog 89 #[up0] gI wI (fun _ _ v => v = .int .i64 (r)) := by
 unfold f89 at h
 refine fn_of_E Try.func89 rfl (Nat.le_of_ble_eq_true rfl) fun g0 hm hfr => ?_
 have rp0 : RV g0.m wI x0 up0 := hm ▸ rp0
 show E _ 18 none _ _ _ _ _
 refine E_seq (E_region (EL_at (.int .i64 (0)) rfl rfl ?_))
 refine EL_nil (thn_n (E_seq (E_region (EL_at (.int .i64 (0)) rfl rfl ?_))))
 refine EL_nil (thn_n (E_joinC h (fun (s : Unit) e w => ∃ (g : Gh) , Fr gI wI g w ∧ e 3 = .int .i64 ((0 : Int))) (fun X14 l5 q5 h => ?_) ?_))
 ·refine E_seq (E_region (EL_mw up0 rfl rfl ?_))
  refine EL_pur (v := .int .i64 ((x0).length : Int)) (P_len Try.underlying22 rfl rp0) .plain rfl ?_
  refine EL_mw (.int .i64 (0)) rfl rfl ?_
  refine EL_nil (thn_n (E_block ?_))
  refine E_lp h (fun (s : Int) e w => ∃ (g : Gh) , Fr gI wI g w ∧ e 3 = .int .i64 ((0 : Int)) ∧ e 6 = up0 ∧ RV g.m w (x0 : List Int) up0 ∧ e 7 = .int .i64 (((x0).length : Int)) ∧ e 8 = .int .i64 (s)) ⟨g0, hfr, rfl, rfl, rp0, rfl, rfl⟩ (fun X15 o5 t5 => ?_)
  rintro o0 i6 v6 ⟨u3, hfr, u0, j3, j1, o3, z2⟩ h
  refine E_seq (E_region (EL_in (.bool ((decide (o0 < ((x0).length : Int))))) z2 o3 rfl rfl ?_))
  refine EL_nil (thn_n (E_seq ?_))
  rcases csome h with ⟨d3, h⟩ | ⟨d3, h⟩
  ·refine E_ct d3 rfl ?_
   refine E_skip (thn_n (E_joinC h (fun (s : Unit) e w => ∃ (g : Gh) , Fr gI wI g w ∧ e 3 = .int .i64 ((0 : Int)) ∧ e 6 = up0 ∧ RV g.m w (x0 : List Int) up0 ∧ e 7 = .int .i64 (((x0).length : Int)) ∧ e 8 = .int .i64 (o0)) (fun X22 p5 u5 h => ?_) ?_))
   ·refine E_block ?_
    refine E_seq (E_region ?_)
    obtain ⟨y23, z3, h⟩ := bsome h
    refine EL_pur (v := ePtr up0 o0 1) (P_indexAddr (α := Int) Try.underlying22 Try.sizeOf3 j3 j1 z2 z3) .plain rfl ?_
    have x5 := PT_idx j1 z3
    refine EL_do .plain rfl (D_load (g := u3) Try.isAgg3 Try.sizeOf3 rfl x5 fun x6 c6 => ?_)
    obtain rfl := RV_int.1 c6
    refine EL_at (.int .i64 (y23)) rfl rfl ?_
    refine EL_nil (thn_n (E_seq (E_region (EL_mw (.int .i64 (y23)) rfl rfl ?_))))
    refine EL_mv u0 rfl ?_
    refine EL_in (.bool ((y23 != (0 : Int)))) rfl rfl rfl rfl ?_
    refine EL_nil (thn_n ?_)
    rcases csome h with ⟨i3, h⟩ | ⟨i3, h⟩
    ·refine E_ct i3 rfl ?_
     refine E_seq (E_region (EL_mw (.int .i64 (y23)) rfl rfl ?_))
     refine EL_at (.int .i64 (y23)) rfl rfl ?_
     refine EL_nil (thn_n (E_ret (blk_r ?_)))
     refine thn_r ?_
     refine thn_r ?_
     refine blk_r ?_
     refine thn_r ?_
     obtain rfl := sinj h
     exact end1 rfl rfl (show _ = .int .i64 (y23) from rfl) ⟨_, hfr, rfl⟩
    ·refine E_cf i3 rfl ?_
     exact E_skip (blk_n (thn_n (u5 () _ _ ⟨u3, hfr, u0, j3, j1, o3, z2⟩ h)))
   ·rintro _ j6 y6 ⟨d6, hfr, d4, m4, p4, z4, d5⟩ h
    refine E_region (EL_in (.int .i64 ((w64 (o0 + (1 : Int))))) d5 rfl rfl rfl ?_)
    refine EL_mw (.int .i64 ((w64 (o0 + (1 : Int))))) rfl rfl ?_
    exact EL_nil (thn_n (t5 ((w64 (o0 + (1 : Int)))) _ _ ⟨d6, hfr, d4, m4, p4, z4, rfl⟩ h))
  ·refine E_cf d3 rfl ?_
   refine E_exit ?_
   refine thn_e ?_
   refine thn_e ?_
   refine blk_hit ?_
   exact thn_n (q5 () _ _ ⟨u3, hfr, u0⟩ h)
 ·rintro _ l6 z6 ⟨a7, hfr, i5⟩ h
  refine E_seq (E_region (EL_mv i5 rfl ?_))
  refine EL_at (.int .i64 ((0 : Int))) rfl rfl ?_
  refine EL_nil (thn_n (E_ret ?_))
  obtain rfl := sinj h
  exact end1 rfl rfl (show _ = .int .i64 ((0 : Int)) from rfl) ⟨_, hfr, rfl⟩
def f91 (x0 : List LoomRun) (x1 : LoomRun → Option Bool) : Option (Int) :=
 jn (σ := Unit) (fun (_ : Unit) =>
  some ((-1 : Int))
  ) fun k18 =>
 lp (σ := Int) (fun k19 o0 =>
  bif (decide (o0 < ((x0).length : Int))) then
   jn (σ := Unit) (fun (_ : Unit) =>
    k19 ((w64 (o0 + (1 : Int))))
    ) fun k28 =>
   (idx x0 o0).bind fun i5 =>
   (x1 i5).bind fun l5 =>
   bif l5 then
    some (o0)
   else
    k28 ()
  else
   k18 ()
  ) big ((0 : Int))
theorem en91 : Enters Try.prog 91 := enters_of Try.func91 (by kernel_rfl) rfl
theorem wk91 {gI : Gh} {wI : World} {x0 : List LoomRun} {x1 : LoomRun → Option Bool} {up0 : Value} (rp0 : RV gI.m wI x0 up0) {up1 : Value} (rp1 : FnV1 Try.prog x1 up1 gI wI) {r : Int} (h : f91 x0 x1 = some r) : Fn Try.prog 91 #[up0, up1] gI wI (fun _ _ v => v = .int .i64 (r)) := by
 unfold f91 at h
 refine fn_of_E Try.func91 rfl (Nat.le_of_ble_eq_true rfl) fun g0 hm hfr => ?_
 have rp0 : RV g0.m wI x0 up0 := hm ▸ rp0
 obtain ⟨ff1, fa1, fc1, rfl, fen1, fcl1⟩ := rp1
 show E _ 19 none _ _ _ _ _
 refine E_seq (E_region (EL_at (.int .i64 (0)) rfl rfl ?_))
 refine EL_nil (thn_n (E_joinC h (fun (s : Unit) e w => ∃ (g : Gh) , Fr gI wI g w) (fun X18 k18 o5 h => ?_) ?_))
 ·refine E_seq (E_region (EL_mw up0 rfl rfl ?_))
  refine EL_pur (v := .int .i64 ((x0).length : Int)) (P_len Try.underlying31 rfl rp0) .plain rfl ?_
  refine EL_mw (.int .i64 (0)) rfl rfl ?_
  refine EL_nil (thn_n (E_block ?_))
  refine E_lp h (fun (s : Int) e w => ∃ (g : Gh) , Fr gI wI g w ∧ e 0 = up0 ∧ RV g.m w (x0 : List LoomRun) up0 ∧ e 1 = (.func (.func ff1) fa1 fc1) ∧ e 7 = .int .i64 (((x0).length : Int)) ∧ e 8 = .int .i64 (s)) ⟨g0, hfr, rfl, rp0, rfl, rfl, rfl⟩ (fun X19 k19 p5 => ?_)
  rintro o0 j6 x6 ⟨u3, hfr, i3, u0, j3, o3, j1⟩ h
  refine E_seq (E_region (EL_in (.bool ((decide (o0 < ((x0).length : Int))))) j1 o3 rfl rfl ?_))
  refine EL_nil (thn_n (E_seq ?_))
  rcases csome h with ⟨z2, h⟩ | ⟨z2, h⟩
  ·refine E_ct z2 rfl ?_
   refine E_skip (thn_n (E_joinC h (fun (s : Unit) e w => ∃ (g : Gh) , Fr gI wI g w ∧ e 0 = up0 ∧ RV g.m w (x0 : List LoomRun) up0 ∧ e 1 = (.func (.func ff1) fa1 fc1) ∧ e 7 = .int .i64 (((x0).length : Int)) ∧ e 8 = .int .i64 (o0)) (fun X28 k28 q5 h => ?_) ?_))
   ·refine E_block ?_
    refine E_seq (E_region (EL_mv j1 rfl ?_))
    refine EL_at (.int .i64 (o0)) rfl rfl ?_
    refine EL_nil (thn_n (E_seq (E_region (EL_mv j3 rfl ?_))))
    refine EL_mv i3 rfl ?_
    refine EL_mw (.int .i64 (o0)) rfl rfl ?_
    obtain ⟨i5, z3, h⟩ := bsome h
    refine EL_pur (v := ePtr up0 o0 3) (P_indexAddr (α := LoomRun) Try.underlying31 Try.sizeOf76 rfl u0 rfl z3) .plain rfl ?_
    have u5 := PT_idx u0 z3
    refine EL_do .plain rfl (D_load (g := u3) Try.isAgg76 Try.sizeOf76 rfl u5 fun x5 c6 => ?_)
    obtain ⟨l5, t5, h⟩ := bsome h
    refine EL_do .plain rfl (D_callv (g := u3) (vs := [x5]) rfl fen1 (.cons rfl .nil) (fcl1 _ _ hfr.ch _ _ _  c6 t5) fun d6 y6 z6 hs hr => ?_)
    have hfr := hfr.ext hs
    have u0 := u0.ext hs
    obtain rfl := RV_bool.1 hr
    refine EL_nil (thn_n ?_)
    rcases csome h with ⟨d3, h⟩ | ⟨d3, h⟩
    ·refine E_ct d3 rfl ?_
     refine E_seq (E_region (EL_mw (.int .i64 (o0)) rfl rfl ?_))
     refine EL_at (.int .i64 (o0)) rfl rfl ?_
     refine EL_nil (thn_n (E_ret (blk_r ?_)))
     refine thn_r ?_
     refine thn_r ?_
     refine blk_r ?_
     refine thn_r ?_
     obtain rfl := sinj h
     exact end1 rfl rfl (show _ = .int .i64 (o0) from rfl) ⟨_, hfr, rfl⟩
    ·refine E_cf d3 rfl ?_
     exact E_skip (blk_n (thn_n (q5 () _ _ ⟨d6, hfr, i3, u0, j3, o3, j1⟩ h)))
   ·rintro _ l6 a7 ⟨i6, hfr, d4, m4, p4, z4, d5⟩ h
    refine E_region (EL_in (.int .i64 ((w64 (o0 + (1 : Int))))) d5 rfl rfl rfl ?_)
    refine EL_mw (.int .i64 ((w64 (o0 + (1 : Int))))) rfl rfl ?_
    exact EL_nil (thn_n (p5 ((w64 (o0 + (1 : Int)))) _ _ ⟨i6, hfr, d4, m4, p4, z4, rfl⟩ h))
  ·refine E_cf z2 rfl ?_
   refine E_exit ?_
   refine thn_e ?_
   refine thn_e ?_
   refine blk_hit ?_
   exact thn_n (o5 () _ _ ⟨u3, hfr⟩ h)
 ·rintro _ v6 b7 ⟨c7, hfr⟩ h
  refine E_seq (E_region (EL_at (.int .i64 (-1)) rfl rfl ?_))
  refine EL_nil (thn_n (E_ret ?_))
  obtain rfl := sinj h
  exact end1 rfl rfl (show _ = .int .i64 (-1) from rfl) ⟨_, hfr, rfl⟩
def f96 (x0 : Int) (z0 : Int) (z1 : Int) : Option (Bool) :=
 Option.bind (α := Bool) (
  bif (decide (x0 < z0)) then
   some (true)
  else
   some ((decide (x0 > z1)))
  ) fun o0 =>
 some (o0)
theorem en96 : Enters Try.prog 96 := enters_of Try.func96 (by kernel_rfl) rfl
theorem wk96 {gI : Gh} {wI : World} {x0 : Int} {z0 : Int} {z1 : Int} {pf0 : Value} (qf0 : PT gI.m wI z0 pf0) {pf1 : Value} (qf1 : PT gI.m wI z1 pf1) {r : Bool} (h : f96 x0 z0 z1 = some r) : Fn Try.prog 96 #[.int .i64 (x0), pf0, pf1] gI wI (fun _ _ v => v = .bool (r)) := by
 unfold f96 at h
 refine fn_of_E Try.func96 rfl (Nat.le_of_ble_eq_true rfl) fun g0 hm hfr => ?_
 have qf0 : PT g0.m wI z0 pf0 := hm ▸ qf0
 have qf1 : PT g0.m wI z1 pf1 := hm ▸ qf1
 show E _ 13 none _ _ _ _ _
 refine E_seq (E_region (EL_at (.bool false) rfl rfl ?_))
 refine EL_nil (thn_n ?_)
 obtain ⟨o0, hx, h⟩ := bsome h
 refine E_join (fun e w => ∃ (g : Gh) , Fr gI wI g w ∧ e 4 = .bool (o0)) (fun Q' hQ => ?_) (fun j1 w7 hR => ?_)
 ·replace h := hx
  clear hx
  refine E_region (EL_mw (.int .i64 (x0)) rfl rfl ?_)
  refine EL_do .plain rfl (D_load (g := g0) Try.isAgg3 Try.sizeOf3 rfl qf0 fun v4 r4 => ?_)
  obtain rfl := RV_int.1 r4
  refine EL_in (.bool ((decide (x0 < z0)))) rfl rfl rfl rfl ?_
  refine EL_mw (.bool ((decide (x0 < z0)))) rfl rfl ?_
  rcases csome h with ⟨hc5, h⟩ | ⟨hc5, h⟩
  ·refine EL_skip (.no2 rfl rfl hc5 rfl) rfl ?_
   refine EL_skip (.no2 rfl rfl hc5 rfl) rfl ?_
   refine EL_skip (.no2 rfl rfl hc5 rfl) rfl ?_
   refine EL_pur (v := .bool true) (P_pick (b := (decide (x0 < z0))) rfl (pick_t hc5 rfl)) .plain rfl ?_
   refine EL_at (.bool true) rfl rfl ?_
   refine EL_nil ?_
   obtain rfl := sinj h
   exact hQ _ _ ⟨g0, hfr, rfl⟩
  ·refine EL_pur (v := .int .i64 (x0)) (P_move rfl) (.yes2 rfl rfl hc5) rfl ?_
   refine EL_do (.yes2 rfl rfl hc5) rfl (D_load (g := g0) Try.isAgg3 Try.sizeOf3 rfl qf1 fun v6 r6 => ?_)
   obtain rfl := RV_int.1 r6
   refine EL_pur (v := .bool ((decide (x0 > z1)))) (P_int rfl rfl rfl) (.yes2 rfl rfl hc5) rfl ?_
   refine EL_pur (v := .bool ((decide (x0 > z1)))) (P_pick (b := (decide (x0 < z0))) rfl (pick_f hc5 rfl)) .plain rfl ?_
   refine EL_at (.bool ((decide (x0 > z1)))) rfl rfl ?_
   refine EL_nil ?_
   obtain rfl := sinj h
   exact hQ _ _ ⟨g0, hfr, rfl⟩
 ·clear hx
  obtain ⟨g7, hfr, u0⟩ := hR
  refine E_ret ?_
  obtain rfl := sinj h
  exact end1 rfl rfl (show _ = .bool (o0) from u0) ⟨_, hfr, rfl⟩
def f97 (x0 : List LoomOrder) (x1 : LoomOrder → Option Bool) : Option (Int) :=
 jn (σ := Unit) (fun (_ : Unit) =>
  some ((-1 : Int))
  ) fun k18 =>
 lp (σ := Int) (fun k19 o0 =>
  bif (decide (o0 < ((x0).length : Int))) then
   jn (σ := Unit) (fun (_ : Unit) =>
    k19 ((w64 (o0 + (1 : Int))))
    ) fun k28 =>
   (idx x0 o0).bind fun i5 =>
   (x1 i5).bind fun l5 =>
   bif l5 then
    some (o0)
   else
    k28 ()
  else
   k18 ()
  ) big ((0 : Int))
theorem en97 : Enters Try.prog 97 := enters_of Try.func97 (by kernel_rfl) rfl
theorem wk97 {gI : Gh} {wI : World} {x0 : List LoomOrder} {x1 : LoomOrder → Option Bool} {up0 : Value} (rp0 : RV gI.m wI x0 up0) {up1 : Value} (rp1 : FnV1 Try.prog x1 up1 gI wI) {r : Int} (h : f97 x0 x1 = some r) : Fn Try.prog 97 #[up0, up1] gI wI (fun _ _ v => v = .int .i64 (r)) := by
 unfold f97 at h
 refine fn_of_E Try.func97 rfl (Nat.le_of_ble_eq_true rfl) fun g0 hm hfr => ?_
 have rp0 : RV g0.m wI x0 up0 := hm ▸ rp0
 obtain ⟨ff1, fa1, fc1, rfl, fen1, fcl1⟩ := rp1
 show E _ 19 none _ _ _ _ _
 refine E_seq (E_region (EL_at (.int .i64 (0)) rfl rfl ?_))
 refine EL_nil (thn_n (E_joinC h (fun (s : Unit) e w => ∃ (g : Gh) , Fr gI wI g w) (fun X18 k18 o5 h => ?_) ?_))
 ·refine E_seq (E_region (EL_mw up0 rfl rfl ?_))
  refine EL_pur (v := .int .i64 ((x0).length : Int)) (P_len Try.underlying25 rfl rp0) .plain rfl ?_
  refine EL_mw (.int .i64 (0)) rfl rfl ?_
  refine EL_nil (thn_n (E_block ?_))
  refine E_lp h (fun (s : Int) e w => ∃ (g : Gh) , Fr gI wI g w ∧ e 0 = up0 ∧ RV g.m w (x0 : List LoomOrder) up0 ∧ e 1 = (.func (.func ff1) fa1 fc1) ∧ e 7 = .int .i64 (((x0).length : Int)) ∧ e 8 = .int .i64 (s)) ⟨g0, hfr, rfl, rp0, rfl, rfl, rfl⟩ (fun X19 k19 p5 => ?_)
  rintro o0 j6 x6 ⟨u3, hfr, i3, u0, j3, o3, j1⟩ h
  refine E_seq (E_region (EL_in (.bool ((decide (o0 < ((x0).length : Int))))) j1 o3 rfl rfl ?_))
  refine EL_nil (thn_n (E_seq ?_))
  rcases csome h with ⟨z2, h⟩ | ⟨z2, h⟩
  ·refine E_ct z2 rfl ?_
   refine E_skip (thn_n (E_joinC h (fun (s : Unit) e w => ∃ (g : Gh) , Fr gI wI g w ∧ e 0 = up0 ∧ RV g.m w (x0 : List LoomOrder) up0 ∧ e 1 = (.func (.func ff1) fa1 fc1) ∧ e 7 = .int .i64 (((x0).length : Int)) ∧ e 8 = .int .i64 (o0)) (fun X28 k28 q5 h => ?_) ?_))
   ·refine E_block ?_
    refine E_seq (E_region (EL_mv j1 rfl ?_))
    refine EL_at (.int .i64 (o0)) rfl rfl ?_
    refine EL_nil (thn_n (E_seq (E_region (EL_mv j3 rfl ?_))))
    refine EL_mv i3 rfl ?_
    refine EL_mw (.int .i64 (o0)) rfl rfl ?_
    obtain ⟨i5, z3, h⟩ := bsome h
    refine EL_pur (v := ePtr up0 o0 5) (P_indexAddr (α := LoomOrder) Try.underlying25 Try.sizeOf82 rfl u0 rfl z3) .plain rfl ?_
    have u5 := PT_idx u0 z3
    refine EL_do .plain rfl (D_load (g := u3) Try.isAgg82 Try.sizeOf82 rfl u5 fun x5 c6 => ?_)
    obtain ⟨l5, t5, h⟩ := bsome h
    refine EL_do .plain rfl (D_callv (g := u3) (vs := [x5]) rfl fen1 (.cons rfl .nil) (fcl1 _ _ hfr.ch _ _ _  c6 t5) fun d6 y6 z6 hs hr => ?_)
    have hfr := hfr.ext hs
    have u0 := u0.ext hs
    obtain rfl := RV_bool.1 hr
    refine EL_nil (thn_n ?_)
    rcases csome h with ⟨d3, h⟩ | ⟨d3, h⟩
    ·refine E_ct d3 rfl ?_
     refine E_seq (E_region (EL_mw (.int .i64 (o0)) rfl rfl ?_))
     refine EL_at (.int .i64 (o0)) rfl rfl ?_
     refine EL_nil (thn_n (E_ret (blk_r ?_)))
     refine thn_r ?_
     refine thn_r ?_
     refine blk_r ?_
     refine thn_r ?_
     obtain rfl := sinj h
     exact end1 rfl rfl (show _ = .int .i64 (o0) from rfl) ⟨_, hfr, rfl⟩
    ·refine E_cf d3 rfl ?_
     exact E_skip (blk_n (thn_n (q5 () _ _ ⟨d6, hfr, i3, u0, j3, o3, j1⟩ h)))
   ·rintro _ l6 a7 ⟨i6, hfr, d4, m4, p4, z4, d5⟩ h
    refine E_region (EL_in (.int .i64 ((w64 (o0 + (1 : Int))))) d5 rfl rfl rfl ?_)
    refine EL_mw (.int .i64 ((w64 (o0 + (1 : Int))))) rfl rfl ?_
    exact EL_nil (thn_n (p5 ((w64 (o0 + (1 : Int)))) _ _ ⟨i6, hfr, d4, m4, p4, z4, rfl⟩ h))
  ·refine E_cf z2 rfl ?_
   refine E_exit ?_
   refine thn_e ?_
   refine thn_e ?_
   refine blk_hit ?_
   exact thn_n (o5 () _ _ ⟨u3, hfr⟩ h)
 ·rintro _ v6 b7 ⟨c7, hfr⟩ h
  refine E_seq (E_region (EL_at (.int .i64 (-1)) rfl rfl ?_))
  refine EL_nil (thn_n (E_ret ?_))
  obtain rfl := sinj h
  exact end1 rfl rfl (show _ = .int .i64 (-1) from rfl) ⟨_, hfr, rfl⟩
def f99 (z0 : Int) (σ : Type) (cons : Cons σ Int) (s0 : σ) : Option σ :=
 lp (σ := σ × Int) (fun k2 (d5, o0) =>
  jn (σ := σ) (fun i3 =>
   k2 (i3, (bit64 .and (w64 (o0 - (1 : Int))) z0))
   ) fun x5 =>
  Option.bind (α := σ × Bool) (
   (cons d5 o0).bind fun (d3, z3) =>
   bif (!d3) then
    some (z3, true)
   else
    some (z3, (o0 == (0 : Int)))
   ) fun (z2, u0) =>
  bif u0 then
   some z2
  else
   x5 (z2)
  ) big (s0, z0)
theorem en99 : Enters Try.prog 99 := enters_of Try.func99 (by kernel_rfl) rfl
theorem wk99 {σ : Type} {cons : Cons σ Int} {s0 r : σ} {gI : Gh} {wI : World} {z0 : Int} {pf0 : Value} (qf0 : PT gI.m wI z0 pf0) (h : f99 z0 σ cons s0 = some r) : IterC Try.prog (RA1 (α := Int)) 99 #[] #[pf0] gI wI cons s0 r := by
 unfold f99 at h
 refine iter_of_E Try.func99 rfl (Nat.le_of_ble_eq_true rfl) fun l B J g0 hm hAb hRo hfr => ?_
 have qf0 : PT g0.m wI z0 pf0 := hm ▸ qf0
 show E _ 17 none _ _ (envAt #[.func (.yield l) #[] #[], pf0]) _ _
 refine E_seq (E_region (EL_do .plain rfl (D_load (g := g0) Try.isAgg3 Try.sizeOf3 rfl qf0 fun v1 r1 => ?_)))
 obtain rfl := RV_int.1 r1
 refine EL_at (.int .i64 (z0)) rfl rfl ?_
 refine EL_nil (thn_n (E_block ?_))
 refine E_lp h (fun (s : σ × Int) e w => ∃ (g : Gh) , FrY gI wI B J (s.1) g w ∧ e 0 = (.func (.yield l) #[] #[]) ∧ e 1 = pf0 ∧ PT g.m w (z0 : Int) pf0 ∧ e 3 = .int .i64 (s.2)) ⟨g0, hfr, rfl, rfl, qf0, rfl⟩ (fun X2 k2 hk2 => ?_)
 rintro ⟨d5, o0⟩ a7 w3 ⟨g3, hfr, d4, i5, j3, o3⟩ h
 refine E_joinC h (fun (s : σ) e w => ∃ (g : Gh) , FrY gI wI B J (s) g w ∧ e 0 = (.func (.yield l) #[] #[]) ∧ e 1 = pf0 ∧ PT g.m w (z0 : Int) pf0 ∧ e 3 = .int .i64 (o0)) (fun X12 x5 i6 h => ?_) ?_
 ·refine E_block ?_
  obtain ⟨⟨z2, u0⟩, hx, h⟩ := bsome h
  refine E_join (fun e w => ∃ (g : Gh) , FrY gI wI B J (z2) g w ∧ e 0 = (.func (.yield l) #[] #[]) ∧ e 1 = pf0 ∧ PT g.m w (z0 : Int) pf0 ∧ e 3 = .int .i64 (o0) ∧ e 16 = .bool (u0)) (fun Q' hQ => ?_) (fun y6 b7 hR => ?_)
  ·replace h := hx
   clear hx
   refine E_region (EL_mv d4 rfl ?_)
   refine EL_mv o3 rfl ?_
   obtain ⟨l6, j6, h⟩ := bsome h
   obtain ⟨d3, z3⟩ := l6
   refine EL_do .plain rfl (D_yield (g := g3) (x := o0) rfl (.cons rfl .nil) hRo hfr j6 ⟨_, rfl, (RV_int.2 rfl)⟩ fun c6 c7 hs hfrY => ?_)
   have j3 := j3.stp hs
   have hfr := hfrY
   clear hfrY
   refine EL_pur (v := .bool (!d3)) (P_not rfl) .plain rfl ?_
   refine EL_mw (.bool (!d3)) rfl rfl ?_
   rcases csome h with ⟨j1, h⟩ | ⟨j1, h⟩
   ·refine EL_skip (.no2 rfl rfl j1 rfl) rfl ?_
    refine EL_skip (.no2 rfl rfl j1 rfl) rfl ?_
    refine EL_pur (v := .bool true) (P_pick (b := (!d3)) rfl (pick_t j1 rfl)) .plain rfl ?_
    refine EL_nil ?_
    obtain ⟨rfl, rfl⟩ := pairs2 h
    exact hQ _ _ ⟨c6, hfr, d4, i5, j3, o3, rfl⟩
   ·refine EL_pur (v := .int .i64 (o0)) (P_move o3) (.yes2 rfl rfl j1) rfl ?_
    refine EL_pur (v := .bool ((o0 == (0 : Int)))) (P_int rfl rfl rfl) (.yes2 rfl rfl j1) rfl ?_
    refine EL_pur (v := .bool ((o0 == (0 : Int)))) (P_pick (b := (!d3)) rfl (pick_f j1 rfl)) .plain rfl ?_
    refine EL_nil ?_
    obtain ⟨rfl, rfl⟩ := pairs2 h
    exact hQ _ _ ⟨c6, hfr, d4, i5, j3, o3, rfl⟩
  ·clear hx
   obtain ⟨v6, hfr, l5, o5, p5, q5, u3⟩ := hR
   rcases csome h with ⟨m4, h⟩ | ⟨m4, h⟩
   ·refine E_cond_true (Eq.trans (show ev _ _ = .bool (u0) from u3) (congrArg Value.bool m4)) ?_
    refine E_ret (blk_r ?_)
    refine thn_r ?_
    refine thn_r ?_
    refine blk_r ?_
    obtain rfl := sinj h
    exact end0 rfl rfl (FrY.done hfr)
   ·refine E_cond_false (Eq.trans (show ev _ _ = .bool (u0) from u3) (congrArg Value.bool m4)) ?_
    exact E_skip (blk_n (thn_n (i6 (z2) _ _ ⟨v6, hfr, l5, o5, p5, q5⟩ h)))
 ·rintro i3 z6 d7 ⟨d6, hfr, t5, p4, z4, u5⟩ h
  refine E_region (EL_mv u5 rfl ?_)
  refine EL_in (.int .i64 ((w64 (o0 - (1 : Int))))) rfl rfl rfl rfl ?_
  refine EL_do .plain rfl (D_load (g := d6) Try.isAgg3 Try.sizeOf3 p4 z4 fun e7 x6 => ?_)
  obtain rfl := RV_int.1 x6
  refine EL_in (.int .i64 ((bit64 .and (w64 (o0 - (1 : Int))) z0))) rfl rfl rfl rfl ?_
  refine EL_at (.int .i64 ((bit64 .and (w64 (o0 - (1 : Int))) z0))) rfl rfl ?_
  exact EL_nil (thn_n (hk2 (i3, (bit64 .and (w64 (o0 - (1 : Int))) z0)) _ _ ⟨d6, hfr, t5, p4, z4, rfl⟩ h))
def f102 (x0 : Int) : Option (Bool) :=
 some ((x0 != x0))
theorem en102 : Enters Try.prog 102 := enters_of Try.func102 (by kernel_rfl) rfl
theorem wk102 {gI : Gh} {wI : World} {x0 : Int}  {r : Bool} (h : f102 x0 = some r) : Fn Try.prog 102 #[.int .i64 (x0)] gI wI (fun _ _ v => v = .bool (r)) := by
 unfold f102 at h
 refine fn_of_E Try.func102 rfl (Nat.le_of_ble_eq_true rfl) fun g0 hm hfr => ?_
 show E _ 6 none _ _ _ _ _
 refine E_seq (E_region (EL_at (.bool false) rfl rfl ?_))
 refine EL_nil (thn_n (E_seq (E_region (EL_mw (.int .i64 (x0)) rfl rfl ?_))))
 refine EL_mw (.int .i64 (x0)) rfl rfl ?_
 refine EL_in (.bool ((x0 != x0))) rfl rfl rfl rfl ?_
 refine EL_at (.bool ((x0 != x0))) rfl rfl ?_
 refine EL_nil (thn_n (E_ret ?_))
 obtain rfl := sinj h
 exact end1 rfl rfl (show _ = .bool ((x0 != x0)) from rfl) ⟨_, hfr, rfl⟩
def f103 (x0 : List Bool) (x1 : Bool) : Option (Int) :=
 jn (σ := Unit) (fun (_ : Unit) =>
  some ((-1 : Int))
  ) fun i5 =>
 lp (σ := Int) (fun l5 o0 =>
  bif (decide (o0 < ((x0).length : Int))) then
   jn (σ := Unit) (fun (_ : Unit) =>
    l5 ((w64 (o0 + (1 : Int))))
    ) fun o5 =>
   (idx x0 o0).bind fun y23 =>
   bif (x1 == y23) then
    some (o0)
   else
    o5 ()
  else
   i5 ()
  ) big ((0 : Int))
theorem en103 : Enters Try.prog 103 := enters_of Try.func103 (by kernel_rfl) rfl
theorem wk103 {gI : Gh} {wI : World} {x0 : List Bool} {x1 : Bool} {up0 : Value} (rp0 : RV gI.m wI x0 up0) {r : Int} (h : f103 x0 x1 = some r) : Fn Try.prog 103 #[up0, .bool (x1)] gI wI (fun _ _ v => v = .int .i64 (r)) := by
 unfold f103 at h
 refine fn_of_E Try.func103 rfl (Nat.le_of_ble_eq_true rfl) fun g0 hm hfr => ?_
 have rp0 : RV g0.m wI x0 up0 := hm ▸ rp0
 show E _ 19 none _ _ _ _ _
 refine E_seq (E_region (EL_at (.int .i64 (0)) rfl rfl ?_))
 refine EL_nil (thn_n (E_joinC h (fun (s : Unit) e w => ∃ (g : Gh) , Fr gI wI g w) (fun X14 i5 p5 h => ?_) ?_))
 ·refine E_seq (E_region (EL_mw up0 rfl rfl ?_))
  refine EL_pur (v := .int .i64 ((x0).length : Int)) (P_len Try.underlying101 rfl rp0) .plain rfl ?_
  refine EL_mw (.int .i64 (0)) rfl rfl ?_
  refine EL_nil (thn_n (E_block ?_))
  refine E_lp h (fun (s : Int) e w => ∃ (g : Gh) , Fr gI wI g w ∧ e 0 = up0 ∧ RV g.m w (x0 : List Bool) up0 ∧ e 1 = .bool (x1) ∧ e 7 = .int .i64 (((x0).length : Int)) ∧ e 8 = .int .i64 (s)) ⟨g0, hfr, rfl, rp0, rfl, rfl, rfl⟩ (fun X15 l5 q5 => ?_)
  rintro o0 d6 l6 ⟨u3, hfr, i3, u0, j3, o3, j1⟩ h
  refine E_seq (E_region (EL_in (.bool ((decide (o0 < ((x0).length : Int))))) j1 o3 rfl rfl ?_))
  refine EL_nil (thn_n (E_seq ?_))
  rcases csome h with ⟨z2, h⟩ | ⟨z2, h⟩
  ·refine E_ct z2 rfl ?_
   refine E_skip (thn_n (E_joinC h (fun (s : Unit) e w => ∃ (g : Gh) , Fr gI wI g w ∧ e 0 = up0 ∧ RV g.m w (x0 : List Bool) up0 ∧ e 1 = .bool (x1) ∧ e 7 = .int .i64 (((x0).length : Int)) ∧ e 8 = .int .i64 (o0)) (fun X22 o5 t5 h => ?_) ?_))
   ·refine E_block ?_
    refine E_seq (E_region (EL_mv j1 rfl ?_))
    refine EL_at (.int .i64 (o0)) rfl rfl ?_
    refine EL_nil (thn_n (E_seq (E_region (EL_mv j3 rfl ?_))))
    refine EL_mv i3 rfl ?_
    refine EL_mw (.int .i64 (o0)) rfl rfl ?_
    obtain ⟨y23, z3, h⟩ := bsome h
    refine EL_pur (v := ePtr up0 o0 1) (P_indexAddr (α := Bool) Try.underlying101 Try.sizeOf4 rfl u0 rfl z3) .plain rfl ?_
    have u5 := PT_idx u0 z3
    refine EL_do .plain rfl (D_load (g := u3) Try.isAgg4 Try.sizeOf4 rfl u5 fun v6 x5 => ?_)
    obtain rfl := RV_bool.1 x5
    refine EL_pur (v := .bool ((x1 == y23))) (P_bool Try.underlying4 rfl rfl rfl) .plain rfl ?_
    refine EL_nil (thn_n ?_)
    rcases csome h with ⟨d3, h⟩ | ⟨d3, h⟩
    ·refine E_ct d3 rfl ?_
     refine E_seq (E_region (EL_mw (.int .i64 (o0)) rfl rfl ?_))
     refine EL_at (.int .i64 (o0)) rfl rfl ?_
     refine EL_nil (thn_n (E_ret (blk_r ?_)))
     refine thn_r ?_
     refine thn_r ?_
     refine blk_r ?_
     refine thn_r ?_
     obtain rfl := sinj h
     exact end1 rfl rfl (show _ = .int .i64 (o0) from rfl) ⟨_, hfr, rfl⟩
    ·refine E_cf d3 rfl ?_
     exact E_skip (blk_n (thn_n (t5 () _ _ ⟨u3, hfr, i3, u0, j3, o3, j1⟩ h)))
   ·rintro _ i6 x6 ⟨c6, hfr, d4, m4, p4, z4, d5⟩ h
    refine E_region (EL_in (.int .i64 ((w64 (o0 + (1 : Int))))) d5 rfl rfl rfl ?_)
    refine EL_mw (.int .i64 ((w64 (o0 + (1 : Int))))) rfl rfl ?_
    exact EL_nil (thn_n (q5 ((w64 (o0 + (1 : Int)))) _ _ ⟨c6, hfr, d4, m4, p4, z4, rfl⟩ h))
  ·refine E_cf z2 rfl ?_
   refine E_exit ?_
   refine thn_e ?_
   refine thn_e ?_
   refine blk_hit ?_
   exact thn_n (p5 () _ _ ⟨u3, hfr⟩ h)
 ·rintro _ j6 y6 ⟨z6, hfr⟩ h
  refine E_seq (E_region (EL_at (.int .i64 (-1)) rfl rfl ?_))
  refine EL_nil (thn_n (E_ret ?_))
  obtain rfl := sinj h
  exact end1 rfl rfl (show _ = .int .i64 (-1) from rfl) ⟨_, hfr, rfl⟩
def f104 (x0 : List Int) (x1 : Int → Option Bool) : Option (Int) :=
 jn (σ := Unit) (fun (_ : Unit) =>
  some ((-1 : Int))
  ) fun k18 =>
 lp (σ := Int) (fun k19 o0 =>
  bif (decide (o0 < ((x0).length : Int))) then
   jn (σ := Unit) (fun (_ : Unit) =>
    k19 ((w64 (o0 + (1 : Int))))
    ) fun k28 =>
   (idx x0 o0).bind fun u3 =>
   (x1 u3).bind fun l5 =>
   bif l5 then
    some (o0)
   else
    k28 ()
  else
   k18 ()
  ) big ((0 : Int))
theorem en104 : Enters Try.prog 104 := enters_of Try.func104 (by kernel_rfl) rfl
theorem wk104 {gI : Gh} {wI : World} {x0 : List Int} {x1 : Int → Option Bool} {up0 : Value} (rp0 : RV gI.m wI x0 up0) {up1 : Value} (rp1 : FnV1 Try.prog x1 up1 gI wI) {r : Int} (h : f104 x0 x1 = some r) : Fn Try.prog 104 #[up0, up1] gI wI (fun _ _ v => v = .int .i64 (r)) := by
 unfold f104 at h
 refine fn_of_E Try.func104 rfl (Nat.le_of_ble_eq_true rfl) fun g0 hm hfr => ?_
 have rp0 : RV g0.m wI x0 up0 := hm ▸ rp0
 obtain ⟨ff1, fa1, fc1, rfl, fen1, fcl1⟩ := rp1
 show E _ 19 none _ _ _ _ _
 refine E_seq (E_region (EL_at (.int .i64 (0)) rfl rfl ?_))
 refine EL_nil (thn_n (E_joinC h (fun (s : Unit) e w => ∃ (g : Gh) , Fr gI wI g w) (fun X18 k18 o5 h => ?_) ?_))
 ·refine E_seq (E_region (EL_mw up0 rfl rfl ?_))
  refine EL_pur (v := .int .i64 ((x0).length : Int)) (P_len Try.underlying22 rfl rp0) .plain rfl ?_
  refine EL_mw (.int .i64 (0)) rfl rfl ?_
  refine EL_nil (thn_n (E_block ?_))
  refine E_lp h (fun (s : Int) e w => ∃ (g : Gh) , Fr gI wI g w ∧ e 0 = up0 ∧ RV g.m w (x0 : List Int) up0 ∧ e 1 = (.func (.func ff1) fa1 fc1) ∧ e 7 = .int .i64 (((x0).length : Int)) ∧ e 8 = .int .i64 (s)) ⟨g0, hfr, rfl, rp0, rfl, rfl, rfl⟩ (fun X19 k19 p5 => ?_)
  rintro o0 i6 v6 ⟨z3, hfr, i3, u0, j3, o3, j1⟩ h
  refine E_seq (E_region (EL_in (.bool ((decide (o0 < ((x0).length : Int))))) j1 o3 rfl rfl ?_))
  refine EL_nil (thn_n (E_seq ?_))
  rcases csome h with ⟨z2, h⟩ | ⟨z2, h⟩
  ·refine E_ct z2 rfl ?_
   refine E_skip (thn_n (E_joinC h (fun (s : Unit) e w => ∃ (g : Gh) , Fr gI wI g w ∧ e 0 = up0 ∧ RV g.m w (x0 : List Int) up0 ∧ e 1 = (.func (.func ff1) fa1 fc1) ∧ e 7 = .int .i64 (((x0).length : Int)) ∧ e 8 = .int .i64 (o0)) (fun X28 k28 q5 h => ?_) ?_))
   ·refine E_block ?_
    refine E_seq (E_region (EL_mv j1 rfl ?_))
    refine EL_at (.int .i64 (o0)) rfl rfl ?_
    refine EL_nil (thn_n (E_seq (E_region (EL_mv j3 rfl ?_))))
    refine EL_mv i3 rfl ?_
    refine EL_mw (.int .i64 (o0)) rfl rfl ?_
    obtain ⟨u3, d4, h⟩ := bsome h
    refine EL_pur (v := ePtr up0 o0 1) (P_indexAddr (α := Int) Try.underlying22 Try.sizeOf3 rfl u0 rfl d4) .plain rfl ?_
    have u5 := PT_idx u0 d4
    refine EL_do .plain rfl (D_load (g := z3) Try.isAgg3 Try.sizeOf3 rfl u5 fun x6 x5 => ?_)
    obtain rfl := RV_int.1 x5
    obtain ⟨l5, t5, h⟩ := bsome h
    refine EL_do .plain rfl (D_callv (g := z3) (vs := [.int .i64 (u3)]) rfl fen1 (.cons rfl .nil) (fcl1 _ _ hfr.ch _ _ _  (RV_int.2 rfl) t5) fun c6 y6 z6 hs hr => ?_)
    have hfr := hfr.ext hs
    have u0 := u0.ext hs
    obtain rfl := RV_bool.1 hr
    refine EL_nil (thn_n ?_)
    rcases csome h with ⟨d3, h⟩ | ⟨d3, h⟩
    ·refine E_ct d3 rfl ?_
     refine E_seq (E_region (EL_mw (.int .i64 (o0)) rfl rfl ?_))
     refine EL_at (.int .i64 (o0)) rfl rfl ?_
     refine EL_nil (thn_n (E_ret (blk_r ?_)))
     refine thn_r ?_
     refine thn_r ?_
     refine blk_r ?_
     refine thn_r ?_
     obtain rfl := sinj h
     exact end1 rfl rfl (show _ = .int .i64 (o0) from rfl) ⟨_, hfr, rfl⟩
    ·refine E_cf d3 rfl ?_
     exact E_skip (blk_n (thn_n (q5 () _ _ ⟨c6, hfr, i3, u0, j3, o3, j1⟩ h)))
   ·rintro _ j6 a7 ⟨d6, hfr, m4, p4, z4, d5, i5⟩ h
    refine E_region (EL_in (.int .i64 ((w64 (o0 + (1 : Int))))) i5 rfl rfl rfl ?_)
    refine EL_mw (.int .i64 ((w64 (o0 + (1 : Int))))) rfl rfl ?_
    exact EL_nil (thn_n (p5 ((w64 (o0 + (1 : Int)))) _ _ ⟨d6, hfr, m4, p4, z4, d5, rfl⟩ h))
  ·refine E_cf z2 rfl ?_
   refine E_exit ?_
   refine thn_e ?_
   refine thn_e ?_
   refine blk_hit ?_
   exact thn_n (o5 () _ _ ⟨z3, hfr⟩ h)
 ·rintro _ l6 b7 ⟨c7, hfr⟩ h
  refine E_seq (E_region (EL_at (.int .i64 (-1)) rfl rfl ?_))
  refine EL_nil (thn_n (E_ret ?_))
  obtain rfl := sinj h
  exact end1 rfl rfl (show _ = .int .i64 (-1) from rfl) ⟨_, hfr, rfl⟩
def f105 (x0 : LoomLoomMill) (x1 : Int) (x2 : Int) (x3 : Int) (x4 : List (Int × LoomRun)) : Option (Int) :=
 (idx ((x0).orders) x1).bind fun y4 =>
 jn (σ := Int) (fun u0 =>
  jn (σ := Unit) (fun (_ : Unit) =>
   some (u0)
   ) fun z6 =>
  Option.bind (α := Bool) (
   (idx (((x0).LoomMill).Widths) x2).bind fun d3 =>
   bif (decide ((y4).Width > d3)) then
    some (true)
   else
    some ((decide ((w64 (u0 + (y4).Woven)) > (y4).Late)))
   ) fun i3 =>
  bif i3 then
   some ((1048576 : Int))
  else
   z6 ()
  ) fun a7 =>
 bif ((mget x4 x1).isSome) then
  jn (σ := Unit) (fun (_ : Unit) =>
   a7 ((((mget x4 x1).getD (⟨0, 0, 0⟩ : LoomRun))).From)
   ) fun k60 =>
  Option.bind (α := Bool) (
   bif ((((mget x4 x1).getD (⟨0, 0, 0⟩ : LoomRun))).Loom != x2) then
    some (true)
   else
    some ((decide ((((mget x4 x1).getD (⟨0, 0, 0⟩ : LoomRun))).From < (max64 (y4).Early x3))))
   ) fun j3 =>
  bif j3 then
   some ((1048576 : Int))
  else
   k60 ()
 else
  a7 ((max64 (y4).Early x3))
theorem en105 : Enters Try.prog 105 := enters_of Try.func105 (by kernel_rfl) rfl
theorem wk105 {gI : Gh} {wI : World} {x0 : LoomLoomMill} {x1 : Int} {x2 : Int} {x3 : Int} {x4 : List (Int × LoomRun)} {up0 : Value} (rp0 : RV gI.m wI x0 up0) {up4 : Value} (mq4 : MR (Value.int .i64) gI wI x4 up4) {r : Int} (h : f105 x0 x1 x2 x3 x4 = some r) : Fn Try.prog 105 #[up0, .int .i64 (x1), .int .i64 (x2), .int .i64 (x3), up4] gI wI (fun _ _ v => v = .int .i64 (r)) := by
 unfold f105 at h
 refine fn_of_E Try.func105 rfl (Nat.le_of_ble_eq_true rfl) fun g0 hm hfr => ?_
 have rp0 : RV g0.m wI x0 up0 := hm ▸ rp0
 have mq4 := MQ.enter mq4 hm hfr
 show E _ 62 none _ _ _ _ _
 refine E_seq (E_region (EL_do .plain rfl (D_box (g := g0) rfl rp0 fun g1 w1 p1 hs q1 => ?_)))
 have hfr := hfr.ext hs
 have mq4 := mq4.ext hs
 refine EL_at (.int .i64 (0)) rfl rfl ?_
 refine EL_nil (thn_n (E_seq (E_region (EL_pur (v := fPtr p1 2) (P_fieldAddr at_96_1 rfl (PT.ptr q1)) .plain rfl ?_))))
 have q2 := PT_field (part_LoomLoomMill_1).1 q1
 refine EL_do .plain rfl (D_load (g := g1) Try.isAgg25 Try.sizeOf25 rfl q2 fun v3 r3 => ?_)
 refine EL_mw (.int .i64 (x1)) rfl rfl ?_
 obtain ⟨y4, o8, h⟩ := bsome h
 refine EL_pur (v := ePtr v3 x1 5) (P_indexAddr (α := LoomOrder) Try.underlying25 Try.sizeOf82 rfl r3 rfl o8) .plain rfl ?_
 have q5 := PT_idx r3 o8
 refine EL_do .plain rfl (D_load (g := g1) Try.isAgg82 Try.sizeOf82 rfl q5 fun v6 r6 => ?_)
 refine EL_do .plain rfl (D_allocOc (g := g1) 2011 (⟨0, 0, 0, 0, 0⟩ : LoomOrder) Try.zeroValue82 (fun m w => ⟨_, (rep_two rep_int (rep_two rep_int (rep_two rep_int (rep_two rep_int rep_int)))), rfl⟩) fun g7 w7 p7 hs b7 cb => ?_)
 have hfr := hfr.stp hs
 have mq4 := mq4.stp hs
 have q1 := q1.stp hs
 have r6 := r6.stp hs
 clear cb
 refine EL_do .plain rfl (D_storeOc (g := g7) (v := v6) Try.sizeOf82 rfl b7 rfl r6 fun g8 w8 hs b8 cb => ?_)
 clear cb
 have hfr := hfr.stp hs
 have mq4 := mq4.stp hs
 have q1 := q1.stp hs
 refine EL_nil (thn_n (E_seq (E_region (EL_pur (v := fPtr p7 3) (P_fieldAddr at_82_3 rfl (OB.ptr b8)) .plain rfl ?_))))
 refine EL_do .plain rfl (D_loadF (g := g8) part_LoomOrder_3.1 Try.isAgg3 Try.sizeOf3 rfl b8 fun kA i9 => ?_)
 obtain rfl := RV_int.1 i9
 refine EL_mw (.int .i64 (x3)) rfl rfl ?_
 refine EL_pur (v := .int .i64 (max64 (y4).Early x3)) (P_max rfl rfl) .plain rfl ?_
 refine EL_at (.int .i64 (max64 (y4).Early x3)) rfl rfl ?_
 refine EL_nil (thn_n (E_joinC h (fun (s : Int) e w => ∃ (g : Gh) , Fr gI wI g w ∧ e 2 = .int .i64 (x2) ∧ e 5 = p1 ∧ PT g.m w (x0 : LoomLoomMill) p1 ∧ e 11 = p7 ∧ OB 2011 g w 82 (y4 : LoomOrder) p7 ∧ e 12 = .int .i64 (s)) (fun X43 a7 c7 h => ?_) ?_))
 ·refine E_seq (E_region (EL_mw up4 rfl rfl ?_))
  refine EL_mw (.int .i64 (x1)) rfl rfl ?_
  refine EL_do .plain rfl (D_lookupOkR (g := g8) (z0 := (⟨0, 0, 0⟩ : LoomRun)) Try.underlying100 key_3 Try.zeroValue76 (fun m w => ⟨_, (rep_two rep_int (rep_two rep_int rep_int)), rfl⟩) rfl mq4.r rfl fun d7 e7 => ?_)
  refine EL_mw (.tuple #[d7, .bool ((mget x4 x1).isSome)]) rfl rfl ?_
  refine EL_pur (v := d7) (P_extract rfl rfl) .plain rfl ?_
  refine EL_pur (v := .bool ((mget x4 x1).isSome)) (P_extract rfl rfl) .plain rfl ?_
  refine EL_do .plain rfl (D_allocOc (g := g8) 2013 (⟨0, 0, 0⟩ : LoomRun) Try.zeroValue76 (fun m w => ⟨_, (rep_two rep_int (rep_two rep_int rep_int)), rfl⟩) fun j9 lA u3 hs b45 cb => ?_)
  have hfr := hfr.stp hs
  have q1 := q1.stp hs
  have b8 := b8.stp hs rfl
  have e7 := e7.stp hs
  clear cb
  refine EL_do .plain rfl (D_storeOc (g := j9) (v := d7) Try.sizeOf76 rfl b45 rfl e7 fun i5 mA hs b46 cb => ?_)
  clear cb
  have hfr := hfr.stp hs
  have q1 := q1.stp hs
  have b8 := b8.stp hs rfl
  refine EL_at (.bool ((mget x4 x1).isSome)) rfl rfl ?_
  refine EL_nil (thn_n (E_seq (E_region (EL_mw (.bool ((mget x4 x1).isSome)) rfl rfl ?_))))
  refine EL_nil (thn_n ?_)
  rcases csome h with ⟨p5, h⟩ | ⟨p5, h⟩
  ·refine E_ct p5 rfl ?_
   refine E_joinC h (fun (s : Unit) e w => ∃ (g : Gh) , Fr gI wI g w ∧ e 2 = .int .i64 (x2) ∧ e 5 = p1 ∧ PT g.m w (x0 : LoomLoomMill) p1 ∧ e 11 = p7 ∧ OB 2011 g w 82 (y4 : LoomOrder) p7 ∧ e 13 = u3 ∧ OB 2013 g w 76 (((mget x4 x1).getD (⟨0, 0, 0⟩ : LoomRun)) : LoomRun) u3) (fun X60 k60 r8 h => ?_) ?_
   ·obtain ⟨j3, hx, h⟩ := bsome h
    refine E_join (fun e w => ∃ (g : Gh) , Fr gI wI g w ∧ e 2 = .int .i64 (x2) ∧ e 5 = p1 ∧ PT g.m w (x0 : LoomLoomMill) p1 ∧ e 11 = p7 ∧ OB 2011 g w 82 (y4 : LoomOrder) p7 ∧ e 13 = u3 ∧ OB 2013 g w 76 (((mget x4 x1).getD (⟨0, 0, 0⟩ : LoomRun)) : LoomRun) u3 ∧ e 40 = .bool (j3)) (fun Q' hQ => ?_) (fun r9 nA hR => ?_)
    ·replace h := hx
     clear hx
     refine E_region (EL_pur (v := fPtr u3 1) (P_fieldAddr at_76_1 rfl (OB.ptr b46)) .plain rfl ?_)
     refine EL_do .plain rfl (D_loadF (g := i5) part_LoomRun_1.1 Try.isAgg3 Try.sizeOf3 rfl b46 fun oA k9 => ?_)
     obtain rfl := RV_int.1 k9
     refine EL_mw (.int .i64 (x2)) rfl rfl ?_
     refine EL_in (.bool (((((mget x4 x1).getD (⟨0, 0, 0⟩ : LoomRun))).Loom != x2))) rfl rfl rfl rfl ?_
     refine EL_mw (.bool (((((mget x4 x1).getD (⟨0, 0, 0⟩ : LoomRun))).Loom != x2))) rfl rfl ?_
     rcases csome h with ⟨j1, h⟩ | ⟨j1, h⟩
     ·refine EL_skip (.no2 rfl rfl j1 rfl) rfl ?_
      refine EL_skip (.no2 rfl rfl j1 rfl) rfl ?_
      refine EL_skip (.no2 rfl rfl j1 rfl) rfl ?_
      refine EL_skip (.no2 rfl rfl j1 rfl) rfl ?_
      refine EL_pur (v := .bool true) (P_pick (b := ((((mget x4 x1).getD (⟨0, 0, 0⟩ : LoomRun))).Loom != x2)) rfl (pick_t j1 rfl)) .plain rfl ?_
      refine EL_nil ?_
      obtain rfl := sinj h
      exact hQ _ _ ⟨i5, hfr, rfl, rfl, q1, rfl, b8, rfl, b46, rfl⟩
     ·refine EL_pur (v := fPtr u3 2) (P_fieldAddr at_76_2 rfl (OB.ptr b46)) (.yes2 rfl rfl j1) rfl ?_
      refine EL_do (.yes2 rfl rfl j1) rfl (D_loadF (g := i5) part_LoomRun_2.1 Try.isAgg3 Try.sizeOf3 rfl b46 fun pA l9 => ?_)
      obtain rfl := RV_int.1 l9
      refine EL_pur (v := .int .i64 (max64 (y4).Early x3)) (P_move rfl) (.yes2 rfl rfl j1) rfl ?_
      refine EL_pur (v := .bool ((decide ((((mget x4 x1).getD (⟨0, 0, 0⟩ : LoomRun))).From < (max64 (y4).Early x3))))) (P_int rfl rfl rfl) (.yes2 rfl rfl j1) rfl ?_
      refine EL_pur (v := .bool ((decide ((((mget x4 x1).getD (⟨0, 0, 0⟩ : LoomRun))).From < (max64 (y4).Early x3))))) (P_pick (b := ((((mget x4 x1).getD (⟨0, 0, 0⟩ : LoomRun))).Loom != x2)) rfl (pick_f j1 rfl)) .plain rfl ?_
      refine EL_nil ?_
      obtain rfl := sinj h
      exact hQ _ _ ⟨i5, hfr, rfl, rfl, q1, rfl, b8, rfl, b46, rfl⟩
    ·clear hx
     obtain ⟨n9, hfr, u7, v7, c8, i7, j7, m7, n7, l5⟩ := hR
     rcases csome h with ⟨t5, h⟩ | ⟨t5, h⟩
     ·refine E_cond_true (Eq.trans (show ev _ _ = .bool (j3) from l5) (congrArg Value.bool t5)) ?_
      refine E_seq (E_region (EL_at (.int .i64 (1048576)) rfl rfl ?_))
      refine EL_nil (thn_n (E_ret (thn_r ?_)))
      refine thn_r ?_
      obtain rfl := sinj h
      exact end1 rfl rfl (show _ = .int .i64 (1048576) from rfl) ⟨_, hfr, rfl⟩
     ·refine E_cond_false (Eq.trans (show ev _ _ = .bool (j3) from l5) (congrArg Value.bool t5)) ?_
      exact E_skip (thn_n (r8 () _ _ ⟨n9, hfr, u7, v7, c8, i7, j7, m7, n7⟩ h))
   ·rintro _ t9 qA ⟨p8, hfr, e8, i8, k8, o7, q7, t7, o5⟩ h
    refine E_region (EL_pur (v := fPtr u3 2) (P_fieldAddr at_76_2 t7 (OB.ptr o5)) .plain rfl ?_)
    refine EL_do .plain rfl (D_loadF (g := p8) part_LoomRun_2.1 Try.isAgg3 Try.sizeOf3 rfl o5 fun rA o9 => ?_)
    obtain rfl := RV_int.1 o9
    refine EL_at (.int .i64 ((((mget x4 x1).getD (⟨0, 0, 0⟩ : LoomRun))).From)) rfl rfl ?_
    exact EL_nil (thn_n (c7 ((((mget x4 x1).getD (⟨0, 0, 0⟩ : LoomRun))).From) _ _ ⟨p8, hfr, e8, i8, k8, o7, q7, rfl⟩ h))
  ·refine E_cf p5 rfl ?_
   exact E_skip (thn_n (c7 ((max64 (y4).Early x3)) _ _ ⟨i5, hfr, rfl, rfl, q1, rfl, b8, rfl⟩ h))
 ·rintro u0 u9 sA ⟨q8, hfr, c6, d6, m4, o3, z2, z3⟩ h
  refine E_joinC h (fun (s : Unit) e w => ∃ (g : Gh) , Fr gI wI g w ∧ e 12 = .int .i64 (u0)) (fun X197 z6 l8 h => ?_) ?_
  ·obtain ⟨i3, hx, h⟩ := bsome h
   refine E_join (fun e w => ∃ (g : Gh) , Fr gI wI g w ∧ e 12 = .int .i64 (u0) ∧ e 60 = .bool (i3)) (fun Q' hQ => ?_) (fun p9 y9 hR => ?_)
   ·replace h := hx
    clear hx
    refine L_loadO (x := .tmp 43) part_LoomOrder_0.1 Try.isAgg3 Try.sizeOf3 z2 fun z9 t8 i6 => ?_
    obtain rfl := RV_int.1 t8
    have u5 := PT_field (part_LoomLoomMill_0).1 m4
    have v8 := PT_field (part_LoomMill_0).1 u5
    refine L_load (x := .tmp 46) Try.isAgg22 Try.sizeOf22 v8 fun p4 x5 j6 => ?_
    obtain ⟨d3, z4, h⟩ := bsome h
    have x8 := PT_idx x5 z4
    refine L_load (x := .tmp 49) Try.isAgg3 Try.sizeOf3 x8 fun bA y8 l6 => ?_
    obtain rfl := RV_int.1 y8
    rcases csome h with ⟨o0, h⟩ | ⟨o0, h⟩
    ·refine E_drawL (g := q8) (n := 18) [] [0, 1, 2, 3, 4, 5, 6, 7, 8, 9, 10, 11, 12, 13, 14, 15, 16, 17] rfl mixed (by kernel_rfl) trivial ?_
     refine L_pur (c := fPtr p7 0) rfl rfl .plain (fun _ _ hd => P_fieldAddr at_82_0 o3 (OB.ptr z2)) ?_
     refine L_ld (c := .int .i64 ((y4).Width)) rfl rfl .plain (fun _ _ h => ⟨h.ch, fun b hb _ => h.below.block b hb⟩) i6 rfl ?_
     refine L_pur (c := fPtr p1 0) rfl rfl .plain (fun _ _ hd => P_fieldAddr at_96_0 d6 (PT.ptr m4)) ?_
     refine L_pur (c := fPtr (fPtr p1 0) 0) rfl rfl .plain (fun _ _ hd => P_fieldAddr at_24_0 rfl (PT.ptr u5)) ?_
     refine L_ld (c := p4) rfl rfl .plain (fun _ _ h => h.ch) j6 rfl ?_
     refine L_pur (c := .int .i64 (x2)) rfl rfl .plain (fun _ _ hd => P_move c6) ?_
     refine L_pur (c := ePtr p4 x2 1) rfl rfl .plain (fun _ _ hd => P_indexAddr (α := Int) Try.underlying22 Try.sizeOf3 rfl x5 rfl z4) ?_
     refine L_ld (c := .int .i64 (d3)) rfl rfl .plain (fun _ _ h => h.ch) l6 rfl ?_
     refine L_pur (c := .bool ((decide ((y4).Width > d3)))) rfl rfl .plain (fun _ _ hd => P_int rfl rfl rfl) ?_
     refine L_pur (c := .bool ((decide ((y4).Width > d3)))) rfl rfl .plain (fun _ _ hd => P_move rfl) ?_
     refine L_skip rfl (.no2 rfl rfl o0 rfl) ?_
     refine L_skip rfl (.no2 rfl rfl o0 rfl) ?_
     refine L_skip rfl (.no2 rfl rfl o0 rfl) ?_
     refine L_skip rfl (.no2 rfl rfl o0 rfl) ?_
     refine L_skip rfl (.no2 rfl rfl o0 rfl) ?_
     refine L_skip rfl (.no2 rfl rfl o0 rfl) ?_
     refine L_skip rfl (.no2 rfl rfl o0 rfl) ?_
     refine L_pur (c := .bool true) rfl rfl .plain (fun _ _ hd => P_pick (b := (decide ((y4).Width > d3))) rfl (pick_t o0 rfl)) ?_
     refine L_nil fun z8 cA hall => ?_
     have hs := hall.1
     have hfr := hfr.ext hs
     clear hs hall
     refine EL_nil ?_
     obtain rfl := sinj h
     exact hQ _ _ ⟨z8, hfr, z3, rfl⟩
    ·refine L_loadO (x := .tmp 54) part_LoomOrder_2.1 Try.isAgg3 Try.sizeOf3 z2 fun dA a9 m8 => ?_
     obtain rfl := RV_int.1 a9
     refine L_loadO (x := .tmp 57) part_LoomOrder_4.1 Try.isAgg3 Try.sizeOf3 z2 fun eA d9 n8 => ?_
     obtain rfl := RV_int.1 d9
     refine E_drawL (g := q8) (n := 18) [] [0, 1, 2, 3, 4, 5, 6, 7, 8, 9, 10, 11, 12, 13, 14, 15, 16, 17] rfl mixed (by kernel_rfl) trivial ?_
     refine L_pur (c := fPtr p7 0) rfl rfl .plain (fun _ _ hd => P_fieldAddr at_82_0 o3 (OB.ptr z2)) ?_
     refine L_ld (c := .int .i64 ((y4).Width)) rfl rfl .plain (fun _ _ h => ⟨h.ch, fun b hb _ => h.below.block b hb⟩) i6 rfl ?_
     refine L_pur (c := fPtr p1 0) rfl rfl .plain (fun _ _ hd => P_fieldAddr at_96_0 d6 (PT.ptr m4)) ?_
     refine L_pur (c := fPtr (fPtr p1 0) 0) rfl rfl .plain (fun _ _ hd => P_fieldAddr at_24_0 rfl (PT.ptr u5)) ?_
     refine L_ld (c := p4) rfl rfl .plain (fun _ _ h => h.ch) j6 rfl ?_
     refine L_pur (c := .int .i64 (x2)) rfl rfl .plain (fun _ _ hd => P_move c6) ?_
     refine L_pur (c := ePtr p4 x2 1) rfl rfl .plain (fun _ _ hd => P_indexAddr (α := Int) Try.underlying22 Try.sizeOf3 rfl x5 rfl z4) ?_
     refine L_ld (c := .int .i64 (d3)) rfl rfl .plain (fun _ _ h => h.ch) l6 rfl ?_
     refine L_pur (c := .bool ((decide ((y4).Width > d3)))) rfl rfl .plain (fun _ _ hd => P_int rfl rfl rfl) ?_
     refine L_pur (c := .bool ((decide ((y4).Width > d3)))) rfl rfl .plain (fun _ _ hd => P_move rfl) ?_
     refine L_pur (c := .int .i64 (u0)) rfl rfl (.yes2 rfl rfl o0) (fun _ _ hd => P_move z3) ?_
     refine L_pur (c := fPtr p7 2) rfl rfl (.yes2 rfl rfl o0) (fun _ _ hd => P_fieldAddr at_82_2 o3 (OB.ptr z2)) ?_
     refine L_ld (c := .int .i64 ((y4).Woven)) rfl rfl (.yes2 rfl rfl o0) (fun _ _ h => ⟨h.ch, fun b hb _ => h.below.block b hb⟩) m8 rfl ?_
     refine L_pur (c := .int .i64 ((w64 (u0 + (y4).Woven)))) rfl rfl (.yes2 rfl rfl o0) (fun _ _ hd => P_int rfl rfl rfl) ?_
     refine L_pur (c := fPtr p7 4) rfl rfl (.yes2 rfl rfl o0) (fun _ _ hd => P_fieldAddr at_82_4 o3 (OB.ptr z2)) ?_
     refine L_ld (c := .int .i64 ((y4).Late)) rfl rfl (.yes2 rfl rfl o0) (fun _ _ h => ⟨h.ch, fun b hb _ => h.below.block b hb⟩) n8 rfl ?_
     refine L_pur (c := .bool ((decide ((w64 (u0 + (y4).Woven)) > (y4).Late)))) rfl rfl (.yes2 rfl rfl o0) (fun _ _ hd => P_int rfl rfl rfl) ?_
     refine L_pur (c := .bool ((decide ((w64 (u0 + (y4).Woven)) > (y4).Late)))) rfl rfl .plain (fun _ _ hd => P_pick (b := (decide ((y4).Width > d3))) rfl (pick_f o0 rfl)) ?_
     refine L_nil fun e9 gA hall => ?_
     have hs := hall.1
     have hfr := hfr.ext hs
     clear hs hall
     refine EL_nil ?_
     obtain rfl := sinj h
     exact hQ _ _ ⟨e9, hfr, z3, rfl⟩
   ·clear hx
    obtain ⟨g9, hfr, x6, d4⟩ := hR
    rcases csome h with ⟨d5, h⟩ | ⟨d5, h⟩
    ·refine E_cond_true (Eq.trans (show ev _ _ = .bool (i3) from d4) (congrArg Value.bool d5)) ?_
     refine E_seq (E_region (EL_at (.int .i64 (1048576)) rfl rfl ?_))
     refine EL_nil (thn_n (E_ret (thn_r ?_)))
     obtain rfl := sinj h
     exact end1 rfl rfl (show _ = .int .i64 (1048576) from rfl) ⟨_, hfr, rfl⟩
    ·refine E_cond_false (Eq.trans (show ev _ _ = .bool (i3) from d4) (congrArg Value.bool d5)) ?_
     exact E_skip (thn_n (l8 () _ _ ⟨g9, hfr, x6⟩ h))
  ·rintro _ q9 iA ⟨jA, hfr, y6⟩ h
   refine E_seq (E_region (EL_mv y6 rfl ?_))
   refine EL_at (.int .i64 (u0)) rfl rfl ?_
   refine EL_nil (thn_n (E_ret ?_))
   obtain rfl := sinj h
   exact end1 rfl rfl (show _ = .int .i64 (u0) from rfl) ⟨_, hfr, rfl⟩
def f106 (x0 : List Int) (x1 : Int) (x2 : Int) (x3 : Int → Int → Option Int) : Option ((List Int)) :=
 lp (σ := (List Int) × Int) (fun k1 (p5, d3) =>
  jn (σ := Unit) (fun (_ : Unit) =>
   Option.bind (α := (List Int)) (
    lp (σ := (List Int) × Int) (fun g7 (j1, o0) =>
     jn (σ := Unit) (fun (_ : Unit) =>
      Option.bind (α := (List Int)) (
       (idx j1 (w64 (o0 - (1 : Int)))).bind fun i5 =>
       (idx j1 o0).bind fun q5 =>
       (idx j1 o0).bind fun n9 =>
       (idx ((List.set j1 (Int.toNat o0) i5)) (w64 (o0 - (1 : Int)))).bind fun o9 =>
       some ((List.set ((List.set j1 (Int.toNat o0) i5)) (Int.toNat (w64 (o0 - (1 : Int)))) q5))
       ) fun d4 =>
      g7 (d4, (w64 (o0 - (1 : Int))))
      ) fun i7 =>
     Option.bind (α := Bool) (
      bif (decide (o0 > x1)) then
       (idx j1 o0).bind fun t5 =>
       (idx j1 (w64 (o0 - (1 : Int)))).bind fun u5 =>
       (x3 t5 u5).bind fun d5 =>
       some ((decide (d5 < (0 : Int))))
      else
       some (false)
      ) fun j3 =>
     bif j3 then
      i7 ()
     else
      some (j1)
     ) big (p5, d3)
    ) fun m4 =>
   k1 (m4, (w64 (d3 + (1 : Int))))
   ) fun k4 =>
  bif (decide (d3 < x2)) then
   k4 ()
  else
   some (p5)
  ) big (x0, (w64 (x1 + (1 : Int))))
theorem en106 : Enters Try.prog 106 := enters_of Try.func106 (by kernel_rfl) rfl
theorem wk106 {iI : Nat} {gI : Gh} {wI : World} {x0 : List Int} {x1 : Int} {x2 : Int} {x3 : Int → Int → Option Int} {up0 : Value} (mp0 : OM iI gI wI 3 x0 up0) {up3 : Value} (rp3 : FnV2 Try.prog x3 up3 gI wI) {r : (List Int)} (h : f106 x0 x1 x2 x3 = some r) : FnM Try.prog 106 #[up0, .int .i64 (x1), .int .i64 (x2), up3] iI gI wI (fun g w v => v = .tuple #[] ∧ OM iI g w 3 r up0) := by
 unfold f106 at h
 refine fnM_of_E Try.func106 rfl (Nat.le_of_ble_eq_true rfl) fun g0 hm hfr => ?_
 have a9 := mp0
 replace mp0 := mp0.enter
 rw [← hm] at mp0
 replace hm : g0.m = gI.m := by rw [hm]
 obtain ⟨ff3, fa3, fc3, rfl, fen3, fcl3⟩ := rp3
 show E _ 53 none _ _ _ _ _
 refine E_seq (E_region (EL_mw (.int .i64 (x1)) rfl rfl ?_))
 refine EL_in (.int .i64 ((w64 (x1 + (1 : Int))))) rfl rfl rfl rfl ?_
 refine EL_at (.int .i64 ((w64 (x1 + (1 : Int))))) rfl rfl ?_
 refine EL_nil (thn_n (E_block ?_))
 refine E_lp h (fun (s : (List Int) × Int) e w => ∃ (g : Gh) , FrM iI gI wI g w ∧ e 0 = up0 ∧ OM 1 g w 3 (s.1 : List Int) up0 ∧ e 1 = .int .i64 (x1) ∧ e 2 = .int .i64 (x2) ∧ e 3 = (.func (.func ff3) fa3 fc3) ∧ e 8 = .int .i64 (s.2)) ⟨g0, hfr, rfl, mp0, rfl, rfl, rfl, rfl⟩ (fun X1 k1 hk1 => ?_)
 rintro ⟨p5, d3⟩ mB w2 ⟨g2, hfr, p9, j7, q9, m7, r9, n7⟩ h
 refine E_joinC h (fun (s : Unit) e w => ∃ (g : Gh) , FrM iI gI wI g w ∧ e 0 = up0 ∧ OM 1 g w 3 (p5 : List Int) up0 ∧ e 1 = .int .i64 (x1) ∧ e 2 = .int .i64 (x2) ∧ e 3 = (.func (.func ff3) fa3 fc3) ∧ e 8 = .int .i64 (d3)) (fun X4 k4 hk4 h => ?_) ?_
 ·refine E_seq (E_region (EL_mv n7 rfl ?_))
  refine EL_mv m7 rfl ?_
  refine EL_in (.bool ((decide (d3 < x2)))) rfl rfl rfl rfl ?_
  refine EL_nil (thn_n ?_)
  rcases csome h with ⟨hc5, h⟩ | ⟨hc5, h⟩
  ·refine E_ct hc5 rfl ?_
   exact E_skip (thn_n (hk4 () _ _ ⟨g2, hfr, p9, j7, q9, m7, r9, n7⟩ h))
  ·refine E_cf hc5 rfl ?_
   refine E_exit ?_
   refine thn_e ?_
   refine thn_e ?_
   refine blk_hit ?_
   obtain rfl := sinj h
   exact end0n rfl rfl ⟨_, hfr, rfl, a9.back j7⟩
 ·rintro _ nB w6 ⟨g6, hfr, t9, u9, y9, z9, bA, o7⟩ h
  obtain ⟨m4, hx, h⟩ := bsome h
  refine E_join (fun e w => ∃ (g : Gh) , FrM iI gI wI g w ∧ e 0 = up0 ∧ OM 1 g w 3 (m4 : List Int) up0 ∧ e 1 = .int .i64 (x1) ∧ e 2 = .int .i64 (x2) ∧ e 3 = (.func (.func ff3) fa3 fc3) ∧ e 8 = .int .i64 (d3)) (fun Q' hQ => ?_) (fun qA vA hR => ?_)
  ·replace h := hx
   clear hx
   refine E_block ?_
   refine E_seq (E_region (EL_mv o7 rfl ?_))
   refine EL_at (.int .i64 (d3)) rfl rfl ?_
   refine EL_nil (thn_n (E_block ?_))
   refine E_lp h (fun (s : (List Int) × Int) e w => ∃ (g : Gh) , FrM iI gI wI g w ∧ e 0 = up0 ∧ OM 1 g w 3 (s.1 : List Int) up0 ∧ e 1 = .int .i64 (x1) ∧ e 2 = .int .i64 (x2) ∧ e 3 = (.func (.func ff3) fa3 fc3) ∧ e 8 = .int .i64 (d3) ∧ e 9 = .int .i64 (s.2)) ⟨g6, hfr, t9, u9, y9, z9, bA, o7, rfl⟩ (fun X296 g7 d9 => ?_)
   rintro ⟨j1, o0⟩ rA xA ⟨p7, hfr, p4, z2, z4, c6, l5, d6, o3⟩ h
   refine E_joinC h (fun (s : Unit) e w => ∃ (g : Gh) , FrM iI gI wI g w ∧ e 0 = up0 ∧ OM 1 g w 3 (j1 : List Int) up0 ∧ e 1 = .int .i64 (x1) ∧ e 2 = .int .i64 (x2) ∧ e 3 = (.func (.func ff3) fa3 fc3) ∧ e 8 = .int .i64 (d3) ∧ e 9 = .int .i64 (o0)) (fun X410 i7 e9 h => ?_) ?_
   ·obtain ⟨j3, hx, h⟩ := bsome h
    refine E_join (fun e w => ∃ (g : Gh) , FrM iI gI wI g w ∧ e 0 = up0 ∧ OM 1 g w 3 (j1 : List Int) up0 ∧ e 1 = .int .i64 (x1) ∧ e 2 = .int .i64 (x2) ∧ e 3 = (.func (.func ff3) fa3 fc3) ∧ e 8 = .int .i64 (d3) ∧ e 9 = .int .i64 (o0) ∧ e 34 = .bool (j3)) (fun Q' hQ => ?_) (fun sA yA hR => ?_)
    ·replace h := hx
     clear hx
     rcases csome h with ⟨u0, h⟩ | ⟨u0, h⟩
     ·obtain ⟨t5, z6, h⟩ := bsome h
      refine L_loadM (x := .tmp 25) Try.isAgg3 Try.sizeOf3 z2 z6 fun zA cA g9 => ?_
      obtain rfl := RV_int.1 cA
      obtain ⟨u5, a7, h⟩ := bsome h
      refine L_loadM (x := .tmp 30) Try.isAgg3 Try.sizeOf3 z2 a7 fun aB dA i9 => ?_
      obtain rfl := RV_int.1 dA
      obtain ⟨d5, j9, h⟩ := bsome h
      refine E_drawL (g := p7) (n := 17) [(14, (fun v g w => v = .int .i64 (d5)))] [0, 1, 2, 3, 4, 5, 6, 7, 8, 9, 10, 11, 12, 13, 14, 15, 16] rfl mixed (by kernel_rfl) (⟨fun _ => up_eq _, trivial⟩) ?_
      refine L_pur (c := .int .i64 (o0)) rfl rfl .plain (fun _ _ hd => P_move o3) ?_
      refine L_pur (c := .int .i64 (x1)) rfl rfl .plain (fun _ _ hd => P_move z4) ?_
      refine L_pur (c := .bool ((decide (o0 > x1)))) rfl rfl .plain (fun _ _ hd => P_int rfl rfl rfl) ?_
      refine L_pur (c := .bool ((decide (o0 > x1)))) rfl rfl .plain (fun _ _ hd => P_move rfl) ?_
      refine L_pur (c := (.func (.func ff3) fa3 fc3)) rfl rfl (.yes2 rfl rfl u0) (fun _ _ hd => P_move l5) ?_
      refine L_pur (c := up0) rfl rfl (.yes2 rfl rfl u0) (fun _ _ hd => P_move p4) ?_
      refine L_pur (c := .int .i64 (o0)) rfl rfl (.yes2 rfl rfl u0) (fun _ _ hd => P_move o3) ?_
      refine L_pur (c := ePtr up0 o0 1) rfl rfl (.yes2 rfl rfl u0) (fun _ _ hd => P_indexAddrM (α := Int) Try.underlying22 Try.sizeOf3 rfl z2 rfl z6) ?_
      refine L_ld (c := .int .i64 (t5)) rfl rfl (.yes2 rfl rfl u0) (fun _ _ h => ⟨h.ch, fun b hb _ => h.below.block b hb⟩) g9 rfl ?_
      refine L_pur (c := up0) rfl rfl (.yes2 rfl rfl u0) (fun _ _ hd => P_move p4) ?_
      refine L_pur (c := .int .i64 (o0)) rfl rfl (.yes2 rfl rfl u0) (fun _ _ hd => P_move o3) ?_
      refine L_pur (c := .int .i64 ((w64 (o0 - (1 : Int))))) rfl rfl (.yes2 rfl rfl u0) (fun _ _ hd => P_int rfl rfl rfl) ?_
      refine L_pur (c := ePtr up0 (w64 (o0 - (1 : Int))) 1) rfl rfl (.yes2 rfl rfl u0) (fun _ _ hd => P_indexAddrM (α := Int) Try.underlying22 Try.sizeOf3 rfl z2 rfl a7) ?_
      refine L_ld (c := .int .i64 (u5)) rfl rfl (.yes2 rfl rfl u0) (fun _ _ h => ⟨h.ch, fun b hb _ => h.below.block b hb⟩) i9 rfl ?_
      refine L_do (φ := fun v g w => v = .int .i64 (d5)) rfl rfl (.yes2 rfl rfl u0) (fun g w hd => D_callv (g := g) (vs := [.int .i64 (t5), .int .i64 (u5)]) rfl fen3 (.cons rfl (.cons rfl .nil)) (fcl3 _ _ (hfr.ext hd.1).ch _ _ _ _ _  (RV_int.2 rfl) (RV_int.2 rfl) j9) fun g' w' v hs hr => ⟨g', hs, RV_int.1 hr⟩) (fun bB hv => ?_)
      obtain ⟨_, _, _, rfl⟩ := hv
      refine L_pur (c := .bool ((decide (d5 < (0 : Int))))) rfl rfl (.yes2 rfl rfl u0) (fun _ _ hd => P_int rfl rfl rfl) ?_
      refine L_pur (c := .bool ((decide (d5 < (0 : Int))))) rfl rfl .plain (fun _ _ hd => P_pick (b := (decide (o0 > x1))) rfl (pick_t u0 rfl)) ?_
      refine L_nil fun eA cB hall => ?_
      have hs := hall.1
      have hfr := hfr.ext hs
      have z2 := z2.ext hs
      clear hs hall
      refine EL_nil ?_
      obtain rfl := sinj h
      exact hQ _ _ ⟨eA, hfr, p4, z2, z4, c6, l5, d6, o3, rfl⟩
     ·refine E_drawL (g := p7) (n := 17) [] [0, 1, 2, 3, 4, 5, 6, 7, 8, 9, 10, 11, 12, 13, 14, 15, 16] rfl mixed (by kernel_rfl) trivial ?_
      refine L_pur (c := .int .i64 (o0)) rfl rfl .plain (fun _ _ hd => P_move o3) ?_
      refine L_pur (c := .int .i64 (x1)) rfl rfl .plain (fun _ _ hd => P_move z4) ?_
      refine L_pur (c := .bool ((decide (o0 > x1)))) rfl rfl .plain (fun _ _ hd => P_int rfl rfl rfl) ?_
      refine L_pur (c := .bool ((decide (o0 > x1)))) rfl rfl .plain (fun _ _ hd => P_move rfl) ?_
      refine L_skip rfl (.no2 rfl rfl u0 rfl) ?_
      refine L_skip rfl (.no2 rfl rfl u0 rfl) ?_
      refine L_skip rfl (.no2 rfl rfl u0 rfl) ?_
      refine L_skip rfl (.no2 rfl rfl u0 rfl) ?_
      refine L_skip rfl (.no2 rfl rfl u0 rfl) ?_
      refine L_skip rfl (.no2 rfl rfl u0 rfl) ?_
      refine L_skip rfl (.no2 rfl rfl u0 rfl) ?_
      refine L_skip rfl (.no2 rfl rfl u0 rfl) ?_
      refine L_skip rfl (.no2 rfl rfl u0 rfl) ?_
      refine L_skip rfl (.no2 rfl rfl u0 rfl) ?_
      refine L_skip rfl (.no2 rfl rfl u0 rfl) ?_
      refine L_skip rfl (.no2 rfl rfl u0 rfl) ?_
      refine L_pur (c := .bool false) rfl rfl .plain (fun _ _ hd => P_pick (b := (decide (o0 > x1))) rfl (pick_f u0 rfl)) ?_
      refine L_nil fun gA dB hall => ?_
      have hs := hall.1
      have hfr := hfr.ext hs
      have z2 := z2.ext hs
      clear hs hall
      refine EL_nil ?_
      obtain rfl := sinj h
      exact hQ _ _ ⟨gA, hfr, p4, z2, z4, c6, l5, d6, o3, rfl⟩
    ·clear hx
     obtain ⟨q7, hfr, i6, j6, l6, v6, x6, y6, t7, o5⟩ := hR
     rcases csome h with ⟨x5, h⟩ | ⟨x5, h⟩
     ·refine E_cond_true (Eq.trans (show ev _ _ = .bool (j3) from o5) (congrArg Value.bool x5)) ?_
      exact E_skip (thn_n (e9 () _ _ ⟨q7, hfr, i6, j6, l6, v6, x6, y6, t7⟩ h))
     ·refine E_cond_false (Eq.trans (show ev _ _ = .bool (j3) from o5) (congrArg Value.bool x5)) ?_
      refine E_exit ?_
      refine thn_e ?_
      refine thn_e ?_
      refine blk_hit ?_
      refine blk_n ?_
      obtain rfl := sinj h
      exact hQ _ _ ⟨q7, hfr, i6, j6, l6, v6, x6, y6⟩
   ·rintro _ tA iA ⟨u7, hfr, u3, i3, v7, c8, e8, g8, z3⟩ h
    obtain ⟨d4, hx, h⟩ := bsome h
    refine E_join (fun e w => ∃ (g : Gh) , FrM iI gI wI g w ∧ e 0 = up0 ∧ OM 1 g w 3 (d4 : List Int) up0 ∧ e 1 = .int .i64 (x1) ∧ e 2 = .int .i64 (x2) ∧ e 3 = (.func (.func ff3) fa3 fc3) ∧ e 8 = .int .i64 (d3) ∧ e 9 = .int .i64 (o0)) (fun Q' hQ => ?_) (fun uA eB hR => ?_)
    ·replace h := hx
     clear hx
     refine E_block ?_
     obtain ⟨i5, b7, h⟩ := bsome h
     refine L_loadM (x := .tmp 45) Try.isAgg3 Try.sizeOf3 i3 b7 fun iB jA k9 => ?_
     obtain rfl := RV_int.1 jA
     obtain ⟨q5, c7, h⟩ := bsome h
     refine L_loadM (x := .tmp 49) Try.isAgg3 Try.sizeOf3 i3 c7 fun jB kA l9 => ?_
     obtain rfl := RV_int.1 kA
     obtain ⟨n9, d7, h⟩ := bsome h
     refine E_drawTL (g := u7) (n := 15) [2, 3, 4] [] [0, 1, 2, 3, 4, 5, 6, 7, 8, 9, 10, 11, 12, 13, 14] rfl mixed (by kernel_rfl) trivial rfl ?_
     refine L_pur (c := up0) rfl rfl .plain (fun _ _ hd => P_move u3) ?_
     refine L_pur (c := .int .i64 (o0)) rfl rfl .plain (fun _ _ hd => P_move z3) ?_
     refine L_purL (c := up0) rfl rfl .plain (P_move u3) ?_
     refine L_purL (c := .int .i64 (o0)) rfl rfl .plain (P_move z3) ?_
     refine L_purL (c := .int .i64 ((w64 (o0 - (1 : Int))))) rfl rfl .plain (P_int rfl rfl rfl) ?_
     refine L_pur (c := up0) rfl rfl .plain (fun _ _ hd => P_move u3) ?_
     refine L_pur (c := .int .i64 (o0)) rfl rfl .plain (fun _ _ hd => P_move z3) ?_
     refine L_pur (c := .int .i64 ((w64 (o0 - (1 : Int))))) rfl rfl .plain (fun _ _ hd => P_int rfl rfl rfl) ?_
     refine L_pur (c := ePtr up0 (w64 (o0 - (1 : Int))) 1) rfl rfl .plain (fun _ _ hd => P_indexAddrM (α := Int) Try.underlying22 Try.sizeOf3 rfl i3 rfl b7) ?_
     refine L_ld (c := .int .i64 (i5)) rfl rfl .plain (fun _ _ h => ⟨h.ch, fun b hb _ => h.below.block b hb⟩) k9 rfl ?_
     refine L_pur (c := up0) rfl rfl .plain (fun _ _ hd => P_move u3) ?_
     refine L_pur (c := .int .i64 (o0)) rfl rfl .plain (fun _ _ hd => P_move z3) ?_
     refine L_pur (c := ePtr up0 o0 1) rfl rfl .plain (fun _ _ hd => P_indexAddrM (α := Int) Try.underlying22 Try.sizeOf3 rfl i3 rfl c7) ?_
     refine L_ld (c := .int .i64 (q5)) rfl rfl .plain (fun _ _ h => ⟨h.ch, fun b hb _ => h.below.block b hb⟩) l9 rfl ?_
     refine L_pur (c := ePtr up0 o0 1) rfl rfl .plain (fun _ _ hd => P_indexAddrM (α := Int) Try.underlying22 Try.sizeOf3 rfl i3 rfl d7) ?_
     refine L_nil fun i8 lA hall => ?_
     have hs := hall.1
     have hlt : Lt u7.m iA i8 lA := hs.ch
     have hfr := hfr.ext hs
     have i3 := i3.ext hs
     clear hs hall
     refine TL_do hlt.w .plain rfl (D_storeM (g := i8) (α := Int) (a' := i5) Try.sizeOf3 rfl i3 d7 rfl (RV_int.2 rfl) fun mA kB hs b581 => ?_)
     have hfr := hfr.stp hs
     have hlt := hlt.stp hs
     obtain ⟨o9, e7, h⟩ := bsome h
     refine TL_pur hlt.w (v := ePtr up0 (w64 (o0 - (1 : Int))) 1) (P_indexAddrM (α := Int) Try.underlying22 Try.sizeOf3 rfl b581 rfl e7) .plain rfl ?_
     refine TL_do hlt.w .plain rfl (D_storeM (g := mA) (α := Int) (a' := q5) Try.sizeOf3 rfl b581 e7 rfl (RV_int.2 rfl) fun nA lB hs b583 => ?_)
     have hfr := hfr.stp hs
     have hlt := hlt.stp hs
     refine TL_nil hlt.w ?_
     clear hlt
     refine blk_n ?_
     obtain rfl := sinj h
     exact hQ _ _ ⟨nA, hfr, u3, b583, v7, c8, e8, g8, z3⟩
    ·clear hx
     obtain ⟨oA, hfr, k8, l8, m8, n8, o8, p8, q8⟩ := hR
     refine E_region (EL_mv q8 rfl ?_)
     refine EL_in (.int .i64 ((w64 (o0 - (1 : Int))))) rfl rfl rfl rfl ?_
     refine EL_at (.int .i64 ((w64 (o0 - (1 : Int))))) rfl rfl ?_
     exact EL_nil (thn_n (d9 (d4, (w64 (o0 - (1 : Int)))) _ _ ⟨oA, hfr, k8, l8, m8, n8, o8, p8, rfl⟩ h))
  ·clear hx
   obtain ⟨pA, hfr, r8, t8, v8, x8, y8, z8⟩ := hR
   refine E_region (EL_mv z8 rfl ?_)
   refine EL_in (.int .i64 ((w64 (d3 + (1 : Int))))) rfl rfl rfl rfl ?_
   refine EL_at (.int .i64 ((w64 (d3 + (1 : Int))))) rfl rfl ?_
   exact EL_nil (thn_n (hk1 (m4, (w64 (d3 + (1 : Int)))) _ _ ⟨pA, hfr, r8, t8, v8, x8, y8, rfl⟩ h))
end Go.Proofs.Ytnfjhdagbknlbaa
