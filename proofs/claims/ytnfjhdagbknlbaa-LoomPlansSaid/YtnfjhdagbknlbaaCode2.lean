import Derived.Test.YtnfjhdagbknlbaaCode1
set_option maxRecDepth 8000
set_option maxHeartbeats 4000000
namespace Go.Proofs.Ytnfjhdagbknlbaa
open Go.RowKit
/-- cmp.Or[int] -/
def f89 (x0 : List Int) : Option (Int) :=
 jn (σ := Unit) (fun (_ : Unit) =>
  some ((0 : Int))
  ) fun i4 =>
 lp (σ := Int) (fun j4 j0 =>
  bif (decide (j0 < ((x0).length : Int))) then
   jn (σ := Unit) (fun (_ : Unit) =>
    j4 ((w64 (j0 + (1 : Int))))
    ) fun m4 =>
   (idx x0 j0).bind fun y23 =>
   bif (y23 != (0 : Int)) then
    some (y23)
   else
    m4 ()
  else
   i4 ()
  ) big ((0 : Int))
theorem en89 : Enters Try.prog 89 := enters_of Try.func89 (by kernel_rfl) rfl
theorem wk89 {gI : Gh} {wI : World} {x0 : List Int} {up0 : Value} (rp0 : RV gI.m wI x0 up0) {r : Int} (h : f89 x0 = some r) : Fn Try.prog 89 #[up0] gI wI (fun _ _ v => v = .int .i64 (r)) := by
 unfold f89 at h
 refine fn_of_E Try.func89 rfl (Nat.le_of_ble_eq_true rfl) fun g0 hm hfr => ?_
 have rp0 : RV g0.m wI x0 up0 := hm ▸ rp0
 show E _ 18 none _ _ _ _ _
 refine E_seq (E_region (EL_at (.int .i64 (0)) rfl rfl ?_))
 refine EL_nil (thn_n (E_seq (E_region (EL_at (.int .i64 (0)) rfl rfl ?_))))
 refine EL_nil (thn_n (E_joinC h (fun (s : Unit) e w => ∃ (g : Gh) , Fr gI wI g w ∧ e 3 = .int .i64 ((0 : Int))) (fun X14 i4 n4 h => ?_) ?_))
 ·refine E_seq (E_region (EL_mw up0 rfl rfl ?_))
  refine EL_pur (v := .int .i64 ((x0).length : Int)) (P_len Try.underlying22 rfl rp0) .plain rfl ?_
  refine EL_mw (.int .i64 (0)) rfl rfl ?_
  refine EL_nil (thn_n (E_block ?_))
  refine E_lp h (fun (s : Int) e w => ∃ (g : Gh) , Fr gI wI g w ∧ e 3 = .int .i64 ((0 : Int)) ∧ e 6 = up0 ∧ RV g.m w (x0 : List Int) up0 ∧ e 7 = .int .i64 (((x0).length : Int)) ∧ e 8 = .int .i64 (s)) ⟨g0, hfr, rfl, rfl, rp0, rfl, rfl⟩ (fun X15 j4 o4 => ?_)
  rintro j0 c5 j5 ⟨i3, hfr, o0, z2, u0, d3, j1⟩ h
  refine E_seq (E_region (EL_in (.bool ((decide (j0 < ((x0).length : Int))))) j1 d3 rfl rfl ?_))
  refine EL_nil (thn_n (E_seq ?_))
  rcases csome h with ⟨z1, h⟩ | ⟨z1, h⟩
  ·refine E_ct z1 rfl ?_
   refine E_skip (thn_n (E_joinC h (fun (s : Unit) e w => ∃ (g : Gh) , Fr gI wI g w ∧ e 3 = .int .i64 ((0 : Int)) ∧ e 6 = up0 ∧ RV g.m w (x0 : List Int) up0 ∧ e 7 = .int .i64 (((x0).length : Int)) ∧ e 8 = .int .i64 (j0)) (fun X22 m4 p4 h => ?_) ?_))
   ·refine E_block ?_
    refine E_seq (E_region ?_)
    obtain ⟨y23, j3, h⟩ := bsome h
    refine EL_pur (v := ePtr up0 j0 1) (P_indexAddr (α := Int) Try.underlying22 Try.sizeOf3 z2 u0 j1 j3) .plain rfl ?_
    have u4 := PT_idx u0 j3
    refine EL_do .plain rfl (D_load (g := i3) Try.isAgg3 Try.sizeOf3 rfl u4 fun l5 x4 => ?_)
    obtain rfl := RV_int.1 x4
    refine EL_at (.int .i64 (y23)) rfl rfl ?_
    refine EL_nil (thn_n (E_seq (E_region (EL_mw (.int .i64 (y23)) rfl rfl ?_))))
    refine EL_mv o0 rfl ?_
    refine EL_in (.bool ((y23 != (0 : Int)))) rfl rfl rfl rfl ?_
    refine EL_nil (thn_n ?_)
    rcases csome h with ⟨j2, h⟩ | ⟨j2, h⟩
    ·refine E_ct j2 rfl ?_
     refine E_seq (E_region (EL_mw (.int .i64 (y23)) rfl rfl ?_))
     refine EL_at (.int .i64 (y23)) rfl rfl ?_
     refine EL_nil (thn_n (E_ret (blk_r ?_)))
     refine thn_r ?_
     refine thn_r ?_
     refine blk_r ?_
     refine thn_r ?_
     obtain rfl := sinj h
     exact end1 rfl rfl (show _ = .int .i64 (y23) from rfl) ⟨_, hfr, rfl⟩
    ·refine E_cf j2 rfl ?_
     exact E_skip (blk_n (thn_n (p4 () _ _ ⟨i3, hfr, o0, z2, u0, d3, j1⟩ h)))
   ·rintro _ d5 m5 ⟨z4, hfr, o3, p3, u3, z3, c4⟩ h
    refine E_region (EL_in (.int .i64 ((w64 (j0 + (1 : Int))))) c4 rfl rfl rfl ?_)
    refine EL_mw (.int .i64 ((w64 (j0 + (1 : Int))))) rfl rfl ?_
    exact EL_nil (thn_n (o4 ((w64 (j0 + (1 : Int)))) _ _ ⟨z4, hfr, o3, p3, u3, z3, rfl⟩ h))
  ·refine E_cf z1 rfl ?_
   refine E_exit ?_
   refine thn_e ?_
   refine thn_e ?_
   refine blk_hit ?_
   exact thn_n (n4 () _ _ ⟨i3, hfr, o0⟩ h)
 ·rintro _ i5 n5 ⟨o5, hfr, d4⟩ h
  refine E_seq (E_region (EL_mv d4 rfl ?_))
  refine EL_at (.int .i64 ((0 : Int))) rfl rfl ?_
  refine EL_nil (thn_n (E_ret ?_))
  obtain rfl := sinj h
  exact end1 rfl rfl (show _ = .int .i64 ((0 : Int)) from rfl) ⟨_, hfr, rfl⟩
/-- slices.IndexFunc[[]griffe/api.LoomRun,griffe/api.LoomRun] -/
def f91 (x0 : List LoomRun) (x1 : LoomRun → Option Bool) : Option (Int) :=
 jn (σ := Unit) (fun (_ : Unit) =>
  some ((-1 : Int))
  ) fun k18 =>
 lp (σ := Int) (fun k19 j0 =>
  bif (decide (j0 < ((x0).length : Int))) then
   jn (σ := Unit) (fun (_ : Unit) =>
    k19 ((w64 (j0 + (1 : Int))))
    ) fun k28 =>
   (idx x0 j0).bind fun d4 =>
   (x1 d4).bind fun i4 =>
   bif i4 then
    some (j0)
   else
    k28 ()
  else
   k18 ()
  ) big ((0 : Int))
theorem en91 : Enters Try.prog 91 := enters_of Try.func91 (by kernel_rfl) rfl
theorem wk91 {gI : Gh} {wI : World} {x0 : List LoomRun} {x1 : LoomRun → Option Bool} {up0 : Value} (rp0 : RV gI.m wI x0 up0) {up1 : Value} (rp1 : FnV1 Try.prog x1 up1 gI wI) {r : Int} (h : f91 x0 x1 = some r) : Fn Try.prog 91 #[up0, up1] gI wI (fun _ _ v => v = .int .i64 (r)) := by
 unfold f91 at h
 refine fn_of_E Try.func91 rfl (Nat.le_of_ble_eq_true rfl) fun g0 hm hfr => ?_
 have rp0 : RV g0.m wI x0 up0 := hm ▸ rp0
 obtain ⟨ff1, fa1, fc1, rfl, fen1, fcl1⟩ := rp1
 show E _ 19 none _ _ _ _ _
 refine E_seq (E_region (EL_at (.int .i64 (0)) rfl rfl ?_))
 refine EL_nil (thn_n (E_joinC h (fun (s : Unit) e w => ∃ (g : Gh) , Fr gI wI g w) (fun X18 k18 j4 h => ?_) ?_))
 ·refine E_seq (E_region (EL_mw up0 rfl rfl ?_))
  refine EL_pur (v := .int .i64 ((x0).length : Int)) (P_len Try.underlying31 rfl rp0) .plain rfl ?_
  refine EL_mw (.int .i64 (0)) rfl rfl ?_
  refine EL_nil (thn_n (E_block ?_))
  refine E_lp h (fun (s : Int) e w => ∃ (g : Gh) , Fr gI wI g w ∧ e 0 = up0 ∧ RV g.m w (x0 : List LoomRun) up0 ∧ e 1 = (.func (.func ff1) fa1 fc1) ∧ e 7 = .int .i64 (((x0).length : Int)) ∧ e 8 = .int .i64 (s)) ⟨g0, hfr, rfl, rp0, rfl, rfl, rfl⟩ (fun X19 k19 m4 => ?_)
  rintro j0 d5 l5 ⟨i3, hfr, j2, o0, z2, d3, u0⟩ h
  refine E_seq (E_region (EL_in (.bool ((decide (j0 < ((x0).length : Int))))) u0 d3 rfl rfl ?_))
  refine EL_nil (thn_n (E_seq ?_))
  rcases csome h with ⟨j1, h⟩ | ⟨j1, h⟩
  ·refine E_ct j1 rfl ?_
   refine E_skip (thn_n (E_joinC h (fun (s : Unit) e w => ∃ (g : Gh) , Fr gI wI g w ∧ e 0 = up0 ∧ RV g.m w (x0 : List LoomRun) up0 ∧ e 1 = (.func (.func ff1) fa1 fc1) ∧ e 7 = .int .i64 (((x0).length : Int)) ∧ e 8 = .int .i64 (j0)) (fun X28 k28 n4 h => ?_) ?_))
   ·refine E_block ?_
    refine E_seq (E_region (EL_mv u0 rfl ?_))
    refine EL_at (.int .i64 (j0)) rfl rfl ?_
    refine EL_nil (thn_n (E_seq (E_region (EL_mv z2 rfl ?_))))
    refine EL_mv j2 rfl ?_
    refine EL_mw (.int .i64 (j0)) rfl rfl ?_
    obtain ⟨d4, j3, h⟩ := bsome h
    refine EL_pur (v := ePtr up0 j0 3) (P_indexAddr (α := LoomRun) Try.underlying31 Try.sizeOf76 rfl o0 rfl j3) .plain rfl ?_
    have p4 := PT_idx o0 j3
    refine EL_do .plain rfl (D_load (g := i3) Try.isAgg76 Try.sizeOf76 rfl p4 fun u4 x4 => ?_)
    obtain ⟨i4, o4, h⟩ := bsome h
    refine EL_do .plain rfl (D_callv (g := i3) (vs := [u4]) rfl fen1 (.cons rfl .nil) (fcl1 _ _ hfr.ch _ _ _  x4 o4) fun z4 m5 n5 hs hr => ?_)
    have hfr := hfr.ext hs
    have o0 := o0.ext hs
    obtain rfl := RV_bool.1 hr
    refine EL_nil (thn_n ?_)
    rcases csome h with ⟨z1, h⟩ | ⟨z1, h⟩
    ·refine E_ct z1 rfl ?_
     refine E_seq (E_region (EL_mw (.int .i64 (j0)) rfl rfl ?_))
     refine EL_at (.int .i64 (j0)) rfl rfl ?_
     refine EL_nil (thn_n (E_ret (blk_r ?_)))
     refine thn_r ?_
     refine thn_r ?_
     refine blk_r ?_
     refine thn_r ?_
     obtain rfl := sinj h
     exact end1 rfl rfl (show _ = .int .i64 (j0) from rfl) ⟨_, hfr, rfl⟩
    ·refine E_cf z1 rfl ?_
     exact E_skip (blk_n (thn_n (n4 () _ _ ⟨z4, hfr, j2, o0, z2, d3, u0⟩ h)))
   ·rintro _ i5 o5 ⟨c5, hfr, o3, p3, u3, z3, c4⟩ h
    refine E_region (EL_in (.int .i64 ((w64 (j0 + (1 : Int))))) c4 rfl rfl rfl ?_)
    refine EL_mw (.int .i64 ((w64 (j0 + (1 : Int))))) rfl rfl ?_
    exact EL_nil (thn_n (m4 ((w64 (j0 + (1 : Int)))) _ _ ⟨c5, hfr, o3, p3, u3, z3, rfl⟩ h))
  ·refine E_cf j1 rfl ?_
   refine E_exit ?_
   refine thn_e ?_
   refine thn_e ?_
   refine blk_hit ?_
   exact thn_n (j4 () _ _ ⟨i3, hfr⟩ h)
 ·rintro _ j5 p5 ⟨q5, hfr⟩ h
  refine E_seq (E_region (EL_at (.int .i64 (-1)) rfl rfl ?_))
  refine EL_nil (thn_n (E_ret ?_))
  obtain rfl := sinj h
  exact end1 rfl rfl (show _ = .int .i64 (-1) from rfl) ⟨_, hfr, rfl⟩
/-- griffe/grifferef08.Last -/
def f92 (x0 : List LoomRun) (x1 : Int) : Option (Int) :=
 Option.bind (α := Int) (
  lp (σ := Int × Int) (fun m6 (d3, j0) =>
   jn (σ := Unit) (fun (_ : Unit) =>
    Option.bind (α := Int) (
     Option.bind (α := Bool) (
      bif (j0 != x1) then
       (idx x0 j0).bind fun j3 =>
       (idx x0 x1).bind fun o3 =>
       bif ((j3).Loom == (o3).Loom) then
        (idx x0 j0).bind fun n6 =>
        (idx x0 x1).bind fun o6 =>
        (f76 n6 o6).bind fun u3 =>
        bif u3 then
         bif (decide (d3 < (0 : Int))) then
          some (true)
         else
          (idx x0 d3).bind fun p6 =>
          (idx x0 j0).bind fun q6 =>
          (f76 p6 q6).bind fun m4 =>
          some (m4)
        else
         some (false)
       else
        some (false)
      else
       some (false)
      ) fun c4 =>
     bif c4 then
      some (j0)
     else
      some (d3)
     ) fun n4 =>
    m6 (n4, (w64 (j0 + (1 : Int))))
    ) fun r6 =>
   bif (decide (j0 < ((x0).length : Int))) then
    r6 ()
   else
    some (d3)
   ) big ((-1 : Int), (0 : Int))
  ) fun d4 =>
 some (d4)
theorem en92 : Enters Try.prog 92 := enters_of Try.func92 (by kernel_rfl) rfl
theorem wk92 {gI : Gh} {wI : World} {x0 : List LoomRun} {x1 : Int} {up0 : Value} (rp0 : RV gI.m wI x0 up0) {r : Int} (h : f92 x0 x1 = some r) : Fn Try.prog 92 #[up0, .int .i64 (x1)] gI wI (fun _ _ v => v = .int .i64 (r)) := by
 unfold f92 at h
 refine fn_of_E Try.func92 rfl (Nat.le_of_ble_eq_true rfl) fun g0 hm hfr => ?_
 have rp0 : RV g0.m wI x0 up0 := hm ▸ rp0
 show E _ 57 none _ _ _ _ _
 refine E_seq (E_region (EL_at (.int .i64 (0)) rfl rfl ?_))
 refine EL_nil (thn_n (E_seq (E_region (EL_at (.int .i64 (-1)) rfl rfl ?_))))
 refine EL_nil (thn_n ?_)
 obtain ⟨d4, hx, h⟩ := bsome h
 refine E_join (fun e w => ∃ (g : Gh) , Fr gI wI g w ∧ e 5 = .int .i64 (d4)) (fun Q' hQ => ?_) (fun m8 r8 hR => ?_)
 ·replace h := hx
  clear hx
  refine E_seq (E_region (EL_at (.int .i64 (0)) rfl rfl ?_))
  refine EL_nil (thn_n (E_block ?_))
  refine E_lp h (fun (s : Int × Int) e w => ∃ (g : Gh) , Fr gI wI g w ∧ e 0 = up0 ∧ RV g.m w (x0 : List LoomRun) up0 ∧ e 1 = .int .i64 (x1) ∧ e 5 = .int .i64 (s.1) ∧ e 6 = .int .i64 (s.2)) ⟨g0, hfr, rfl, rp0, rfl, rfl, rfl⟩ (fun X1064 m6 j7 => ?_)
  rintro ⟨d3, j0⟩ n8 t8 ⟨t6, hfr, u5, x5, z6, y5, z5⟩ h
  refine E_joinC h (fun (s : Unit) e w => ∃ (g : Gh) , Fr gI wI g w ∧ e 0 = up0 ∧ RV g.m w (x0 : List LoomRun) up0 ∧ e 1 = .int .i64 (x1) ∧ e 5 = .int .i64 (d3) ∧ e 6 = .int .i64 (j0)) (fun X1067 r6 m7 h => ?_) ?_
  ·refine E_seq (E_region (EL_mv z5 rfl ?_))
   refine EL_mv u5 rfl ?_
   refine EL_pur (v := .int .i64 ((x0).length : Int)) (P_len Try.underlying31 rfl x5) .plain rfl ?_
   refine EL_in (.bool ((decide (j0 < ((x0).length : Int))))) rfl rfl rfl rfl ?_
   refine EL_nil (thn_n ?_)
   rcases csome h with ⟨m5, h⟩ | ⟨m5, h⟩
   ·refine E_ct m5 rfl ?_
    exact E_skip (thn_n (m7 () _ _ ⟨t6, hfr, u5, x5, z6, y5, z5⟩ h))
   ·refine E_cf m5 rfl ?_
    refine E_exit ?_
    refine thn_e ?_
    refine thn_e ?_
    refine blk_hit ?_
    obtain rfl := sinj h
    exact hQ _ _ ⟨t6, hfr, y5⟩
  ·rintro _ o8 v8 ⟨u4, hfr, z1, u0, i3, z3, j2⟩ h
   obtain ⟨n4, hx, h⟩ := bsome h
   refine E_join (fun e w => ∃ (g : Gh) , Fr gI wI g w ∧ e 0 = up0 ∧ RV g.m w (x0 : List LoomRun) up0 ∧ e 1 = .int .i64 (x1) ∧ e 5 = .int .i64 (n4) ∧ e 6 = .int .i64 (j0)) (fun Q' hQ => ?_) (fun p8 x8 hR => ?_)
   ·replace h := hx
    clear hx
    refine E_block ?_
    obtain ⟨c4, hx, h⟩ := bsome h
    refine E_join (fun e w => ∃ (g : Gh) , Fr gI wI g w ∧ e 0 = up0 ∧ RV g.m w (x0 : List LoomRun) up0 ∧ e 1 = .int .i64 (x1) ∧ e 5 = .int .i64 (d3) ∧ e 6 = .int .i64 (j0) ∧ e 54 = .bool (c4)) (fun Q' hQ => ?_) (fun q8 y8 hR => ?_)
    ·replace h := hx
     clear hx
     rcases csome h with ⟨o0, h⟩ | ⟨o0, h⟩
     ·obtain ⟨j3, i4, h⟩ := bsome h
      have x4 := PT_idx u0 i4
      have q7 := PT_field (part_LoomRun_1).1 x4
      refine L_load (x := .tmp 20) Try.isAgg3 Try.sizeOf3 q7 fun z8 t7 z4 => ?_
      obtain rfl := RV_int.1 t7
      obtain ⟨o3, j4, h⟩ := bsome h
      have c5 := PT_idx u0 j4
      have u7 := PT_field (part_LoomRun_1).1 c5
      refine L_load (x := .tmp 25) Try.isAgg3 Try.sizeOf3 u7 fun a9 v7 d5 => ?_
      obtain rfl := RV_int.1 v7
      rcases csome h with ⟨j1, h⟩ | ⟨j1, h⟩
      ·obtain ⟨n6, i5, h⟩ := bsome h
       have x7 := PT_idx u0 i5
       refine L_load (x := .tmp 32) Try.isAgg76 Try.sizeOf76 x7 fun o4 i6 n5 => ?_
       obtain ⟨o6, j5, h⟩ := bsome h
       have y7 := PT_idx u0 j5
       refine L_load (x := .tmp 36) Try.isAgg76 Try.sizeOf76 y7 fun p4 j6 o5 => ?_
       obtain ⟨u3, p5, h⟩ := bsome h
       rcases csome h with ⟨p3, h⟩ | ⟨p3, h⟩
       ·rcases csome h with ⟨z2, h⟩ | ⟨z2, h⟩
        ·refine E_drawL (g := u4) (n := 42) [(25, (fun v g w => v = .bool (u3)))] [0, 1, 2, 3, 4, 5, 6, 7, 8, 9, 10, 11, 12, 13, 14, 15, 16, 17, 18, 19, 20, 21, 22, 23, 24, 25, 26, 27, 28, 29, 30, 31, 32, 33, 34, 35, 36, 37, 38, 39, 40, 41] rfl mixed (by kernel_rfl) (⟨fun _ => up_eq _, trivial⟩) ?_
         refine L_pur (c := .int .i64 (j0)) rfl rfl .plain (fun _ _ hd => P_move j2) ?_
         refine L_pur (c := .int .i64 (x1)) rfl rfl .plain (fun _ _ hd => P_move i3) ?_
         refine L_pur (c := .bool ((j0 != x1))) rfl rfl .plain (fun _ _ hd => P_int rfl rfl rfl) ?_
         refine L_pur (c := .bool ((j0 != x1))) rfl rfl .plain (fun _ _ hd => P_move rfl) ?_
         refine L_pur (c := up0) rfl rfl (.yes2 rfl rfl o0) (fun _ _ hd => P_move z1) ?_
         refine L_pur (c := .int .i64 (j0)) rfl rfl (.yes2 rfl rfl o0) (fun _ _ hd => P_move j2) ?_
         refine L_pur (c := ePtr up0 j0 3) rfl rfl (.yes2 rfl rfl o0) (fun _ _ hd => P_indexAddr (α := LoomRun) Try.underlying31 Try.sizeOf76 rfl u0 rfl i4) ?_
         refine L_pur (c := fPtr (ePtr up0 j0 3) 1) rfl rfl (.yes2 rfl rfl o0) (fun _ _ hd => P_fieldAddr at_76_1 rfl (PT.ptr x4)) ?_
         refine L_ld (c := .int .i64 ((j3).Loom)) rfl rfl (.yes2 rfl rfl o0) (fun _ _ h => h.ch) z4 rfl ?_
         refine L_pur (c := up0) rfl rfl (.yes2 rfl rfl o0) (fun _ _ hd => P_move z1) ?_
         refine L_pur (c := .int .i64 (x1)) rfl rfl (.yes2 rfl rfl o0) (fun _ _ hd => P_move i3) ?_
         refine L_pur (c := ePtr up0 x1 3) rfl rfl (.yes2 rfl rfl o0) (fun _ _ hd => P_indexAddr (α := LoomRun) Try.underlying31 Try.sizeOf76 rfl u0 rfl j4) ?_
         refine L_pur (c := fPtr (ePtr up0 x1 3) 1) rfl rfl (.yes2 rfl rfl o0) (fun _ _ hd => P_fieldAddr at_76_1 rfl (PT.ptr c5)) ?_
         refine L_ld (c := .int .i64 ((o3).Loom)) rfl rfl (.yes2 rfl rfl o0) (fun _ _ h => h.ch) d5 rfl ?_
         refine L_pur (c := .bool (((j3).Loom == (o3).Loom))) rfl rfl (.yes2 rfl rfl o0) (fun _ _ hd => P_int rfl rfl rfl) ?_
         refine L_pur (c := .bool (((j3).Loom == (o3).Loom))) rfl rfl .plain (fun _ _ hd => P_pick (b := (j0 != x1)) rfl (pick_t o0 rfl)) ?_
         refine L_pur (c := .bool (((j3).Loom == (o3).Loom))) rfl rfl .plain (fun _ _ hd => P_move rfl) ?_
         refine L_pur (c := up0) rfl rfl (.yes2 rfl rfl j1) (fun _ _ hd => P_move z1) ?_
         refine L_pur (c := .int .i64 (j0)) rfl rfl (.yes2 rfl rfl j1) (fun _ _ hd => P_move j2) ?_
         refine L_pur (c := ePtr up0 j0 3) rfl rfl (.yes2 rfl rfl j1) (fun _ _ hd => P_indexAddr (α := LoomRun) Try.underlying31 Try.sizeOf76 rfl u0 rfl i5) ?_
         refine L_ld (c := o4) rfl rfl (.yes2 rfl rfl j1) (fun _ _ h => h.ch) n5 rfl ?_
         refine L_pur (c := up0) rfl rfl (.yes2 rfl rfl j1) (fun _ _ hd => P_move z1) ?_
         refine L_pur (c := .int .i64 (x1)) rfl rfl (.yes2 rfl rfl j1) (fun _ _ hd => P_move i3) ?_
         refine L_pur (c := ePtr up0 x1 3) rfl rfl (.yes2 rfl rfl j1) (fun _ _ hd => P_indexAddr (α := LoomRun) Try.underlying31 Try.sizeOf76 rfl u0 rfl j5) ?_
         refine L_ld (c := p4) rfl rfl (.yes2 rfl rfl j1) (fun _ _ h => h.ch) o5 rfl ?_
         refine L_do (φ := fun v g w => v = .bool (u3)) rfl rfl (.yes2 rfl rfl j1) (fun g w hd => D_call (g := g) (vs := [o4, p4]) en76 (.cons rfl (.cons rfl .nil)) (wk76 (i6.ext hd.1) (j6.ext hd.1) p5) fun g' w' v hs hr => ⟨g', hs, hr⟩) (fun u6 hv => ?_)
         obtain ⟨_, _, _, rfl⟩ := hv
         refine L_pur (c := .bool (u3)) rfl rfl .plain (fun _ _ hd => P_pick (b := ((j3).Loom == (o3).Loom)) rfl (pick_t j1 rfl)) ?_
         refine L_pur (c := .bool (u3)) rfl rfl .plain (fun _ _ hd => P_move rfl) ?_
         refine L_pur (c := .int .i64 (d3)) rfl rfl (.yes2 rfl rfl p3) (fun _ _ hd => P_move z3) ?_
         refine L_pur (c := .bool ((decide (d3 < (0 : Int))))) rfl rfl (.yes2 rfl rfl p3) (fun _ _ hd => P_int rfl rfl rfl) ?_
         refine L_pur (c := .bool ((decide (d3 < (0 : Int))))) rfl rfl (.yes2 rfl rfl p3) (fun _ _ hd => P_move rfl) ?_
         refine L_skip rfl (.no2 rfl rfl z2 rfl) ?_
         refine L_skip rfl (.no2 rfl rfl z2 rfl) ?_
         refine L_skip rfl (.no2 rfl rfl z2 rfl) ?_
         refine L_skip rfl (.no2 rfl rfl z2 rfl) ?_
         refine L_skip rfl (.no2 rfl rfl z2 rfl) ?_
         refine L_skip rfl (.no2 rfl rfl z2 rfl) ?_
         refine L_skip rfl (.no2 rfl rfl z2 rfl) ?_
         refine L_skip rfl (.no2 rfl rfl z2 rfl) ?_
         refine L_skip rfl (.no2 rfl rfl z2 rfl) ?_
         refine L_pur (c := .bool true) rfl rfl (.yes2 rfl rfl p3) (fun _ _ hd => P_pick (b := (decide (d3 < (0 : Int)))) rfl (pick_t z2 rfl)) ?_
         refine L_pur (c := .bool true) rfl rfl .plain (fun _ _ hd => P_pick (b := u3) rfl (pick_t p3 rfl)) ?_
         refine L_nil fun a8 b9 hall => ?_
         have hs := hall.1
         have hfr := hfr.ext hs
         have u0 := u0.ext hs
         clear hs hall
         refine EL_nil ?_
         obtain rfl := sinj h
         exact hQ _ _ ⟨a8, hfr, z1, u0, i3, z3, j2, rfl⟩
        ·obtain ⟨p6, k6, h⟩ := bsome h
         have b8 := PT_idx u0 k6
         refine L_load (x := .tmp 46) Try.isAgg76 Try.sizeOf76 b8 fun v6 c8 n7 => ?_
         obtain ⟨q6, l6, h⟩ := bsome h
         have d8 := PT_idx u0 l6
         refine L_load (x := .tmp 50) Try.isAgg76 Try.sizeOf76 d8 fun x6 e8 o7 => ?_
         obtain ⟨m4, p7, h⟩ := bsome h
         refine E_drawL (g := u4) (n := 42) [(25, (fun v g w => v = .bool (u3))), (39, (fun v g w => v = .bool (m4)))] [0, 1, 2, 3, 4, 5, 6, 7, 8, 9, 10, 11, 12, 13, 14, 15, 16, 17, 18, 19, 20, 21, 22, 23, 24, 25, 26, 27, 28, 29, 30, 31, 32, 33, 34, 35, 36, 37, 38, 39, 40, 41] rfl mixed (by kernel_rfl) (⟨fun _ => up_eq _, fun _ => up_eq _, trivial⟩) ?_
         refine L_pur (c := .int .i64 (j0)) rfl rfl .plain (fun _ _ hd => P_move j2) ?_
         refine L_pur (c := .int .i64 (x1)) rfl rfl .plain (fun _ _ hd => P_move i3) ?_
         refine L_pur (c := .bool ((j0 != x1))) rfl rfl .plain (fun _ _ hd => P_int rfl rfl rfl) ?_
         refine L_pur (c := .bool ((j0 != x1))) rfl rfl .plain (fun _ _ hd => P_move rfl) ?_
         refine L_pur (c := up0) rfl rfl (.yes2 rfl rfl o0) (fun _ _ hd => P_move z1) ?_
         refine L_pur (c := .int .i64 (j0)) rfl rfl (.yes2 rfl rfl o0) (fun _ _ hd => P_move j2) ?_
         refine L_pur (c := ePtr up0 j0 3) rfl rfl (.yes2 rfl rfl o0) (fun _ _ hd => P_indexAddr (α := LoomRun) Try.underlying31 Try.sizeOf76 rfl u0 rfl i4) ?_
         refine L_pur (c := fPtr (ePtr up0 j0 3) 1) rfl rfl (.yes2 rfl rfl o0) (fun _ _ hd => P_fieldAddr at_76_1 rfl (PT.ptr x4)) ?_
         refine L_ld (c := .int .i64 ((j3).Loom)) rfl rfl (.yes2 rfl rfl o0) (fun _ _ h => h.ch) z4 rfl ?_
         refine L_pur (c := up0) rfl rfl (.yes2 rfl rfl o0) (fun _ _ hd => P_move z1) ?_
         refine L_pur (c := .int .i64 (x1)) rfl rfl (.yes2 rfl rfl o0) (fun _ _ hd => P_move i3) ?_
         refine L_pur (c := ePtr up0 x1 3) rfl rfl (.yes2 rfl rfl o0) (fun _ _ hd => P_indexAddr (α := LoomRun) Try.underlying31 Try.sizeOf76 rfl u0 rfl j4) ?_
         refine L_pur (c := fPtr (ePtr up0 x1 3) 1) rfl rfl (.yes2 rfl rfl o0) (fun _ _ hd => P_fieldAddr at_76_1 rfl (PT.ptr c5)) ?_
         refine L_ld (c := .int .i64 ((o3).Loom)) rfl rfl (.yes2 rfl rfl o0) (fun _ _ h => h.ch) d5 rfl ?_
         refine L_pur (c := .bool (((j3).Loom == (o3).Loom))) rfl rfl (.yes2 rfl rfl o0) (fun _ _ hd => P_int rfl rfl rfl) ?_
         refine L_pur (c := .bool (((j3).Loom == (o3).Loom))) rfl rfl .plain (fun _ _ hd => P_pick (b := (j0 != x1)) rfl (pick_t o0 rfl)) ?_
         refine L_pur (c := .bool (((j3).Loom == (o3).Loom))) rfl rfl .plain (fun _ _ hd => P_move rfl) ?_
         refine L_pur (c := up0) rfl rfl (.yes2 rfl rfl j1) (fun _ _ hd => P_move z1) ?_
         refine L_pur (c := .int .i64 (j0)) rfl rfl (.yes2 rfl rfl j1) (fun _ _ hd => P_move j2) ?_
         refine L_pur (c := ePtr up0 j0 3) rfl rfl (.yes2 rfl rfl j1) (fun _ _ hd => P_indexAddr (α := LoomRun) Try.underlying31 Try.sizeOf76 rfl u0 rfl i5) ?_
         refine L_ld (c := o4) rfl rfl (.yes2 rfl rfl j1) (fun _ _ h => h.ch) n5 rfl ?_
         refine L_pur (c := up0) rfl rfl (.yes2 rfl rfl j1) (fun _ _ hd => P_move z1) ?_
         refine L_pur (c := .int .i64 (x1)) rfl rfl (.yes2 rfl rfl j1) (fun _ _ hd => P_move i3) ?_
         refine L_pur (c := ePtr up0 x1 3) rfl rfl (.yes2 rfl rfl j1) (fun _ _ hd => P_indexAddr (α := LoomRun) Try.underlying31 Try.sizeOf76 rfl u0 rfl j5) ?_
         refine L_ld (c := p4) rfl rfl (.yes2 rfl rfl j1) (fun _ _ h => h.ch) o5 rfl ?_
         refine L_do (φ := fun v g w => v = .bool (u3)) rfl rfl (.yes2 rfl rfl j1) (fun g w hd => D_call (g := g) (vs := [o4, p4]) en76 (.cons rfl (.cons rfl .nil)) (wk76 (i6.ext hd.1) (j6.ext hd.1) p5) fun g' w' v hs hr => ⟨g', hs, hr⟩) (fun u6 hv => ?_)
         obtain ⟨_, _, _, rfl⟩ := hv
         refine L_pur (c := .bool (u3)) rfl rfl .plain (fun _ _ hd => P_pick (b := ((j3).Loom == (o3).Loom)) rfl (pick_t j1 rfl)) ?_
         refine L_pur (c := .bool (u3)) rfl rfl .plain (fun _ _ hd => P_move rfl) ?_
         refine L_pur (c := .int .i64 (d3)) rfl rfl (.yes2 rfl rfl p3) (fun _ _ hd => P_move z3) ?_
         refine L_pur (c := .bool ((decide (d3 < (0 : Int))))) rfl rfl (.yes2 rfl rfl p3) (fun _ _ hd => P_int rfl rfl rfl) ?_
         refine L_pur (c := .bool ((decide (d3 < (0 : Int))))) rfl rfl (.yes2 rfl rfl p3) (fun _ _ hd => P_move rfl) ?_
         refine L_pur (c := up0) rfl rfl (.yes2 rfl rfl z2) (fun _ _ hd => P_move z1) ?_
         refine L_pur (c := .int .i64 (d3)) rfl rfl (.yes2 rfl rfl z2) (fun _ _ hd => P_move z3) ?_
         refine L_pur (c := ePtr up0 d3 3) rfl rfl (.yes2 rfl rfl z2) (fun _ _ hd => P_indexAddr (α := LoomRun) Try.underlying31 Try.sizeOf76 rfl u0 rfl k6) ?_
         refine L_ld (c := v6) rfl rfl (.yes2 rfl rfl z2) (fun _ _ h => h.ch) n7 rfl ?_
         refine L_pur (c := up0) rfl rfl (.yes2 rfl rfl z2) (fun _ _ hd => P_move z1) ?_
         refine L_pur (c := .int .i64 (j0)) rfl rfl (.yes2 rfl rfl z2) (fun _ _ hd => P_move j2) ?_
         refine L_pur (c := ePtr up0 j0 3) rfl rfl (.yes2 rfl rfl z2) (fun _ _ hd => P_indexAddr (α := LoomRun) Try.underlying31 Try.sizeOf76 rfl u0 rfl l6) ?_
         refine L_ld (c := x6) rfl rfl (.yes2 rfl rfl z2) (fun _ _ h => h.ch) o7 rfl ?_
         refine L_do (φ := fun v g w => v = .bool (m4)) rfl rfl (.yes2 rfl rfl z2) (fun g w hd => D_call (g := g) (vs := [v6, x6]) en76 (.cons rfl (.cons rfl .nil)) (wk76 (c8.ext hd.1) (e8.ext hd.1) p7) fun g' w' v hs hr => ⟨g', hs, hr⟩) (fun c9 hv => ?_)
         obtain ⟨_, _, _, rfl⟩ := hv
         refine L_pur (c := .bool (m4)) rfl rfl (.yes2 rfl rfl p3) (fun _ _ hd => P_pick (b := (decide (d3 < (0 : Int)))) rfl (pick_f z2 rfl)) ?_
         refine L_pur (c := .bool (m4)) rfl rfl .plain (fun _ _ hd => P_pick (b := u3) rfl (pick_t p3 rfl)) ?_
         refine L_nil fun g8 d9 hall => ?_
         have hs := hall.1
         have hfr := hfr.ext hs
         have u0 := u0.ext hs
         clear hs hall
         refine EL_nil ?_
         obtain rfl := sinj h
         exact hQ _ _ ⟨g8, hfr, z1, u0, i3, z3, j2, rfl⟩
       ·refine E_drawL (g := u4) (n := 42) [(25, (fun v g w => v = .bool (u3)))] [0, 1, 2, 3, 4, 5, 6, 7, 8, 9, 10, 11, 12, 13, 14, 15, 16, 17, 18, 19, 20, 21, 22, 23, 24, 25, 26, 27, 28, 29, 30, 31, 32, 33, 34, 35, 36, 37, 38, 39, 40, 41] rfl mixed (by kernel_rfl) (⟨fun _ => up_eq _, trivial⟩) ?_
        refine L_pur (c := .int .i64 (j0)) rfl rfl .plain (fun _ _ hd => P_move j2) ?_
        refine L_pur (c := .int .i64 (x1)) rfl rfl .plain (fun _ _ hd => P_move i3) ?_
        refine L_pur (c := .bool ((j0 != x1))) rfl rfl .plain (fun _ _ hd => P_int rfl rfl rfl) ?_
        refine L_pur (c := .bool ((j0 != x1))) rfl rfl .plain (fun _ _ hd => P_move rfl) ?_
        refine L_pur (c := up0) rfl rfl (.yes2 rfl rfl o0) (fun _ _ hd => P_move z1) ?_
        refine L_pur (c := .int .i64 (j0)) rfl rfl (.yes2 rfl rfl o0) (fun _ _ hd => P_move j2) ?_
        refine L_pur (c := ePtr up0 j0 3) rfl rfl (.yes2 rfl rfl o0) (fun _ _ hd => P_indexAddr (α := LoomRun) Try.underlying31 Try.sizeOf76 rfl u0 rfl i4) ?_
        refine L_pur (c := fPtr (ePtr up0 j0 3) 1) rfl rfl (.yes2 rfl rfl o0) (fun _ _ hd => P_fieldAddr at_76_1 rfl (PT.ptr x4)) ?_
        refine L_ld (c := .int .i64 ((j3).Loom)) rfl rfl (.yes2 rfl rfl o0) (fun _ _ h => h.ch) z4 rfl ?_
        refine L_pur (c := up0) rfl rfl (.yes2 rfl rfl o0) (fun _ _ hd => P_move z1) ?_
        refine L_pur (c := .int .i64 (x1)) rfl rfl (.yes2 rfl rfl o0) (fun _ _ hd => P_move i3) ?_
        refine L_pur (c := ePtr up0 x1 3) rfl rfl (.yes2 rfl rfl o0) (fun _ _ hd => P_indexAddr (α := LoomRun) Try.underlying31 Try.sizeOf76 rfl u0 rfl j4) ?_
        refine L_pur (c := fPtr (ePtr up0 x1 3) 1) rfl rfl (.yes2 rfl rfl o0) (fun _ _ hd => P_fieldAddr at_76_1 rfl (PT.ptr c5)) ?_
        refine L_ld (c := .int .i64 ((o3).Loom)) rfl rfl (.yes2 rfl rfl o0) (fun _ _ h => h.ch) d5 rfl ?_
        refine L_pur (c := .bool (((j3).Loom == (o3).Loom))) rfl rfl (.yes2 rfl rfl o0) (fun _ _ hd => P_int rfl rfl rfl) ?_
        refine L_pur (c := .bool (((j3).Loom == (o3).Loom))) rfl rfl .plain (fun _ _ hd => P_pick (b := (j0 != x1)) rfl (pick_t o0 rfl)) ?_
        refine L_pur (c := .bool (((j3).Loom == (o3).Loom))) rfl rfl .plain (fun _ _ hd => P_move rfl) ?_
        refine L_pur (c := up0) rfl rfl (.yes2 rfl rfl j1) (fun _ _ hd => P_move z1) ?_
        refine L_pur (c := .int .i64 (j0)) rfl rfl (.yes2 rfl rfl j1) (fun _ _ hd => P_move j2) ?_
        refine L_pur (c := ePtr up0 j0 3) rfl rfl (.yes2 rfl rfl j1) (fun _ _ hd => P_indexAddr (α := LoomRun) Try.underlying31 Try.sizeOf76 rfl u0 rfl i5) ?_
        refine L_ld (c := o4) rfl rfl (.yes2 rfl rfl j1) (fun _ _ h => h.ch) n5 rfl ?_
        refine L_pur (c := up0) rfl rfl (.yes2 rfl rfl j1) (fun _ _ hd => P_move z1) ?_
        refine L_pur (c := .int .i64 (x1)) rfl rfl (.yes2 rfl rfl j1) (fun _ _ hd => P_move i3) ?_
        refine L_pur (c := ePtr up0 x1 3) rfl rfl (.yes2 rfl rfl j1) (fun _ _ hd => P_indexAddr (α := LoomRun) Try.underlying31 Try.sizeOf76 rfl u0 rfl j5) ?_
        refine L_ld (c := p4) rfl rfl (.yes2 rfl rfl j1) (fun _ _ h => h.ch) o5 rfl ?_
        refine L_do (φ := fun v g w => v = .bool (u3)) rfl rfl (.yes2 rfl rfl j1) (fun g w hd => D_call (g := g) (vs := [o4, p4]) en76 (.cons rfl (.cons rfl .nil)) (wk76 (i6.ext hd.1) (j6.ext hd.1) p5) fun g' w' v hs hr => ⟨g', hs, hr⟩) (fun u6 hv => ?_)
        obtain ⟨_, _, _, rfl⟩ := hv
        refine L_pur (c := .bool (u3)) rfl rfl .plain (fun _ _ hd => P_pick (b := ((j3).Loom == (o3).Loom)) rfl (pick_t j1 rfl)) ?_
        refine L_pur (c := .bool (u3)) rfl rfl .plain (fun _ _ hd => P_move rfl) ?_
        refine L_skip rfl (.no2 rfl rfl p3 rfl) ?_
        refine L_skip rfl (.no2 rfl rfl p3 rfl) ?_
        refine L_skip rfl (.no2 rfl rfl p3 rfl) ?_
        refine L_dead (fun _ => rfl) 9 rfl ?_
        refine L_skip rfl (.no2 rfl rfl p3 rfl) ?_
        refine L_pur (c := .bool false) rfl rfl .plain (fun _ _ hd => P_pick (b := u3) rfl (pick_f p3 rfl)) ?_
        refine L_nil fun i8 e9 hall => ?_
        have hs := hall.1
        have hfr := hfr.ext hs
        have u0 := u0.ext hs
        clear hs hall
        refine EL_nil ?_
        obtain rfl := sinj h
        exact hQ _ _ ⟨i8, hfr, z1, u0, i3, z3, j2, rfl⟩
      ·refine E_drawL (g := u4) (n := 42) [] [0, 1, 2, 3, 4, 5, 6, 7, 8, 9, 10, 11, 12, 13, 14, 15, 16, 17, 18, 19, 20, 21, 22, 23, 24, 25, 26, 27, 28, 29, 30, 31, 32, 33, 34, 35, 36, 37, 38, 39, 40, 41] rfl mixed (by kernel_rfl) trivial ?_
       refine L_pur (c := .int .i64 (j0)) rfl rfl .plain (fun _ _ hd => P_move j2) ?_
       refine L_pur (c := .int .i64 (x1)) rfl rfl .plain (fun _ _ hd => P_move i3) ?_
       refine L_pur (c := .bool ((j0 != x1))) rfl rfl .plain (fun _ _ hd => P_int rfl rfl rfl) ?_
       refine L_pur (c := .bool ((j0 != x1))) rfl rfl .plain (fun _ _ hd => P_move rfl) ?_
       refine L_pur (c := up0) rfl rfl (.yes2 rfl rfl o0) (fun _ _ hd => P_move z1) ?_
       refine L_pur (c := .int .i64 (j0)) rfl rfl (.yes2 rfl rfl o0) (fun _ _ hd => P_move j2) ?_
       refine L_pur (c := ePtr up0 j0 3) rfl rfl (.yes2 rfl rfl o0) (fun _ _ hd => P_indexAddr (α := LoomRun) Try.underlying31 Try.sizeOf76 rfl u0 rfl i4) ?_
       refine L_pur (c := fPtr (ePtr up0 j0 3) 1) rfl rfl (.yes2 rfl rfl o0) (fun _ _ hd => P_fieldAddr at_76_1 rfl (PT.ptr x4)) ?_
       refine L_ld (c := .int .i64 ((j3).Loom)) rfl rfl (.yes2 rfl rfl o0) (fun _ _ h => h.ch) z4 rfl ?_
       refine L_pur (c := up0) rfl rfl (.yes2 rfl rfl o0) (fun _ _ hd => P_move z1) ?_
       refine L_pur (c := .int .i64 (x1)) rfl rfl (.yes2 rfl rfl o0) (fun _ _ hd => P_move i3) ?_
       refine L_pur (c := ePtr up0 x1 3) rfl rfl (.yes2 rfl rfl o0) (fun _ _ hd => P_indexAddr (α := LoomRun) Try.underlying31 Try.sizeOf76 rfl u0 rfl j4) ?_
       refine L_pur (c := fPtr (ePtr up0 x1 3) 1) rfl rfl (.yes2 rfl rfl o0) (fun _ _ hd => P_fieldAddr at_76_1 rfl (PT.ptr c5)) ?_
       refine L_ld (c := .int .i64 ((o3).Loom)) rfl rfl (.yes2 rfl rfl o0) (fun _ _ h => h.ch) d5 rfl ?_
       refine L_pur (c := .bool (((j3).Loom == (o3).Loom))) rfl rfl (.yes2 rfl rfl o0) (fun _ _ hd => P_int rfl rfl rfl) ?_
       refine L_pur (c := .bool (((j3).Loom == (o3).Loom))) rfl rfl .plain (fun _ _ hd => P_pick (b := (j0 != x1)) rfl (pick_t o0 rfl)) ?_
       refine L_pur (c := .bool (((j3).Loom == (o3).Loom))) rfl rfl .plain (fun _ _ hd => P_move rfl) ?_
       refine L_skip rfl (.no2 rfl rfl j1 rfl) ?_
       refine L_skip rfl (.no2 rfl rfl j1 rfl) ?_
       refine L_skip rfl (.no2 rfl rfl j1 rfl) ?_
       refine L_skip rfl (.no2 rfl rfl j1 rfl) ?_
       refine L_skip rfl (.no2 rfl rfl j1 rfl) ?_
       refine L_skip rfl (.no2 rfl rfl j1 rfl) ?_
       refine L_skip rfl (.no2 rfl rfl j1 rfl) ?_
       refine L_skip rfl (.no2 rfl rfl j1 rfl) ?_
       refine L_skip rfl (.no2 rfl rfl j1 rfl) ?_
       refine L_pur (c := .bool false) rfl rfl .plain (fun _ _ hd => P_pick (b := ((j3).Loom == (o3).Loom)) rfl (pick_f j1 rfl)) ?_
       refine L_dead (fun _ => rfl) 15 rfl ?_
       refine L_nil fun j8 g9 hall => ?_
       have hs := hall.1
       have hfr := hfr.ext hs
       have u0 := u0.ext hs
       clear hs hall
       refine EL_nil ?_
       obtain rfl := sinj h
       exact hQ _ _ ⟨j8, hfr, z1, u0, i3, z3, j2, rfl⟩
     ·refine E_drawL (g := u4) (n := 42) [] [0, 1, 2, 3, 4, 5, 6, 7, 8, 9, 10, 11, 12, 13, 14, 15, 16, 17, 18, 19, 20, 21, 22, 23, 24, 25, 26, 27, 28, 29, 30, 31, 32, 33, 34, 35, 36, 37, 38, 39, 40, 41] rfl mixed (by kernel_rfl) trivial ?_
      refine L_pur (c := .int .i64 (j0)) rfl rfl .plain (fun _ _ hd => P_move j2) ?_
      refine L_pur (c := .int .i64 (x1)) rfl rfl .plain (fun _ _ hd => P_move i3) ?_
      refine L_pur (c := .bool ((j0 != x1))) rfl rfl .plain (fun _ _ hd => P_int rfl rfl rfl) ?_
      refine L_pur (c := .bool ((j0 != x1))) rfl rfl .plain (fun _ _ hd => P_move rfl) ?_
      refine L_skip rfl (.no2 rfl rfl o0 rfl) ?_
      refine L_skip rfl (.no2 rfl rfl o0 rfl) ?_
      refine L_skip rfl (.no2 rfl rfl o0 rfl) ?_
      refine L_skip rfl (.no2 rfl rfl o0 rfl) ?_
      refine L_skip rfl (.no2 rfl rfl o0 rfl) ?_
      refine L_skip rfl (.no2 rfl rfl o0 rfl) ?_
      refine L_skip rfl (.no2 rfl rfl o0 rfl) ?_
      refine L_skip rfl (.no2 rfl rfl o0 rfl) ?_
      refine L_skip rfl (.no2 rfl rfl o0 rfl) ?_
      refine L_skip rfl (.no2 rfl rfl o0 rfl) ?_
      refine L_skip rfl (.no2 rfl rfl o0 rfl) ?_
      refine L_pur (c := .bool false) rfl rfl .plain (fun _ _ hd => P_pick (b := (j0 != x1)) rfl (pick_f o0 rfl)) ?_
      refine L_dead (fun _ => rfl) 26 rfl ?_
      refine L_nil fun k8 i9 hall => ?_
      have hs := hall.1
      have hfr := hfr.ext hs
      have u0 := u0.ext hs
      clear hs hall
      refine EL_nil ?_
      obtain rfl := sinj h
      exact hQ _ _ ⟨k8, hfr, z1, u0, i3, z3, j2, rfl⟩
    ·clear hx
     obtain ⟨y6, hfr, b6, c6, d6, a7, l5, q5⟩ := hR
     rcases csome h with ⟨t5, h⟩ | ⟨t5, h⟩
     ·refine E_cond_true (Eq.trans (show ev _ _ = .bool (c4) from q5) (congrArg Value.bool t5)) ?_
      refine E_region (EL_mv l5 rfl ?_)
      refine EL_at (.int .i64 (j0)) rfl rfl ?_
      refine EL_nil (blk_n ?_)
      obtain rfl := sinj h
      exact hQ _ _ ⟨y6, hfr, b6, c6, d6, rfl, l5⟩
     ·refine E_cond_false (Eq.trans (show ev _ _ = .bool (c4) from q5) (congrArg Value.bool t5)) ?_
      refine E_skip (blk_n ?_)
      obtain rfl := sinj h
      exact hQ _ _ ⟨y6, hfr, b6, c6, d6, a7, l5⟩
   ·clear hx
    obtain ⟨l8, hfr, b7, c7, d7, e7, g7⟩ := hR
    refine E_region (EL_mv g7 rfl ?_)
    refine EL_in (.int .i64 ((w64 (j0 + (1 : Int))))) rfl rfl rfl rfl ?_
    refine EL_at (.int .i64 ((w64 (j0 + (1 : Int))))) rfl rfl ?_
    exact EL_nil (thn_n (j7 (n4, (w64 (j0 + (1 : Int)))) _ _ ⟨l8, hfr, b7, c7, d7, e7, rfl⟩ h))
 ·clear hx
  obtain ⟨j9, hfr, i7⟩ := hR
  refine E_seq (E_region (EL_mv i7 rfl ?_))
  refine EL_at (.int .i64 (d4)) rfl rfl ?_
  refine EL_nil (thn_n (E_ret ?_))
  obtain rfl := sinj h
  exact end1 rfl rfl (show _ = .int .i64 (d4) from rfl) ⟨_, hfr, rfl⟩
/-- griffe/loom.within$1 -/
def f96 (x0 : Int) (z0 : Int) (z1 : Int) : Option (Bool) :=
 Option.bind (α := Bool) (
  bif (decide (x0 < z0)) then
   some (true)
  else
   some ((decide (x0 > z1)))
  ) fun j0 =>
 some (j0)
theorem en96 : Enters Try.prog 96 := enters_of Try.func96 (by kernel_rfl) rfl
theorem wk96 {gI : Gh} {wI : World} {x0 : Int} {z0 : Int} {z1 : Int} {pf0 : Value} (qf0 : PT gI.m wI z0 pf0) {pf1 : Value} (qf1 : PT gI.m wI z1 pf1) {r : Bool} (h : f96 x0 z0 z1 = some r) : Fn Try.prog 96 #[.int .i64 (x0), pf0, pf1] gI wI (fun _ _ v => v = .bool (r)) := by
 unfold f96 at h
 refine fn_of_E Try.func96 rfl (Nat.le_of_ble_eq_true rfl) fun g0 hm hfr => ?_
 have qf0 : PT g0.m wI z0 pf0 := hm ▸ qf0
 have qf1 : PT g0.m wI z1 pf1 := hm ▸ qf1
 show E _ 13 none _ _ _ _ _
 refine E_seq (E_region (EL_at (.bool false) rfl rfl ?_))
 refine EL_nil (thn_n ?_)
 obtain ⟨j0, hx, h⟩ := bsome h
 refine E_join (fun e w => ∃ (g : Gh) , Fr gI wI g w ∧ e 4 = .bool (j0)) (fun Q' hQ => ?_) (fun u0 w7 hR => ?_)
 ·replace h := hx
  clear hx
  refine E_region (EL_mw (.int .i64 (x0)) rfl rfl ?_)
  refine EL_do .plain rfl (D_load (g := g0) Try.isAgg3 Try.sizeOf3 rfl qf0 fun v4 r4 => ?_)
  obtain rfl := RV_int.1 r4
  refine EL_in (.bool ((decide (x0 < z0)))) rfl rfl rfl rfl ?_
  refine EL_mw (.bool ((decide (x0 < z0)))) rfl rfl ?_
  rcases csome h with ⟨hc5, h⟩ | ⟨hc5, h⟩
  ·refine EL_skip (.no2 rfl rfl hc5 rfl) rfl ?_
   refine EL_skip (.no2 rfl rfl hc5 rfl) rfl ?_
   refine EL_skip (.no2 rfl rfl hc5 rfl) rfl ?_
   refine EL_pur (v := .bool true) (P_pick (b := (decide (x0 < z0))) rfl (pick_t hc5 rfl)) .plain rfl ?_
   refine EL_at (.bool true) rfl rfl ?_
   refine EL_nil ?_
   obtain rfl := sinj h
   exact hQ _ _ ⟨g0, hfr, rfl⟩
  ·refine EL_pur (v := .int .i64 (x0)) (P_move rfl) (.yes2 rfl rfl hc5) rfl ?_
   refine EL_do (.yes2 rfl rfl hc5) rfl (D_load (g := g0) Try.isAgg3 Try.sizeOf3 rfl qf1 fun v6 r6 => ?_)
   obtain rfl := RV_int.1 r6
   refine EL_pur (v := .bool ((decide (x0 > z1)))) (P_int rfl rfl rfl) (.yes2 rfl rfl hc5) rfl ?_
   refine EL_pur (v := .bool ((decide (x0 > z1)))) (P_pick (b := (decide (x0 < z0))) rfl (pick_f hc5 rfl)) .plain rfl ?_
   refine EL_at (.bool ((decide (x0 > z1)))) rfl rfl ?_
   refine EL_nil ?_
   obtain rfl := sinj h
   exact hQ _ _ ⟨g0, hfr, rfl⟩
 ·clear hx
  obtain ⟨g7, hfr, o0⟩ := hR
  refine E_ret ?_
  obtain rfl := sinj h
  exact end1 rfl rfl (show _ = .bool (j0) from o0) ⟨_, hfr, rfl⟩
/-- slices.IndexFunc[[]griffe/api.LoomOrder,griffe/api.LoomOrder] -/
def f97 (x0 : List LoomOrder) (x1 : LoomOrder → Option Bool) : Option (Int) :=
 jn (σ := Unit) (fun (_ : Unit) =>
  some ((-1 : Int))
  ) fun k18 =>
 lp (σ := Int) (fun k19 j0 =>
  bif (decide (j0 < ((x0).length : Int))) then
   jn (σ := Unit) (fun (_ : Unit) =>
    k19 ((w64 (j0 + (1 : Int))))
    ) fun k28 =>
   (idx x0 j0).bind fun d4 =>
   (x1 d4).bind fun i4 =>
   bif i4 then
    some (j0)
   else
    k28 ()
  else
   k18 ()
  ) big ((0 : Int))
theorem en97 : Enters Try.prog 97 := enters_of Try.func97 (by kernel_rfl) rfl
theorem wk97 {gI : Gh} {wI : World} {x0 : List LoomOrder} {x1 : LoomOrder → Option Bool} {up0 : Value} (rp0 : RV gI.m wI x0 up0) {up1 : Value} (rp1 : FnV1 Try.prog x1 up1 gI wI) {r : Int} (h : f97 x0 x1 = some r) : Fn Try.prog 97 #[up0, up1] gI wI (fun _ _ v => v = .int .i64 (r)) := by
 unfold f97 at h
 refine fn_of_E Try.func97 rfl (Nat.le_of_ble_eq_true rfl) fun g0 hm hfr => ?_
 have rp0 : RV g0.m wI x0 up0 := hm ▸ rp0
 obtain ⟨ff1, fa1, fc1, rfl, fen1, fcl1⟩ := rp1
 show E _ 19 none _ _ _ _ _
 refine E_seq (E_region (EL_at (.int .i64 (0)) rfl rfl ?_))
 refine EL_nil (thn_n (E_joinC h (fun (s : Unit) e w => ∃ (g : Gh) , Fr gI wI g w) (fun X18 k18 j4 h => ?_) ?_))
 ·refine E_seq (E_region (EL_mw up0 rfl rfl ?_))
  refine EL_pur (v := .int .i64 ((x0).length : Int)) (P_len Try.underlying25 rfl rp0) .plain rfl ?_
  refine EL_mw (.int .i64 (0)) rfl rfl ?_
  refine EL_nil (thn_n (E_block ?_))
  refine E_lp h (fun (s : Int) e w => ∃ (g : Gh) , Fr gI wI g w ∧ e 0 = up0 ∧ RV g.m w (x0 : List LoomOrder) up0 ∧ e 1 = (.func (.func ff1) fa1 fc1) ∧ e 7 = .int .i64 (((x0).length : Int)) ∧ e 8 = .int .i64 (s)) ⟨g0, hfr, rfl, rp0, rfl, rfl, rfl⟩ (fun X19 k19 m4 => ?_)
  rintro j0 d5 l5 ⟨i3, hfr, j2, o0, z2, d3, u0⟩ h
  refine E_seq (E_region (EL_in (.bool ((decide (j0 < ((x0).length : Int))))) u0 d3 rfl rfl ?_))
  refine EL_nil (thn_n (E_seq ?_))
  rcases csome h with ⟨j1, h⟩ | ⟨j1, h⟩
  ·refine E_ct j1 rfl ?_
   refine E_skip (thn_n (E_joinC h (fun (s : Unit) e w => ∃ (g : Gh) , Fr gI wI g w ∧ e 0 = up0 ∧ RV g.m w (x0 : List LoomOrder) up0 ∧ e 1 = (.func (.func ff1) fa1 fc1) ∧ e 7 = .int .i64 (((x0).length : Int)) ∧ e 8 = .int .i64 (j0)) (fun X28 k28 n4 h => ?_) ?_))
   ·refine E_block ?_
    refine E_seq (E_region (EL_mv u0 rfl ?_))
    refine EL_at (.int .i64 (j0)) rfl rfl ?_
    refine EL_nil (thn_n (E_seq (E_region (EL_mv z2 rfl ?_))))
    refine EL_mv j2 rfl ?_
    refine EL_mw (.int .i64 (j0)) rfl rfl ?_
    obtain ⟨d4, j3, h⟩ := bsome h
    refine EL_pur (v := ePtr up0 j0 5) (P_indexAddr (α := LoomOrder) Try.underlying25 Try.sizeOf82 rfl o0 rfl j3) .plain rfl ?_
    have p4 := PT_idx o0 j3
    refine EL_do .plain rfl (D_load (g := i3) Try.isAgg82 Try.sizeOf82 rfl p4 fun u4 x4 => ?_)
    obtain ⟨i4, o4, h⟩ := bsome h
    refine EL_do .plain rfl (D_callv (g := i3) (vs := [u4]) rfl fen1 (.cons rfl .nil) (fcl1 _ _ hfr.ch _ _ _  x4 o4) fun z4 m5 n5 hs hr => ?_)
    have hfr := hfr.ext hs
    have o0 := o0.ext hs
    obtain rfl := RV_bool.1 hr
    refine EL_nil (thn_n ?_)
    rcases csome h with ⟨z1, h⟩ | ⟨z1, h⟩
    ·refine E_ct z1 rfl ?_
     refine E_seq (E_region (EL_mw (.int .i64 (j0)) rfl rfl ?_))
     refine EL_at (.int .i64 (j0)) rfl rfl ?_
     refine EL_nil (thn_n (E_ret (blk_r ?_)))
     refine thn_r ?_
     refine thn_r ?_
     refine blk_r ?_
     refine thn_r ?_
     obtain rfl := sinj h
     exact end1 rfl rfl (show _ = .int .i64 (j0) from rfl) ⟨_, hfr, rfl⟩
    ·refine E_cf z1 rfl ?_
     exact E_skip (blk_n (thn_n (n4 () _ _ ⟨z4, hfr, j2, o0, z2, d3, u0⟩ h)))
   ·rintro _ i5 o5 ⟨c5, hfr, o3, p3, u3, z3, c4⟩ h
    refine E_region (EL_in (.int .i64 ((w64 (j0 + (1 : Int))))) c4 rfl rfl rfl ?_)
    refine EL_mw (.int .i64 ((w64 (j0 + (1 : Int))))) rfl rfl ?_
    exact EL_nil (thn_n (m4 ((w64 (j0 + (1 : Int)))) _ _ ⟨c5, hfr, o3, p3, u3, z3, rfl⟩ h))
  ·refine E_cf j1 rfl ?_
   refine E_exit ?_
   refine thn_e ?_
   refine thn_e ?_
   refine blk_hit ?_
   exact thn_n (j4 () _ _ ⟨i3, hfr⟩ h)
 ·rintro _ j5 p5 ⟨q5, hfr⟩ h
  refine E_seq (E_region (EL_at (.int .i64 (-1)) rfl rfl ?_))
  refine EL_nil (thn_n (E_ret ?_))
  obtain rfl := sinj h
  exact end1 rfl rfl (show _ = .int .i64 (-1) from rfl) ⟨_, hfr, rfl⟩
/-- griffe/loom.subsets$1 -/
def f99 (z0 : Int) (σ : Type) (cons : Cons σ Int) (s0 : σ) : Option σ :=
 lp (σ := σ × Int) (fun k2 (c4, j0) =>
  jn (σ := σ) (fun j2 =>
   k2 (j2, (bit64 .and (w64 (j0 - (1 : Int))) z0))
   ) fun u4 =>
  Option.bind (α := σ × Bool) (
   (cons c4 j0).bind fun (z1, j3) =>
   bif (!z1) then
    some (j3, true)
   else
    some (j3, (j0 == (0 : Int)))
   ) fun (j1, o0) =>
  bif o0 then
   some j1
  else
   u4 (j1)
  ) big (s0, z0)
theorem en99 : Enters Try.prog 99 := enters_of Try.func99 (by kernel_rfl) rfl
theorem wk99 {σ : Type} {cons : Cons σ Int} {s0 r : σ} {gI : Gh} {wI : World} {z0 : Int} {pf0 : Value} (qf0 : PT gI.m wI z0 pf0) (h : f99 z0 σ cons s0 = some r) : IterC Try.prog (RA1 (α := Int)) 99 #[] #[pf0] gI wI cons s0 r := by
 unfold f99 at h
 refine iter_of_E Try.func99 rfl (Nat.le_of_ble_eq_true rfl) fun l B J g0 hm hAb hRo hfr => ?_
 have qf0 : PT g0.m wI z0 pf0 := hm ▸ qf0
 show E _ 17 none _ _ (envAt #[.func (.yield l) #[] #[], pf0]) _ _
 refine E_seq (E_region (EL_do .plain rfl (D_load (g := g0) Try.isAgg3 Try.sizeOf3 rfl qf0 fun v1 r1 => ?_)))
 obtain rfl := RV_int.1 r1
 refine EL_at (.int .i64 (z0)) rfl rfl ?_
 refine EL_nil (thn_n (E_block ?_))
 refine E_lp h (fun (s : σ × Int) e w => ∃ (g : Gh) , FrY gI wI B J (s.1) g w ∧ e 0 = (.func (.yield l) #[] #[]) ∧ e 1 = pf0 ∧ PT g.m w (z0 : Int) pf0 ∧ e 3 = .int .i64 (s.2)) ⟨g0, hfr, rfl, rfl, qf0, rfl⟩ (fun X2 k2 hk2 => ?_)
 rintro ⟨c4, j0⟩ o5 w3 ⟨g3, hfr, o3, d4, z2, d3⟩ h
 refine E_joinC h (fun (s : σ) e w => ∃ (g : Gh) , FrY gI wI B J (s) g w ∧ e 0 = (.func (.yield l) #[] #[]) ∧ e 1 = pf0 ∧ PT g.m w (z0 : Int) pf0 ∧ e 3 = .int .i64 (j0)) (fun X12 u4 c5 h => ?_) ?_
 ·refine E_block ?_
  obtain ⟨⟨j1, o0⟩, hx, h⟩ := bsome h
  refine E_join (fun e w => ∃ (g : Gh) , FrY gI wI B J (j1) g w ∧ e 0 = (.func (.yield l) #[] #[]) ∧ e 1 = pf0 ∧ PT g.m w (z0 : Int) pf0 ∧ e 3 = .int .i64 (j0) ∧ e 16 = .bool (o0)) (fun Q' hQ => ?_) (fun m5 p5 hR => ?_)
  ·replace h := hx
   clear hx
   refine E_region (EL_mv o3 rfl ?_)
   refine EL_mv d3 rfl ?_
   obtain ⟨i5, d5, h⟩ := bsome h
   obtain ⟨z1, j3⟩ := i5
   refine EL_do .plain rfl (D_yield (g := g3) (x := j0) rfl (.cons rfl .nil) hRo hfr d5 ⟨_, rfl, (RV_int.2 rfl)⟩ fun x4 q5 hs hfrY => ?_)
   have z2 := z2.stp hs
   have hfr := hfrY
   clear hfrY
   refine EL_pur (v := .bool (!z1)) (P_not rfl) .plain rfl ?_
   refine EL_mw (.bool (!z1)) rfl rfl ?_
   rcases csome h with ⟨u0, h⟩ | ⟨u0, h⟩
   ·refine EL_skip (.no2 rfl rfl u0 rfl) rfl ?_
    refine EL_skip (.no2 rfl rfl u0 rfl) rfl ?_
    refine EL_pur (v := .bool true) (P_pick (b := (!z1)) rfl (pick_t u0 rfl)) .plain rfl ?_
    refine EL_nil ?_
    obtain ⟨rfl, rfl⟩ := pairs2 h
    exact hQ _ _ ⟨x4, hfr, o3, d4, z2, d3, rfl⟩
   ·refine EL_pur (v := .int .i64 (j0)) (P_move d3) (.yes2 rfl rfl u0) rfl ?_
    refine EL_pur (v := .bool ((j0 == (0 : Int)))) (P_int rfl rfl rfl) (.yes2 rfl rfl u0) rfl ?_
    refine EL_pur (v := .bool ((j0 == (0 : Int)))) (P_pick (b := (!z1)) rfl (pick_f u0 rfl)) .plain rfl ?_
    refine EL_nil ?_
    obtain ⟨rfl, rfl⟩ := pairs2 h
    exact hQ _ _ ⟨x4, hfr, o3, d4, z2, d3, rfl⟩
  ·clear hx
   obtain ⟨j5, hfr, i4, j4, m4, n4, i3⟩ := hR
   rcases csome h with ⟨p3, h⟩ | ⟨p3, h⟩
   ·refine E_cond_true (Eq.trans (show ev _ _ = .bool (o0) from i3) (congrArg Value.bool p3)) ?_
    refine E_ret (blk_r ?_)
    refine thn_r ?_
    refine thn_r ?_
    refine blk_r ?_
    obtain rfl := sinj h
    exact end0 rfl rfl (FrY.done hfr)
   ·refine E_cond_false (Eq.trans (show ev _ _ = .bool (o0) from i3) (congrArg Value.bool p3)) ?_
    exact E_skip (blk_n (thn_n (c5 (j1) _ _ ⟨j5, hfr, i4, j4, m4, n4⟩ h)))
 ·rintro j2 n5 t5 ⟨z4, hfr, o4, u3, z3, p4⟩ h
  refine E_region (EL_mv p4 rfl ?_)
  refine EL_in (.int .i64 ((w64 (j0 - (1 : Int))))) rfl rfl rfl rfl ?_
  refine EL_do .plain rfl (D_load (g := z4) Try.isAgg3 Try.sizeOf3 u3 z3 fun u5 l5 => ?_)
  obtain rfl := RV_int.1 l5
  refine EL_in (.int .i64 ((bit64 .and (w64 (j0 - (1 : Int))) z0))) rfl rfl rfl rfl ?_
  refine EL_at (.int .i64 ((bit64 .and (w64 (j0 - (1 : Int))) z0))) rfl rfl ?_
  exact EL_nil (thn_n (hk2 (j2, (bit64 .and (w64 (j0 - (1 : Int))) z0)) _ _ ⟨z4, hfr, o4, u3, z3, rfl⟩ h))
/-- cmp.isNaN[int] -/
def f102 (x0 : Int) : Option (Bool) :=
 some ((x0 != x0))
theorem en102 : Enters Try.prog 102 := enters_of Try.func102 (by kernel_rfl) rfl
theorem wk102 {gI : Gh} {wI : World} {x0 : Int}  {r : Bool} (h : f102 x0 = some r) : Fn Try.prog 102 #[.int .i64 (x0)] gI wI (fun _ _ v => v = .bool (r)) := by
 unfold f102 at h
 refine fn_of_E Try.func102 rfl (Nat.le_of_ble_eq_true rfl) fun g0 hm hfr => ?_
 show E _ 6 none _ _ _ _ _
 refine E_seq (E_region (EL_at (.bool false) rfl rfl ?_))
 refine EL_nil (thn_n (E_seq (E_region (EL_mw (.int .i64 (x0)) rfl rfl ?_))))
 refine EL_mw (.int .i64 (x0)) rfl rfl ?_
 refine EL_in (.bool ((x0 != x0))) rfl rfl rfl rfl ?_
 refine EL_at (.bool ((x0 != x0))) rfl rfl ?_
 refine EL_nil (thn_n (E_ret ?_))
 obtain rfl := sinj h
 exact end1 rfl rfl (show _ = .bool ((x0 != x0)) from rfl) ⟨_, hfr, rfl⟩
/-- slices.Index[[]bool,bool] -/
def f103 (x0 : List Bool) (x1 : Bool) : Option (Int) :=
 jn (σ := Unit) (fun (_ : Unit) =>
  some ((-1 : Int))
  ) fun d4 =>
 lp (σ := Int) (fun i4 j0 =>
  bif (decide (j0 < ((x0).length : Int))) then
   jn (σ := Unit) (fun (_ : Unit) =>
    i4 ((w64 (j0 + (1 : Int))))
    ) fun j4 =>
   (idx x0 j0).bind fun y23 =>
   bif (x1 == y23) then
    some (j0)
   else
    j4 ()
  else
   d4 ()
  ) big ((0 : Int))
theorem en103 : Enters Try.prog 103 := enters_of Try.func103 (by kernel_rfl) rfl
theorem wk103 {gI : Gh} {wI : World} {x0 : List Bool} {x1 : Bool} {up0 : Value} (rp0 : RV gI.m wI x0 up0) {r : Int} (h : f103 x0 x1 = some r) : Fn Try.prog 103 #[up0, .bool (x1)] gI wI (fun _ _ v => v = .int .i64 (r)) := by
 unfold f103 at h
 refine fn_of_E Try.func103 rfl (Nat.le_of_ble_eq_true rfl) fun g0 hm hfr => ?_
 have rp0 : RV g0.m wI x0 up0 := hm ▸ rp0
 show E _ 19 none _ _ _ _ _
 refine E_seq (E_region (EL_at (.int .i64 (0)) rfl rfl ?_))
 refine EL_nil (thn_n (E_joinC h (fun (s : Unit) e w => ∃ (g : Gh) , Fr gI wI g w) (fun X14 d4 m4 h => ?_) ?_))
 ·refine E_seq (E_region (EL_mw up0 rfl rfl ?_))
  refine EL_pur (v := .int .i64 ((x0).length : Int)) (P_len Try.underlying101 rfl rp0) .plain rfl ?_
  refine EL_mw (.int .i64 (0)) rfl rfl ?_
  refine EL_nil (thn_n (E_block ?_))
  refine E_lp h (fun (s : Int) e w => ∃ (g : Gh) , Fr gI wI g w ∧ e 0 = up0 ∧ RV g.m w (x0 : List Bool) up0 ∧ e 1 = .bool (x1) ∧ e 7 = .int .i64 (((x0).length : Int)) ∧ e 8 = .int .i64 (s)) ⟨g0, hfr, rfl, rp0, rfl, rfl, rfl⟩ (fun X15 i4 n4 => ?_)
  rintro j0 z4 i5 ⟨i3, hfr, j2, o0, z2, d3, u0⟩ h
  refine E_seq (E_region (EL_in (.bool ((decide (j0 < ((x0).length : Int))))) u0 d3 rfl rfl ?_))
  refine EL_nil (thn_n (E_seq ?_))
  rcases csome h with ⟨j1, h⟩ | ⟨j1, h⟩
  ·refine E_ct j1 rfl ?_
   refine E_skip (thn_n (E_joinC h (fun (s : Unit) e w => ∃ (g : Gh) , Fr gI wI g w ∧ e 0 = up0 ∧ RV g.m w (x0 : List Bool) up0 ∧ e 1 = .bool (x1) ∧ e 7 = .int .i64 (((x0).length : Int)) ∧ e 8 = .int .i64 (j0)) (fun X22 j4 o4 h => ?_) ?_))
   ·refine E_block ?_
    refine E_seq (E_region (EL_mv u0 rfl ?_))
    refine EL_at (.int .i64 (j0)) rfl rfl ?_
    refine EL_nil (thn_n (E_seq (E_region (EL_mv z2 rfl ?_))))
    refine EL_mv j2 rfl ?_
    refine EL_mw (.int .i64 (j0)) rfl rfl ?_
    obtain ⟨y23, j3, h⟩ := bsome h
    refine EL_pur (v := ePtr up0 j0 1) (P_indexAddr (α := Bool) Try.underlying101 Try.sizeOf4 rfl o0 rfl j3) .plain rfl ?_
    have p4 := PT_idx o0 j3
    refine EL_do .plain rfl (D_load (g := i3) Try.isAgg4 Try.sizeOf4 rfl p4 fun j5 u4 => ?_)
    obtain rfl := RV_bool.1 u4
    refine EL_pur (v := .bool ((x1 == y23))) (P_bool Try.underlying4 rfl rfl rfl) .plain rfl ?_
    refine EL_nil (thn_n ?_)
    rcases csome h with ⟨z1, h⟩ | ⟨z1, h⟩
    ·refine E_ct z1 rfl ?_
     refine E_seq (E_region (EL_mw (.int .i64 (j0)) rfl rfl ?_))
     refine EL_at (.int .i64 (j0)) rfl rfl ?_
     refine EL_nil (thn_n (E_ret (blk_r ?_)))
     refine thn_r ?_
     refine thn_r ?_
     refine blk_r ?_
     refine thn_r ?_
     obtain rfl := sinj h
     exact end1 rfl rfl (show _ = .int .i64 (j0) from rfl) ⟨_, hfr, rfl⟩
    ·refine E_cf z1 rfl ?_
     exact E_skip (blk_n (thn_n (o4 () _ _ ⟨i3, hfr, j2, o0, z2, d3, u0⟩ h)))
   ·rintro _ c5 l5 ⟨x4, hfr, o3, p3, u3, z3, c4⟩ h
    refine E_region (EL_in (.int .i64 ((w64 (j0 + (1 : Int))))) c4 rfl rfl rfl ?_)
    refine EL_mw (.int .i64 ((w64 (j0 + (1 : Int))))) rfl rfl ?_
    exact EL_nil (thn_n (n4 ((w64 (j0 + (1 : Int)))) _ _ ⟨x4, hfr, o3, p3, u3, z3, rfl⟩ h))
  ·refine E_cf j1 rfl ?_
   refine E_exit ?_
   refine thn_e ?_
   refine thn_e ?_
   refine blk_hit ?_
   exact thn_n (m4 () _ _ ⟨i3, hfr⟩ h)
 ·rintro _ d5 m5 ⟨n5, hfr⟩ h
  refine E_seq (E_region (EL_at (.int .i64 (-1)) rfl rfl ?_))
  refine EL_nil (thn_n (E_ret ?_))
  obtain rfl := sinj h
  exact end1 rfl rfl (show _ = .int .i64 (-1) from rfl) ⟨_, hfr, rfl⟩
/-- slices.IndexFunc[[]int,int] -/
def f104 (x0 : List Int) (x1 : Int → Option Bool) : Option (Int) :=
 jn (σ := Unit) (fun (_ : Unit) =>
  some ((-1 : Int))
  ) fun k18 =>
 lp (σ := Int) (fun k19 j0 =>
  bif (decide (j0 < ((x0).length : Int))) then
   jn (σ := Unit) (fun (_ : Unit) =>
    k19 ((w64 (j0 + (1 : Int))))
    ) fun k28 =>
   (idx x0 j0).bind fun i3 =>
   (x1 i3).bind fun i4 =>
   bif i4 then
    some (j0)
   else
    k28 ()
  else
   k18 ()
  ) big ((0 : Int))
theorem en104 : Enters Try.prog 104 := enters_of Try.func104 (by kernel_rfl) rfl
theorem wk104 {gI : Gh} {wI : World} {x0 : List Int} {x1 : Int → Option Bool} {up0 : Value} (rp0 : RV gI.m wI x0 up0) {up1 : Value} (rp1 : FnV1 Try.prog x1 up1 gI wI) {r : Int} (h : f104 x0 x1 = some r) : Fn Try.prog 104 #[up0, up1] gI wI (fun _ _ v => v = .int .i64 (r)) := by
 unfold f104 at h
 refine fn_of_E Try.func104 rfl (Nat.le_of_ble_eq_true rfl) fun g0 hm hfr => ?_
 have rp0 : RV g0.m wI x0 up0 := hm ▸ rp0
 obtain ⟨ff1, fa1, fc1, rfl, fen1, fcl1⟩ := rp1
 show E _ 19 none _ _ _ _ _
 refine E_seq (E_region (EL_at (.int .i64 (0)) rfl rfl ?_))
 refine EL_nil (thn_n (E_joinC h (fun (s : Unit) e w => ∃ (g : Gh) , Fr gI wI g w) (fun X18 k18 j4 h => ?_) ?_))
 ·refine E_seq (E_region (EL_mw up0 rfl rfl ?_))
  refine EL_pur (v := .int .i64 ((x0).length : Int)) (P_len Try.underlying22 rfl rp0) .plain rfl ?_
  refine EL_mw (.int .i64 (0)) rfl rfl ?_
  refine EL_nil (thn_n (E_block ?_))
  refine E_lp h (fun (s : Int) e w => ∃ (g : Gh) , Fr gI wI g w ∧ e 0 = up0 ∧ RV g.m w (x0 : List Int) up0 ∧ e 1 = (.func (.func ff1) fa1 fc1) ∧ e 7 = .int .i64 (((x0).length : Int)) ∧ e 8 = .int .i64 (s)) ⟨g0, hfr, rfl, rp0, rfl, rfl, rfl⟩ (fun X19 k19 m4 => ?_)
  rintro j0 c5 j5 ⟨j3, hfr, j2, o0, z2, d3, u0⟩ h
  refine E_seq (E_region (EL_in (.bool ((decide (j0 < ((x0).length : Int))))) u0 d3 rfl rfl ?_))
  refine EL_nil (thn_n (E_seq ?_))
  rcases csome h with ⟨j1, h⟩ | ⟨j1, h⟩
  ·refine E_ct j1 rfl ?_
   refine E_skip (thn_n (E_joinC h (fun (s : Unit) e w => ∃ (g : Gh) , Fr gI wI g w ∧ e 0 = up0 ∧ RV g.m w (x0 : List Int) up0 ∧ e 1 = (.func (.func ff1) fa1 fc1) ∧ e 7 = .int .i64 (((x0).length : Int)) ∧ e 8 = .int .i64 (j0)) (fun X28 k28 n4 h => ?_) ?_))
   ·refine E_block ?_
    refine E_seq (E_region (EL_mv u0 rfl ?_))
    refine EL_at (.int .i64 (j0)) rfl rfl ?_
    refine EL_nil (thn_n (E_seq (E_region (EL_mv z2 rfl ?_))))
    refine EL_mv j2 rfl ?_
    refine EL_mw (.int .i64 (j0)) rfl rfl ?_
    obtain ⟨i3, o3, h⟩ := bsome h
    refine EL_pur (v := ePtr up0 j0 1) (P_indexAddr (α := Int) Try.underlying22 Try.sizeOf3 rfl o0 rfl o3) .plain rfl ?_
    have p4 := PT_idx o0 o3
    refine EL_do .plain rfl (D_load (g := j3) Try.isAgg3 Try.sizeOf3 rfl p4 fun l5 u4 => ?_)
    obtain rfl := RV_int.1 u4
    obtain ⟨i4, o4, h⟩ := bsome h
    refine EL_do .plain rfl (D_callv (g := j3) (vs := [.int .i64 (i3)]) rfl fen1 (.cons rfl .nil) (fcl1 _ _ hfr.ch _ _ _  (RV_int.2 rfl) o4) fun x4 m5 n5 hs hr => ?_)
    have hfr := hfr.ext hs
    have o0 := o0.ext hs
    obtain rfl := RV_bool.1 hr
    refine EL_nil (thn_n ?_)
    rcases csome h with ⟨z1, h⟩ | ⟨z1, h⟩
    ·refine E_ct z1 rfl ?_
     refine E_seq (E_region (EL_mw (.int .i64 (j0)) rfl rfl ?_))
     refine EL_at (.int .i64 (j0)) rfl rfl ?_
     refine EL_nil (thn_n (E_ret (blk_r ?_)))
     refine thn_r ?_
     refine thn_r ?_
     refine blk_r ?_
     refine thn_r ?_
     obtain rfl := sinj h
     exact end1 rfl rfl (show _ = .int .i64 (j0) from rfl) ⟨_, hfr, rfl⟩
    ·refine E_cf z1 rfl ?_
     exact E_skip (blk_n (thn_n (n4 () _ _ ⟨x4, hfr, j2, o0, z2, d3, u0⟩ h)))
   ·rintro _ d5 o5 ⟨z4, hfr, p3, u3, z3, c4, d4⟩ h
    refine E_region (EL_in (.int .i64 ((w64 (j0 + (1 : Int))))) d4 rfl rfl rfl ?_)
    refine EL_mw (.int .i64 ((w64 (j0 + (1 : Int))))) rfl rfl ?_
    exact EL_nil (thn_n (m4 ((w64 (j0 + (1 : Int)))) _ _ ⟨z4, hfr, p3, u3, z3, c4, rfl⟩ h))
  ·refine E_cf j1 rfl ?_
   refine E_exit ?_
   refine thn_e ?_
   refine thn_e ?_
   refine blk_hit ?_
   exact thn_n (j4 () _ _ ⟨j3, hfr⟩ h)
 ·rintro _ i5 p5 ⟨q5, hfr⟩ h
  refine E_seq (E_region (EL_at (.int .i64 (-1)) rfl rfl ?_))
  refine EL_nil (thn_n (E_ret ?_))
  obtain rfl := sinj h
  exact end1 rfl rfl (show _ = .int .i64 (-1) from rfl) ⟨_, hfr, rfl⟩
/-- (griffe/loom.mill).begins -/
def f105 (x0 : LoomLoomMill) (x1 : Int) (x2 : Int) (x3 : Int) (x4 : List (Int × LoomRun)) : Option (Int) :=
 (idx ((x0).orders) x1).bind fun y4 =>
 jn (σ := Int) (fun o0 =>
  jn (σ := Unit) (fun (_ : Unit) =>
   some (o0)
   ) fun m5 =>
  Option.bind (α := Bool) (
   (idx (((x0).LoomMill).Widths) x2).bind fun z1 =>
   bif (decide ((y4).Width > z1)) then
    some (true)
   else
    some ((decide ((w64 (o0 + (y4).Woven)) > (y4).Late)))
   ) fun j2 =>
  bif j2 then
   some ((1048576 : Int))
  else
   m5 ()
  ) fun n5 =>
 bif ((mget x4 x1).isSome) then
  jn (σ := Unit) (fun (_ : Unit) =>
   n5 ((((mget x4 x1).getD (⟨0, 0, 0⟩ : LoomRun))).From)
   ) fun k60 =>
  Option.bind (α := Bool) (
   bif ((((mget x4 x1).getD (⟨0, 0, 0⟩ : LoomRun))).Loom != x2) then
    some (true)
   else
    some ((decide ((((mget x4 x1).getD (⟨0, 0, 0⟩ : LoomRun))).From < (max64 (y4).Early x3))))
   ) fun z2 =>
  bif z2 then
   some ((1048576 : Int))
  else
   k60 ()
 else
  n5 ((max64 (y4).Early x3))
theorem en105 : Enters Try.prog 105 := enters_of Try.func105 (by kernel_rfl) rfl
theorem wk105 {gI : Gh} {wI : World} {x0 : LoomLoomMill} {x1 : Int} {x2 : Int} {x3 : Int} {x4 : List (Int × LoomRun)} {up0 : Value} (rp0 : RV gI.m wI x0 up0) {up4 : Value} (mq4 : MR (Value.int .i64) gI wI x4 up4) {r : Int} (h : f105 x0 x1 x2 x3 x4 = some r) : Fn Try.prog 105 #[up0, .int .i64 (x1), .int .i64 (x2), .int .i64 (x3), up4] gI wI (fun _ _ v => v = .int .i64 (r)) := by
 unfold f105 at h
 refine fn_of_E Try.func105 rfl (Nat.le_of_ble_eq_true rfl) fun g0 hm hfr => ?_
 have rp0 : RV g0.m wI x0 up0 := hm ▸ rp0
 have mq4 := MQ.enter mq4 hm hfr
 show E _ 62 none _ _ _ _ _
 refine E_seq (E_region (EL_do .plain rfl (D_box (g := g0) rfl rp0 fun g1 w1 p1 hs q1 => ?_)))
 have hfr := hfr.ext hs
 have mq4 := mq4.ext hs
 refine EL_at (.int .i64 (0)) rfl rfl ?_
 refine EL_nil (thn_n (E_seq (E_region (EL_pur (v := fPtr p1 2) (P_fieldAddr at_96_1 rfl (PT.ptr q1)) .plain rfl ?_))))
 have q2 := PT_field (part_LoomLoomMill_1).1 q1
 refine EL_do .plain rfl (D_load (g := g1) Try.isAgg25 Try.sizeOf25 rfl q2 fun v3 r3 => ?_)
 refine EL_mw (.int .i64 (x1)) rfl rfl ?_
 obtain ⟨y4, t6, h⟩ := bsome h
 refine EL_pur (v := ePtr v3 x1 5) (P_indexAddr (α := LoomOrder) Try.underlying25 Try.sizeOf82 rfl r3 rfl t6) .plain rfl ?_
 have q5 := PT_idx r3 t6
 refine EL_do .plain rfl (D_load (g := g1) Try.isAgg82 Try.sizeOf82 rfl q5 fun v6 r6 => ?_)
 refine EL_do .plain rfl (D_allocOc (g := g1) 2011 (⟨0, 0, 0, 0, 0⟩ : LoomOrder) Try.zeroValue82 (fun m w => ⟨_, (rep_two rep_int (rep_two rep_int (rep_two rep_int (rep_two rep_int rep_int)))), rfl⟩) fun g7 w7 p7 hs b7 cb => ?_)
 have hfr := hfr.stp hs
 have mq4 := mq4.stp hs
 have q1 := q1.stp hs
 have r6 := r6.stp hs
 clear cb
 refine EL_do .plain rfl (D_storeOc (g := g7) (v := v6) Try.sizeOf82 rfl b7 rfl r6 fun g8 w8 hs b8 cb => ?_)
 clear cb
 have hfr := hfr.stp hs
 have mq4 := mq4.stp hs
 have q1 := q1.stp hs
 refine EL_nil (thn_n (E_seq (E_region (EL_pur (v := fPtr p7 3) (P_fieldAddr at_82_3 rfl (OB.ptr b8)) .plain rfl ?_))))
 refine EL_do .plain rfl (D_loadF (g := g8) part_LoomOrder_3.1 Try.isAgg3 Try.sizeOf3 rfl b8 fun r8 o7 => ?_)
 obtain rfl := RV_int.1 o7
 refine EL_mw (.int .i64 (x3)) rfl rfl ?_
 refine EL_pur (v := .int .i64 (max64 (y4).Early x3)) (P_max rfl rfl) .plain rfl ?_
 refine EL_at (.int .i64 (max64 (y4).Early x3)) rfl rfl ?_
 refine EL_nil (thn_n (E_joinC h (fun (s : Int) e w => ∃ (g : Gh) , Fr gI wI g w ∧ e 2 = .int .i64 (x2) ∧ e 5 = p1 ∧ PT g.m w (x0 : LoomLoomMill) p1 ∧ e 11 = p7 ∧ OB 2011 g w 82 (y4 : LoomOrder) p7 ∧ e 12 = .int .i64 (s)) (fun X43 n5 o5 h => ?_) ?_))
 ·refine E_seq (E_region (EL_mw up4 rfl rfl ?_))
  refine EL_mw (.int .i64 (x1)) rfl rfl ?_
  refine EL_do .plain rfl (D_lookupOkR (g := g8) (z0 := (⟨0, 0, 0⟩ : LoomRun)) Try.underlying100 key_3 Try.zeroValue76 (fun m w => ⟨_, (rep_two rep_int (rep_two rep_int rep_int)), rfl⟩) rfl mq4.r rfl fun p5 t5 => ?_)
  refine EL_mw (.tuple #[p5, .bool ((mget x4 x1).isSome)]) rfl rfl ?_
  refine EL_pur (v := p5) (P_extract rfl rfl) .plain rfl ?_
  refine EL_pur (v := .bool ((mget x4 x1).isSome)) (P_extract rfl rfl) .plain rfl ?_
  refine EL_do .plain rfl (D_allocOc (g := g8) 2013 (⟨0, 0, 0⟩ : LoomRun) Try.zeroValue76 (fun m w => ⟨_, (rep_two rep_int (rep_two rep_int rep_int)), rfl⟩) fun q7 t8 i3 hs b45 cb => ?_)
  have hfr := hfr.stp hs
  have q1 := q1.stp hs
  have b8 := b8.stp hs rfl
  have t5 := t5.stp hs
  clear cb
  refine EL_do .plain rfl (D_storeOc (g := q7) (v := p5) Try.sizeOf76 rfl b45 rfl t5 fun d4 v8 hs b46 cb => ?_)
  clear cb
  have hfr := hfr.stp hs
  have q1 := q1.stp hs
  have b8 := b8.stp hs rfl
  refine EL_at (.bool ((mget x4 x1).isSome)) rfl rfl ?_
  refine EL_nil (thn_n (E_seq (E_region (EL_mw (.bool ((mget x4 x1).isSome)) rfl rfl ?_))))
  refine EL_nil (thn_n ?_)
  rcases csome h with ⟨m4, h⟩ | ⟨m4, h⟩
  ·refine E_ct m4 rfl ?_
   refine E_joinC h (fun (s : Unit) e w => ∃ (g : Gh) , Fr gI wI g w ∧ e 2 = .int .i64 (x2) ∧ e 5 = p1 ∧ PT g.m w (x0 : LoomLoomMill) p1 ∧ e 11 = p7 ∧ OB 2011 g w 82 (y4 : LoomOrder) p7 ∧ e 13 = i3 ∧ OB 2013 g w 76 (((mget x4 x1).getD (⟨0, 0, 0⟩ : LoomRun)) : LoomRun) i3) (fun X60 k60 y6 h => ?_) ?_
   ·obtain ⟨z2, hx, h⟩ := bsome h
    refine E_join (fun e w => ∃ (g : Gh) , Fr gI wI g w ∧ e 2 = .int .i64 (x2) ∧ e 5 = p1 ∧ PT g.m w (x0 : LoomLoomMill) p1 ∧ e 11 = p7 ∧ OB 2011 g w 82 (y4 : LoomOrder) p7 ∧ e 13 = i3 ∧ OB 2013 g w 76 (((mget x4 x1).getD (⟨0, 0, 0⟩ : LoomRun)) : LoomRun) i3 ∧ e 40 = .bool (z2)) (fun Q' hQ => ?_) (fun c8 x8 hR => ?_)
    ·replace h := hx
     clear hx
     refine E_region (EL_pur (v := fPtr i3 1) (P_fieldAddr at_76_1 rfl (OB.ptr b46)) .plain rfl ?_)
     refine EL_do .plain rfl (D_loadF (g := d4) part_LoomRun_1.1 Try.isAgg3 Try.sizeOf3 rfl b46 fun y8 t7 => ?_)
     obtain rfl := RV_int.1 t7
     refine EL_mw (.int .i64 (x2)) rfl rfl ?_
     refine EL_in (.bool (((((mget x4 x1).getD (⟨0, 0, 0⟩ : LoomRun))).Loom != x2))) rfl rfl rfl rfl ?_
     refine EL_mw (.bool (((((mget x4 x1).getD (⟨0, 0, 0⟩ : LoomRun))).Loom != x2))) rfl rfl ?_
     rcases csome h with ⟨u0, h⟩ | ⟨u0, h⟩
     ·refine EL_skip (.no2 rfl rfl u0 rfl) rfl ?_
      refine EL_skip (.no2 rfl rfl u0 rfl) rfl ?_
      refine EL_skip (.no2 rfl rfl u0 rfl) rfl ?_
      refine EL_skip (.no2 rfl rfl u0 rfl) rfl ?_
      refine EL_pur (v := .bool true) (P_pick (b := ((((mget x4 x1).getD (⟨0, 0, 0⟩ : LoomRun))).Loom != x2)) rfl (pick_t u0 rfl)) .plain rfl ?_
      refine EL_nil ?_
      obtain rfl := sinj h
      exact hQ _ _ ⟨d4, hfr, rfl, rfl, q1, rfl, b8, rfl, b46, rfl⟩
     ·refine EL_pur (v := fPtr i3 2) (P_fieldAddr at_76_2 rfl (OB.ptr b46)) (.yes2 rfl rfl u0) rfl ?_
      refine EL_do (.yes2 rfl rfl u0) rfl (D_loadF (g := d4) part_LoomRun_2.1 Try.isAgg3 Try.sizeOf3 rfl b46 fun z8 u7 => ?_)
      obtain rfl := RV_int.1 u7
      refine EL_pur (v := .int .i64 (max64 (y4).Early x3)) (P_move rfl) (.yes2 rfl rfl u0) rfl ?_
      refine EL_pur (v := .bool ((decide ((((mget x4 x1).getD (⟨0, 0, 0⟩ : LoomRun))).From < (max64 (y4).Early x3))))) (P_int rfl rfl rfl) (.yes2 rfl rfl u0) rfl ?_
      refine EL_pur (v := .bool ((decide ((((mget x4 x1).getD (⟨0, 0, 0⟩ : LoomRun))).From < (max64 (y4).Early x3))))) (P_pick (b := ((((mget x4 x1).getD (⟨0, 0, 0⟩ : LoomRun))).Loom != x2)) rfl (pick_f u0 rfl)) .plain rfl ?_
      refine EL_nil ?_
      obtain rfl := sinj h
      exact hQ _ _ ⟨d4, hfr, rfl, rfl, q1, rfl, b8, rfl, b46, rfl⟩
    ·clear hx
     obtain ⟨v7, hfr, i6, j6, k6, u5, x5, y5, z5, i4⟩ := hR
     rcases csome h with ⟨n4, h⟩ | ⟨n4, h⟩
     ·refine E_cond_true (Eq.trans (show ev _ _ = .bool (z2) from i4) (congrArg Value.bool n4)) ?_
      refine E_seq (E_region (EL_at (.int .i64 (1048576)) rfl rfl ?_))
      refine EL_nil (thn_n (E_ret (thn_r ?_)))
      refine thn_r ?_
      obtain rfl := sinj h
      exact end1 rfl rfl (show _ = .int .i64 (1048576) from rfl) ⟨_, hfr, rfl⟩
     ·refine E_cond_false (Eq.trans (show ev _ _ = .bool (z2) from i4) (congrArg Value.bool n4)) ?_
      exact E_skip (thn_n (y6 () _ _ ⟨v7, hfr, i6, j6, k6, u5, x5, y5, z5⟩ h))
   ·rintro _ d8 a9 ⟨u6, hfr, l6, m6, n6, b6, c6, d6, j4⟩ h
    refine E_region (EL_pur (v := fPtr i3 2) (P_fieldAddr at_76_2 d6 (OB.ptr j4)) .plain rfl ?_)
    refine EL_do .plain rfl (D_loadF (g := u6) part_LoomRun_2.1 Try.isAgg3 Try.sizeOf3 rfl j4 fun b9 x7 => ?_)
    obtain rfl := RV_int.1 x7
    refine EL_at (.int .i64 ((((mget x4 x1).getD (⟨0, 0, 0⟩ : LoomRun))).From)) rfl rfl ?_
    exact EL_nil (thn_n (o5 ((((mget x4 x1).getD (⟨0, 0, 0⟩ : LoomRun))).From) _ _ ⟨u6, hfr, l6, m6, n6, b6, c6, rfl⟩ h))
  ·refine E_cf m4 rfl ?_
   exact E_skip (thn_n (o5 ((max64 (y4).Early x3)) _ _ ⟨d4, hfr, rfl, rfl, q1, rfl, b8, rfl⟩ h))
 ·rintro o0 e8 c9 ⟨x6, hfr, u4, z4, p3, d3, j1, j3⟩ h
  refine E_joinC h (fun (s : Unit) e w => ∃ (g : Gh) , Fr gI wI g w ∧ e 12 = .int .i64 (o0)) (fun X197 m5 o6 h => ?_) ?_
  ·obtain ⟨j2, hx, h⟩ := bsome h
   refine E_join (fun e w => ∃ (g : Gh) , Fr gI wI g w ∧ e 12 = .int .i64 (o0) ∧ e 60 = .bool (j2)) (fun Q' hQ => ?_) (fun y7 i8 hR => ?_)
   ·replace h := hx
    clear hx
    refine L_loadO (x := .tmp 43) part_LoomOrder_0.1 Try.isAgg3 Try.sizeOf3 j1 fun j8 z6 c5 => ?_
    obtain rfl := RV_int.1 z6
    have o4 := PT_field (part_LoomLoomMill_0).1 p3
    have a7 := PT_field (part_LoomMill_0).1 o4
    refine L_load (x := .tmp 46) Try.isAgg22 Try.sizeOf22 a7 fun u3 p4 d5 => ?_
    obtain ⟨z1, z3, h⟩ := bsome h
    have c7 := PT_idx p4 z3
    refine L_load (x := .tmp 49) Try.isAgg3 Try.sizeOf3 c7 fun k8 d7 i5 => ?_
    obtain rfl := RV_int.1 d7
    rcases csome h with ⟨j0, h⟩ | ⟨j0, h⟩
    ·refine E_drawL (g := x6) (n := 18) [] [0, 1, 2, 3, 4, 5, 6, 7, 8, 9, 10, 11, 12, 13, 14, 15, 16, 17] rfl mixed (by kernel_rfl) trivial ?_
     refine L_pur (c := fPtr p7 0) rfl rfl .plain (fun _ _ hd => P_fieldAddr at_82_0 d3 (OB.ptr j1)) ?_
     refine L_ld (c := .int .i64 ((y4).Width)) rfl rfl .plain (fun _ _ h => ⟨h.ch, fun b hb _ => h.below.block b hb⟩) c5 rfl ?_
     refine L_pur (c := fPtr p1 0) rfl rfl .plain (fun _ _ hd => P_fieldAddr at_96_0 z4 (PT.ptr p3)) ?_
     refine L_pur (c := fPtr (fPtr p1 0) 0) rfl rfl .plain (fun _ _ hd => P_fieldAddr at_24_0 rfl (PT.ptr o4)) ?_
     refine L_ld (c := u3) rfl rfl .plain (fun _ _ h => h.ch) d5 rfl ?_
     refine L_pur (c := .int .i64 (x2)) rfl rfl .plain (fun _ _ hd => P_move u4) ?_
     refine L_pur (c := ePtr u3 x2 1) rfl rfl .plain (fun _ _ hd => P_indexAddr (α := Int) Try.underlying22 Try.sizeOf3 rfl p4 rfl z3) ?_
     refine L_ld (c := .int .i64 (z1)) rfl rfl .plain (fun _ _ h => h.ch) i5 rfl ?_
     refine L_pur (c := .bool ((decide ((y4).Width > z1)))) rfl rfl .plain (fun _ _ hd => P_int rfl rfl rfl) ?_
     refine L_pur (c := .bool ((decide ((y4).Width > z1)))) rfl rfl .plain (fun _ _ hd => P_move rfl) ?_
     refine L_skip rfl (.no2 rfl rfl j0 rfl) ?_
     refine L_skip rfl (.no2 rfl rfl j0 rfl) ?_
     refine L_skip rfl (.no2 rfl rfl j0 rfl) ?_
     refine L_skip rfl (.no2 rfl rfl j0 rfl) ?_
     refine L_skip rfl (.no2 rfl rfl j0 rfl) ?_
     refine L_skip rfl (.no2 rfl rfl j0 rfl) ?_
     refine L_skip rfl (.no2 rfl rfl j0 rfl) ?_
     refine L_pur (c := .bool true) rfl rfl .plain (fun _ _ hd => P_pick (b := (decide ((y4).Width > z1))) rfl (pick_t j0 rfl)) ?_
     refine L_nil fun e7 l8 hall => ?_
     have hs := hall.1
     have hfr := hfr.ext hs
     clear hs hall
     refine EL_nil ?_
     obtain rfl := sinj h
     exact hQ _ _ ⟨e7, hfr, j3, rfl⟩
    ·refine L_loadO (x := .tmp 54) part_LoomOrder_2.1 Try.isAgg3 Try.sizeOf3 j1 fun m8 i7 p6 => ?_
     obtain rfl := RV_int.1 i7
     refine L_loadO (x := .tmp 57) part_LoomOrder_4.1 Try.isAgg3 Try.sizeOf3 j1 fun n8 j7 q6 => ?_
     obtain rfl := RV_int.1 j7
     refine E_drawL (g := x6) (n := 18) [] [0, 1, 2, 3, 4, 5, 6, 7, 8, 9, 10, 11, 12, 13, 14, 15, 16, 17] rfl mixed (by kernel_rfl) trivial ?_
     refine L_pur (c := fPtr p7 0) rfl rfl .plain (fun _ _ hd => P_fieldAddr at_82_0 d3 (OB.ptr j1)) ?_
     refine L_ld (c := .int .i64 ((y4).Width)) rfl rfl .plain (fun _ _ h => ⟨h.ch, fun b hb _ => h.below.block b hb⟩) c5 rfl ?_
     refine L_pur (c := fPtr p1 0) rfl rfl .plain (fun _ _ hd => P_fieldAddr at_96_0 z4 (PT.ptr p3)) ?_
     refine L_pur (c := fPtr (fPtr p1 0) 0) rfl rfl .plain (fun _ _ hd => P_fieldAddr at_24_0 rfl (PT.ptr o4)) ?_
     refine L_ld (c := u3) rfl rfl .plain (fun _ _ h => h.ch) d5 rfl ?_
     refine L_pur (c := .int .i64 (x2)) rfl rfl .plain (fun _ _ hd => P_move u4) ?_
     refine L_pur (c := ePtr u3 x2 1) rfl rfl .plain (fun _ _ hd => P_indexAddr (α := Int) Try.underlying22 Try.sizeOf3 rfl p4 rfl z3) ?_
     refine L_ld (c := .int .i64 (z1)) rfl rfl .plain (fun _ _ h => h.ch) i5 rfl ?_
     refine L_pur (c := .bool ((decide ((y4).Width > z1)))) rfl rfl .plain (fun _ _ hd => P_int rfl rfl rfl) ?_
     refine L_pur (c := .bool ((decide ((y4).Width > z1)))) rfl rfl .plain (fun _ _ hd => P_move rfl) ?_
     refine L_pur (c := .int .i64 (o0)) rfl rfl (.yes2 rfl rfl j0) (fun _ _ hd => P_move j3) ?_
     refine L_pur (c := fPtr p7 2) rfl rfl (.yes2 rfl rfl j0) (fun _ _ hd => P_fieldAddr at_82_2 d3 (OB.ptr j1)) ?_
     refine L_ld (c := .int .i64 ((y4).Woven)) rfl rfl (.yes2 rfl rfl j0) (fun _ _ h => ⟨h.ch, fun b hb _ => h.below.block b hb⟩) p6 rfl ?_
     refine L_pur (c := .int .i64 ((w64 (o0 + (y4).Woven)))) rfl rfl (.yes2 rfl rfl j0) (fun _ _ hd => P_int rfl rfl rfl) ?_
     refine L_pur (c := fPtr p7 4) rfl rfl (.yes2 rfl rfl j0) (fun _ _ hd => P_fieldAddr at_82_4 d3 (OB.ptr j1)) ?_
     refine L_ld (c := .int .i64 ((y4).Late)) rfl rfl (.yes2 rfl rfl j0) (fun _ _ h => ⟨h.ch, fun b hb _ => h.below.block b hb⟩) q6 rfl ?_
     refine L_pur (c := .bool ((decide ((w64 (o0 + (y4).Woven)) > (y4).Late)))) rfl rfl (.yes2 rfl rfl j0) (fun _ _ hd => P_int rfl rfl rfl) ?_
     refine L_pur (c := .bool ((decide ((w64 (o0 + (y4).Woven)) > (y4).Late)))) rfl rfl .plain (fun _ _ hd => P_pick (b := (decide ((y4).Width > z1))) rfl (pick_f j0 rfl)) ?_
     refine L_nil fun m7 o8 hall => ?_
     have hs := hall.1
     have hfr := hfr.ext hs
     clear hs hall
     refine EL_nil ?_
     obtain rfl := sinj h
     exact hQ _ _ ⟨m7, hfr, j3, rfl⟩
   ·clear hx
    obtain ⟨n7, hfr, j5, o3⟩ := hR
    rcases csome h with ⟨c4, h⟩ | ⟨c4, h⟩
    ·refine E_cond_true (Eq.trans (show ev _ _ = .bool (j2) from o3) (congrArg Value.bool c4)) ?_
     refine E_seq (E_region (EL_at (.int .i64 (1048576)) rfl rfl ?_))
     refine EL_nil (thn_n (E_ret (thn_r ?_)))
     obtain rfl := sinj h
     exact end1 rfl rfl (show _ = .int .i64 (1048576) from rfl) ⟨_, hfr, rfl⟩
    ·refine E_cond_false (Eq.trans (show ev _ _ = .bool (j2) from o3) (congrArg Value.bool c4)) ?_
     exact E_skip (thn_n (o6 () _ _ ⟨n7, hfr, j5⟩ h))
  ·rintro _ a8 p8 ⟨q8, hfr, l5⟩ h
   refine E_seq (E_region (EL_mv l5 rfl ?_))
   refine EL_at (.int .i64 (o0)) rfl rfl ?_
   refine EL_nil (thn_n (E_ret ?_))
   obtain rfl := sinj h
   exact end1 rfl rfl (show _ = .int .i64 (o0) from rfl) ⟨_, hfr, rfl⟩
/-- slices.insertionSortCmpFunc[int] -/
def f106 (x0 : List Int) (x1 : Int) (x2 : Int) (x3 : Int → Int → Option Int) : Option ((List Int)) :=
 lp (σ := (List Int) × Int) (fun k1 (m4, z1) =>
  jn (σ := Unit) (fun (_ : Unit) =>
   Option.bind (α := (List Int)) (
    lp (σ := (List Int) × Int) (fun x5 (u0, j0) =>
     jn (σ := Unit) (fun (_ : Unit) =>
      Option.bind (α := (List Int)) (
       (idx u0 (w64 (j0 - (1 : Int)))).bind fun d4 =>
       (idx u0 j0).bind fun n4 =>
       (idx u0 j0).bind fun u7 =>
       (idx ((List.set u0 (Int.toNat j0) d4)) (w64 (j0 - (1 : Int)))).bind fun v7 =>
       some ((List.set ((List.set u0 (Int.toNat j0) d4)) (Int.toNat (w64 (j0 - (1 : Int)))) n4))
       ) fun o3 =>
      x5 (o3, (w64 (j0 - (1 : Int))))
      ) fun y5 =>
     Option.bind (α := Bool) (
      bif (decide (j0 > x1)) then
       (idx u0 j0).bind fun o4 =>
       (idx u0 (w64 (j0 - (1 : Int)))).bind fun p4 =>
       (x3 o4 p4).bind fun c4 =>
       some ((decide (c4 < (0 : Int))))
      else
       some (false)
      ) fun z2 =>
     bif z2 then
      y5 ()
     else
      some (u0)
     ) big (m4, z1)
    ) fun p3 =>
   k1 (p3, (w64 (z1 + (1 : Int))))
   ) fun k4 =>
  bif (decide (z1 < x2)) then
   k4 ()
  else
   some (m4)
  ) big (x0, (w64 (x1 + (1 : Int))))
theorem en106 : Enters Try.prog 106 := enters_of Try.func106 (by kernel_rfl) rfl
theorem wk106 {iI : Nat} {gI : Gh} {wI : World} {x0 : List Int} {x1 : Int} {x2 : Int} {x3 : Int → Int → Option Int} {up0 : Value} (mp0 : OM iI gI wI 3 x0 up0) {up3 : Value} (rp3 : FnV2 Try.prog x3 up3 gI wI) {r : (List Int)} (h : f106 x0 x1 x2 x3 = some r) : FnM Try.prog 106 #[up0, .int .i64 (x1), .int .i64 (x2), up3] iI gI wI (fun g w v => v = .tuple #[] ∧ OM iI g w 3 r up0) := by
 unfold f106 at h
 refine fnM_of_E Try.func106 rfl (Nat.le_of_ble_eq_true rfl) fun g0 hm hfr => ?_
 have i7 := mp0
 replace mp0 := mp0.enter
 rw [← hm] at mp0
 replace hm : g0.m = gI.m := by rw [hm]
 obtain ⟨ff3, fa3, fc3, rfl, fen3, fcl3⟩ := rp3
 show E _ 53 none _ _ _ _ _
 refine E_seq (E_region (EL_mw (.int .i64 (x1)) rfl rfl ?_))
 refine EL_in (.int .i64 ((w64 (x1 + (1 : Int))))) rfl rfl rfl rfl ?_
 refine EL_at (.int .i64 ((w64 (x1 + (1 : Int))))) rfl rfl ?_
 refine EL_nil (thn_n (E_block ?_))
 refine E_lp h (fun (s : (List Int) × Int) e w => ∃ (g : Gh) , FrM iI gI wI g w ∧ e 0 = up0 ∧ OM 1 g w 3 (s.1 : List Int) up0 ∧ e 1 = .int .i64 (x1) ∧ e 2 = .int .i64 (x2) ∧ e 3 = (.func (.func ff3) fa3 fc3) ∧ e 8 = .int .i64 (s.2)) ⟨g0, hfr, rfl, mp0, rfl, rfl, rfl, rfl⟩ (fun X1 k1 hk1 => ?_)
 rintro ⟨m4, z1⟩ r9 w2 ⟨g2, hfr, x7, z5, y7, b6, a8, c6⟩ h
 refine E_joinC h (fun (s : Unit) e w => ∃ (g : Gh) , FrM iI gI wI g w ∧ e 0 = up0 ∧ OM 1 g w 3 (m4 : List Int) up0 ∧ e 1 = .int .i64 (x1) ∧ e 2 = .int .i64 (x2) ∧ e 3 = (.func (.func ff3) fa3 fc3) ∧ e 8 = .int .i64 (z1)) (fun X4 k4 hk4 h => ?_) ?_
 ·refine E_seq (E_region (EL_mv c6 rfl ?_))
  refine EL_mv b6 rfl ?_
  refine EL_in (.bool ((decide (z1 < x2)))) rfl rfl rfl rfl ?_
  refine EL_nil (thn_n ?_)
  rcases csome h with ⟨hc5, h⟩ | ⟨hc5, h⟩
  ·refine E_ct hc5 rfl ?_
   exact E_skip (thn_n (hk4 () _ _ ⟨g2, hfr, x7, z5, y7, b6, a8, c6⟩ h))
  ·refine E_cf hc5 rfl ?_
   refine E_exit ?_
   refine thn_e ?_
   refine thn_e ?_
   refine blk_hit ?_
   obtain rfl := sinj h
   exact end0n rfl rfl ⟨_, hfr, rfl, i7.back z5⟩
 ·rintro _ t9 w6 ⟨g6, hfr, b8, c8, d8, e8, g8, d6⟩ h
  obtain ⟨p3, hx, h⟩ := bsome h
  refine E_join (fun e w => ∃ (g : Gh) , FrM iI gI wI g w ∧ e 0 = up0 ∧ OM 1 g w 3 (p3 : List Int) up0 ∧ e 1 = .int .i64 (x1) ∧ e 2 = .int .i64 (x2) ∧ e 3 = (.func (.func ff3) fa3 fc3) ∧ e 8 = .int .i64 (z1)) (fun Q' hQ => ?_) (fun x8 c9 hR => ?_)
  ·replace h := hx
   clear hx
   refine E_block ?_
   refine E_seq (E_region (EL_mv d6 rfl ?_))
   refine EL_at (.int .i64 (z1)) rfl rfl ?_
   refine EL_nil (thn_n (E_block ?_))
   refine E_lp h (fun (s : (List Int) × Int) e w => ∃ (g : Gh) , FrM iI gI wI g w ∧ e 0 = up0 ∧ OM 1 g w 3 (s.1 : List Int) up0 ∧ e 1 = .int .i64 (x1) ∧ e 2 = .int .i64 (x2) ∧ e 3 = (.func (.func ff3) fa3 fc3) ∧ e 8 = .int .i64 (z1) ∧ e 9 = .int .i64 (s.2)) ⟨g6, hfr, b8, c8, d8, e8, g8, d6, rfl⟩ (fun X296 x5 j7 => ?_)
   rintro ⟨u0, j0⟩ y8 d9 ⟨i6, hfr, u3, j1, z3, x4, i4, z4, d3⟩ h
   refine E_joinC h (fun (s : Unit) e w => ∃ (g : Gh) , FrM iI gI wI g w ∧ e 0 = up0 ∧ OM 1 g w 3 (u0 : List Int) up0 ∧ e 1 = .int .i64 (x1) ∧ e 2 = .int .i64 (x2) ∧ e 3 = (.func (.func ff3) fa3 fc3) ∧ e 8 = .int .i64 (z1) ∧ e 9 = .int .i64 (j0)) (fun X410 y5 m7 h => ?_) ?_
   ·obtain ⟨z2, hx, h⟩ := bsome h
    refine E_join (fun e w => ∃ (g : Gh) , FrM iI gI wI g w ∧ e 0 = up0 ∧ OM 1 g w 3 (u0 : List Int) up0 ∧ e 1 = .int .i64 (x1) ∧ e 2 = .int .i64 (x2) ∧ e 3 = (.func (.func ff3) fa3 fc3) ∧ e 8 = .int .i64 (z1) ∧ e 9 = .int .i64 (j0) ∧ e 34 = .bool (z2)) (fun Q' hQ => ?_) (fun z8 e9 hR => ?_)
    ·replace h := hx
     clear hx
     rcases csome h with ⟨o0, h⟩ | ⟨o0, h⟩
     ·obtain ⟨o4, n5, h⟩ := bsome h
      refine L_loadM (x := .tmp 25) Try.isAgg3 Try.sizeOf3 j1 n5 fun g9 i8 n7 => ?_
      obtain rfl := RV_int.1 i8
      obtain ⟨p4, o5, h⟩ := bsome h
      refine L_loadM (x := .tmp 30) Try.isAgg3 Try.sizeOf3 j1 o5 fun i9 j8 o7 => ?_
      obtain rfl := RV_int.1 j8
      obtain ⟨c4, p7, h⟩ := bsome h
      refine E_drawL (g := i6) (n := 17) [(14, (fun v g w => v = .int .i64 (c4)))] [0, 1, 2, 3, 4, 5, 6, 7, 8, 9, 10, 11, 12, 13, 14, 15, 16] rfl mixed (by kernel_rfl) (⟨fun _ => up_eq _, trivial⟩) ?_
      refine L_pur (c := .int .i64 (j0)) rfl rfl .plain (fun _ _ hd => P_move d3) ?_
      refine L_pur (c := .int .i64 (x1)) rfl rfl .plain (fun _ _ hd => P_move z3) ?_
      refine L_pur (c := .bool ((decide (j0 > x1)))) rfl rfl .plain (fun _ _ hd => P_int rfl rfl rfl) ?_
      refine L_pur (c := .bool ((decide (j0 > x1)))) rfl rfl .plain (fun _ _ hd => P_move rfl) ?_
      refine L_pur (c := (.func (.func ff3) fa3 fc3)) rfl rfl (.yes2 rfl rfl o0) (fun _ _ hd => P_move i4) ?_
      refine L_pur (c := up0) rfl rfl (.yes2 rfl rfl o0) (fun _ _ hd => P_move u3) ?_
      refine L_pur (c := .int .i64 (j0)) rfl rfl (.yes2 rfl rfl o0) (fun _ _ hd => P_move d3) ?_
      refine L_pur (c := ePtr up0 j0 1) rfl rfl (.yes2 rfl rfl o0) (fun _ _ hd => P_indexAddrM (α := Int) Try.underlying22 Try.sizeOf3 rfl j1 rfl n5) ?_
      refine L_ld (c := .int .i64 (o4)) rfl rfl (.yes2 rfl rfl o0) (fun _ _ h => ⟨h.ch, fun b hb _ => h.below.block b hb⟩) n7 rfl ?_
      refine L_pur (c := up0) rfl rfl (.yes2 rfl rfl o0) (fun _ _ hd => P_move u3) ?_
      refine L_pur (c := .int .i64 (j0)) rfl rfl (.yes2 rfl rfl o0) (fun _ _ hd => P_move d3) ?_
      refine L_pur (c := .int .i64 ((w64 (j0 - (1 : Int))))) rfl rfl (.yes2 rfl rfl o0) (fun _ _ hd => P_int rfl rfl rfl) ?_
      refine L_pur (c := ePtr up0 (w64 (j0 - (1 : Int))) 1) rfl rfl (.yes2 rfl rfl o0) (fun _ _ hd => P_indexAddrM (α := Int) Try.underlying22 Try.sizeOf3 rfl j1 rfl o5) ?_
      refine L_ld (c := .int .i64 (p4)) rfl rfl (.yes2 rfl rfl o0) (fun _ _ h => ⟨h.ch, fun b hb _ => h.below.block b hb⟩) o7 rfl ?_
      refine L_do (φ := fun v g w => v = .int .i64 (c4)) rfl rfl (.yes2 rfl rfl o0) (fun g w hd => D_callv (g := g) (vs := [.int .i64 (o4), .int .i64 (p4)]) rfl fen3 (.cons rfl (.cons rfl .nil)) (fcl3 _ _ (hfr.ext hd.1).ch _ _ _ _ _  (RV_int.2 rfl) (RV_int.2 rfl) p7) fun g' w' v hs hr => ⟨g', hs, RV_int.1 hr⟩) (fun j9 hv => ?_)
      obtain ⟨_, _, _, rfl⟩ := hv
      refine L_pur (c := .bool ((decide (c4 < (0 : Int))))) rfl rfl (.yes2 rfl rfl o0) (fun _ _ hd => P_int rfl rfl rfl) ?_
      refine L_pur (c := .bool ((decide (c4 < (0 : Int))))) rfl rfl .plain (fun _ _ hd => P_pick (b := (decide (j0 > x1))) rfl (pick_t o0 rfl)) ?_
      refine L_nil fun k8 k9 hall => ?_
      have hs := hall.1
      have hfr := hfr.ext hs
      have j1 := j1.ext hs
      clear hs hall
      refine EL_nil ?_
      obtain rfl := sinj h
      exact hQ _ _ ⟨k8, hfr, u3, j1, z3, x4, i4, z4, d3, rfl⟩
     ·refine E_drawL (g := i6) (n := 17) [] [0, 1, 2, 3, 4, 5, 6, 7, 8, 9, 10, 11, 12, 13, 14, 15, 16] rfl mixed (by kernel_rfl) trivial ?_
      refine L_pur (c := .int .i64 (j0)) rfl rfl .plain (fun _ _ hd => P_move d3) ?_
      refine L_pur (c := .int .i64 (x1)) rfl rfl .plain (fun _ _ hd => P_move z3) ?_
      refine L_pur (c := .bool ((decide (j0 > x1)))) rfl rfl .plain (fun _ _ hd => P_int rfl rfl rfl) ?_
      refine L_pur (c := .bool ((decide (j0 > x1)))) rfl rfl .plain (fun _ _ hd => P_move rfl) ?_
      refine L_skip rfl (.no2 rfl rfl o0 rfl) ?_
      refine L_skip rfl (.no2 rfl rfl o0 rfl) ?_
      refine L_skip rfl (.no2 rfl rfl o0 rfl) ?_
      refine L_skip rfl (.no2 rfl rfl o0 rfl) ?_
      refine L_skip rfl (.no2 rfl rfl o0 rfl) ?_
      refine L_skip rfl (.no2 rfl rfl o0 rfl) ?_
      refine L_skip rfl (.no2 rfl rfl o0 rfl) ?_
      refine L_skip rfl (.no2 rfl rfl o0 rfl) ?_
      refine L_skip rfl (.no2 rfl rfl o0 rfl) ?_
      refine L_skip rfl (.no2 rfl rfl o0 rfl) ?_
      refine L_skip rfl (.no2 rfl rfl o0 rfl) ?_
      refine L_skip rfl (.no2 rfl rfl o0 rfl) ?_
      refine L_pur (c := .bool false) rfl rfl .plain (fun _ _ hd => P_pick (b := (decide (j0 > x1))) rfl (pick_f o0 rfl)) ?_
      refine L_nil fun l8 l9 hall => ?_
      have hs := hall.1
      have hfr := hfr.ext hs
      have j1 := j1.ext hs
      clear hs hall
      refine EL_nil ?_
      obtain rfl := sinj h
      exact hQ _ _ ⟨l8, hfr, u3, j1, z3, x4, i4, z4, d3, rfl⟩
    ·clear hx
     obtain ⟨j6, hfr, c5, d5, i5, j5, l5, m5, k6, j4⟩ := hR
     rcases csome h with ⟨u4, h⟩ | ⟨u4, h⟩
     ·refine E_cond_true (Eq.trans (show ev _ _ = .bool (z2) from j4) (congrArg Value.bool u4)) ?_
      exact E_skip (thn_n (m7 () _ _ ⟨j6, hfr, c5, d5, i5, j5, l5, m5, k6⟩ h))
     ·refine E_cond_false (Eq.trans (show ev _ _ = .bool (z2) from j4) (congrArg Value.bool u4)) ?_
      refine E_exit ?_
      refine thn_e ?_
      refine thn_e ?_
      refine blk_hit ?_
      refine blk_n ?_
      obtain rfl := sinj h
      exact hQ _ _ ⟨j6, hfr, c5, d5, i5, j5, l5, m5⟩
   ·rintro _ a9 m8 ⟨l6, hfr, i3, j2, m6, n6, o6, p6, j3⟩ h
    obtain ⟨o3, hx, h⟩ := bsome h
    refine E_join (fun e w => ∃ (g : Gh) , FrM iI gI wI g w ∧ e 0 = up0 ∧ OM 1 g w 3 (o3 : List Int) up0 ∧ e 1 = .int .i64 (x1) ∧ e 2 = .int .i64 (x2) ∧ e 3 = (.func (.func ff3) fa3 fc3) ∧ e 8 = .int .i64 (z1) ∧ e 9 = .int .i64 (j0)) (fun Q' hQ => ?_) (fun b9 m9 hR => ?_)
    ·replace h := hx
     clear hx
     refine E_block ?_
     obtain ⟨d4, p5, h⟩ := bsome h
     refine L_loadM (x := .tmp 45) Try.isAgg3 Try.sizeOf3 j2 p5 fun n9 n8 q7 => ?_
     obtain rfl := RV_int.1 n8
     obtain ⟨n4, q5, h⟩ := bsome h
     refine L_loadM (x := .tmp 49) Try.isAgg3 Try.sizeOf3 j2 q5 fun o9 o8 t7 => ?_
     obtain rfl := RV_int.1 o8
     obtain ⟨u7, t5, h⟩ := bsome h
     refine E_drawTL (g := l6) (n := 15) [2, 3, 4] [] [0, 1, 2, 3, 4, 5, 6, 7, 8, 9, 10, 11, 12, 13, 14] rfl mixed (by kernel_rfl) trivial rfl ?_
     refine L_pur (c := up0) rfl rfl .plain (fun _ _ hd => P_move i3) ?_
     refine L_pur (c := .int .i64 (j0)) rfl rfl .plain (fun _ _ hd => P_move j3) ?_
     refine L_purL (c := up0) rfl rfl .plain (P_move i3) ?_
     refine L_purL (c := .int .i64 (j0)) rfl rfl .plain (P_move j3) ?_
     refine L_purL (c := .int .i64 ((w64 (j0 - (1 : Int))))) rfl rfl .plain (P_int rfl rfl rfl) ?_
     refine L_pur (c := up0) rfl rfl .plain (fun _ _ hd => P_move i3) ?_
     refine L_pur (c := .int .i64 (j0)) rfl rfl .plain (fun _ _ hd => P_move j3) ?_
     refine L_pur (c := .int .i64 ((w64 (j0 - (1 : Int))))) rfl rfl .plain (fun _ _ hd => P_int rfl rfl rfl) ?_
     refine L_pur (c := ePtr up0 (w64 (j0 - (1 : Int))) 1) rfl rfl .plain (fun _ _ hd => P_indexAddrM (α := Int) Try.underlying22 Try.sizeOf3 rfl j2 rfl p5) ?_
     refine L_ld (c := .int .i64 (d4)) rfl rfl .plain (fun _ _ h => ⟨h.ch, fun b hb _ => h.below.block b hb⟩) q7 rfl ?_
     refine L_pur (c := up0) rfl rfl .plain (fun _ _ hd => P_move i3) ?_
     refine L_pur (c := .int .i64 (j0)) rfl rfl .plain (fun _ _ hd => P_move j3) ?_
     refine L_pur (c := ePtr up0 j0 1) rfl rfl .plain (fun _ _ hd => P_indexAddrM (α := Int) Try.underlying22 Try.sizeOf3 rfl j2 rfl q5) ?_
     refine L_ld (c := .int .i64 (n4)) rfl rfl .plain (fun _ _ h => ⟨h.ch, fun b hb _ => h.below.block b hb⟩) t7 rfl ?_
     refine L_pur (c := ePtr up0 j0 1) rfl rfl .plain (fun _ _ hd => P_indexAddrM (α := Int) Try.underlying22 Try.sizeOf3 rfl j2 rfl t5) ?_
     refine L_nil fun q6 p8 hall => ?_
     have hs := hall.1
     have hlt : Lt l6.m m8 q6 p8 := hs.ch
     have hfr := hfr.ext hs
     have j2 := j2.ext hs
     clear hs hall
     refine TL_do hlt.w .plain rfl (D_storeM (g := q6) (α := Int) (a' := d4) Try.sizeOf3 rfl j2 t5 rfl (RV_int.2 rfl) fun q8 p9 hs b581 => ?_)
     have hfr := hfr.stp hs
     have hlt := hlt.stp hs
     obtain ⟨v7, u5, h⟩ := bsome h
     refine TL_pur hlt.w (v := ePtr up0 (w64 (j0 - (1 : Int))) 1) (P_indexAddrM (α := Int) Try.underlying22 Try.sizeOf3 rfl b581 rfl u5) .plain rfl ?_
     refine TL_do hlt.w .plain rfl (D_storeM (g := q8) (α := Int) (a' := n4) Try.sizeOf3 rfl b581 u5 rfl (RV_int.2 rfl) fun r8 q9 hs b583 => ?_)
     have hfr := hfr.stp hs
     have hlt := hlt.stp hs
     refine TL_nil hlt.w ?_
     clear hlt
     refine blk_n ?_
     obtain rfl := sinj h
     exact hQ _ _ ⟨r8, hfr, i3, b583, m6, n6, o6, p6, j3⟩
    ·clear hx
     obtain ⟨t8, hfr, r6, t6, u6, v6, x6, y6, z6⟩ := hR
     refine E_region (EL_mv z6 rfl ?_)
     refine EL_in (.int .i64 ((w64 (j0 - (1 : Int))))) rfl rfl rfl rfl ?_
     refine EL_at (.int .i64 ((w64 (j0 - (1 : Int))))) rfl rfl ?_
     exact EL_nil (thn_n (j7 (o3, (w64 (j0 - (1 : Int)))) _ _ ⟨t8, hfr, r6, t6, u6, v6, x6, y6, rfl⟩ h))
  ·clear hx
   obtain ⟨v8, hfr, a7, b7, c7, d7, e7, g7⟩ := hR
   refine E_region (EL_mv g7 rfl ?_)
   refine EL_in (.int .i64 ((w64 (z1 + (1 : Int))))) rfl rfl rfl rfl ?_
   refine EL_at (.int .i64 ((w64 (z1 + (1 : Int))))) rfl rfl ?_
   exact EL_nil (thn_n (hk1 (p3, (w64 (z1 + (1 : Int)))) _ _ ⟨v8, hfr, a7, b7, c7, d7, e7, rfl⟩ h))
/-- griffe/grifferef08.Same -/
def f18 (x0 : LoomMill) (x1 : LoomMill) : Option (Bool) :=
 Option.bind (α := Bool) (
  bif ((x0).Change == (x1).Change) then
   (f28 ((x0).Widths) ((x1).Widths)).bind fun u0 =>
   some (u0)
  else
   some (false)
  ) fun o0 =>
 some (o0)
theorem en18 : Enters Try.prog 18 := enters_of Try.func18 (by kernel_rfl) rfl
theorem wk18 {gI : Gh} {wI : World} {x0 : LoomMill} {x1 : LoomMill} {up0 : Value} (rp0 : RV gI.m wI x0 up0) {up1 : Value} (rp1 : RV gI.m wI x1 up1) {r : Bool} (h : f18 x0 x1 = some r) : Fn Try.prog 18 #[up0, up1] gI wI (fun _ _ v => v = .bool (r)) := by
 unfold f18 at h
 refine fn_of_E Try.func18 rfl (Nat.le_of_ble_eq_true rfl) fun g0 hm hfr => ?_
 have rp0 : RV g0.m wI x0 up0 := hm ▸ rp0
 have rp1 : RV g0.m wI x1 up1 := hm ▸ rp1
 show E _ 17 none _ _ _ _ _
 refine E_seq (E_region (EL_do .plain rfl (D_box (g := g0) rfl rp0 fun g1 w1 p1 hs q1 => ?_)))
 have hfr := hfr.ext hs
 have rp1 := rp1.ext hs
 refine EL_do .plain rfl (D_box (g := g1) rfl rp1 fun g2 w2 p2 hs q2 => ?_)
 have hfr := hfr.ext hs
 have q1 := q1.ext hs
 refine EL_at (.bool false) rfl rfl ?_
 refine EL_nil (thn_n ?_)
 obtain ⟨o0, hx, h⟩ := bsome h
 refine E_join (fun e w => ∃ (g : Gh) , Fr gI wI g w ∧ e 4 = .bool (o0)) (fun Q' hQ => ?_) (fun i4 m4 hR => ?_)
 ·replace h := hx
  clear hx
  refine E_region (EL_pur (v := fPtr p1 1) (P_fieldAddr at_24_1 rfl (PT.ptr q1)) .plain rfl ?_)
  have j2 := PT_field (part_LoomMill_1).1 q1
  refine EL_do .plain rfl (D_load (g := g2) Try.isAgg3 Try.sizeOf3 rfl j2 fun n4 z2 => ?_)
  obtain rfl := RV_int.1 z2
  refine EL_pur (v := fPtr p2 1) (P_fieldAddr at_24_1 rfl (PT.ptr q2)) .plain rfl ?_
  have d3 := PT_field (part_LoomMill_1).1 q2
  refine EL_do .plain rfl (D_load (g := g2) Try.isAgg3 Try.sizeOf3 rfl d3 fun o4 i3 => ?_)
  obtain rfl := RV_int.1 i3
  refine EL_in (.bool (((x0).Change == (x1).Change))) rfl rfl rfl rfl ?_
  refine EL_mw (.bool (((x0).Change == (x1).Change))) rfl rfl ?_
  rcases csome h with ⟨j0, h⟩ | ⟨j0, h⟩
  ·refine EL_pur (v := fPtr p1 0) (P_fieldAddr at_24_0 rfl (PT.ptr q1)) (.yes2 rfl rfl j0) rfl ?_
   have j3 := PT_field (part_LoomMill_0).1 q1
   refine EL_do (.yes2 rfl rfl j0) rfl (D_load (g := g2) Try.isAgg22 Try.sizeOf22 rfl j3 fun o3 p3 => ?_)
   refine EL_pur (v := fPtr p2 0) (P_fieldAddr at_24_0 rfl (PT.ptr q2)) (.yes2 rfl rfl j0) rfl ?_
   have u3 := PT_field (part_LoomMill_0).1 q2
   refine EL_do (.yes2 rfl rfl j0) rfl (D_load (g := g2) Try.isAgg22 Try.sizeOf22 rfl u3 fun z3 c4 => ?_)
   obtain ⟨u0, z1, h⟩ := bsome h
   refine EL_do (.yes2 rfl rfl j0) rfl (D_call (g := g2) (vs := [o3, z3]) en28 (.cons rfl (.cons rfl .nil)) (wk28 p3 c4 z1) fun d4 j4 p4 hs hr => ?_)
   have hfr := hfr.ext hs
   subst hr
   refine EL_pur (v := .bool (u0)) (P_pick (b := ((x0).Change == (x1).Change)) rfl (pick_t j0 rfl)) .plain rfl ?_
   refine EL_at (.bool (u0)) rfl rfl ?_
   refine EL_nil ?_
   obtain rfl := sinj h
   exact hQ _ _ ⟨d4, hfr, rfl⟩
  ·refine EL_skip (.no2 rfl rfl j0 rfl) rfl ?_
   refine EL_skip (.no2 rfl rfl j0 rfl) rfl ?_
   refine EL_skip (.no2 rfl rfl j0 rfl) rfl ?_
   refine EL_skip (.no2 rfl rfl j0 rfl) rfl ?_
   refine EL_skip (.no2 rfl rfl j0 rfl) rfl ?_
   refine EL_pur (v := .bool false) (P_pick (b := ((x0).Change == (x1).Change)) rfl (pick_f j0 rfl)) .plain rfl ?_
   refine EL_at (.bool false) rfl rfl ?_
   refine EL_nil ?_
   obtain rfl := sinj h
   exact hQ _ _ ⟨g2, hfr, rfl⟩
 ·clear hx
  obtain ⟨u4, hfr, j1⟩ := hR
  refine E_ret ?_
  obtain rfl := sinj h
  exact end1 rfl rfl (show _ = .bool (o0) from j1) ⟨_, hfr, rfl⟩
end Go.Proofs.Ytnfjhdagbknlbaa
