import Derived.Test.YtnfjhdagbknlbaaCode3
set_option maxRecDepth 8000
set_option maxHeartbeats 4000000
namespace Go.Proofs.Ytnfjhdagbknlbaa
open Go.RowKit
/-- griffe/griffelaw08.wide -/
def f13 (x0 : LoomMill) (x1 : List LoomOrder) : Option (Bool) :=
 Option.bind (α := Int) (
  lp (σ := Int × Int) (fun o5 (o0, j0) =>
   jn (σ := Unit) (fun (_ : Unit) =>
    Option.bind (α := Int) (
     (idx x1 j0).bind fun y165 =>
     (idx x1 j0).bind fun j1 =>
     (idx x1 j0).bind fun z2 =>
     some ((w64 (o0 * (max64 (1 : Int) (w64 ((w64 ((w64 ((w64 ((min64 (300 : Int) (y165).Late) - (max64 (0 : Int) (j1).Early))) - (z2).Woven)) + (1 : Int))) * (((x0).Widths).length : Int)))))))
     ) fun o3 =>
    o5 (o3, (w64 (j0 + (1 : Int))))
    ) fun p5 =>
   Option.bind (α := Bool) (
    bif (decide (j0 < ((x1).length : Int))) then
     some ((decide (o0 ≤ (3000 : Int))))
    else
     some (false)
    ) fun j2 =>
   bif j2 then
    p5 ()
   else
    some (o0)
   ) big ((1 : Int), (0 : Int))
  ) fun z1 =>
 Option.bind (α := Bool) (
  (f20 x0 x1).bind fun c4 =>
  bif (c4 == (0 : Int)) then
   some ((decide (z1 > (3000 : Int))))
  else
   some (false)
  ) fun p3 =>
 some (p3)
theorem en13 : Enters Try.prog 13 := enters_of Try.func13 (by kernel_rfl) rfl
theorem wk13 {gI : Gh} {wI : World} {x0 : LoomMill} {x1 : List LoomOrder} {up0 : Value} (rp0 : RV gI.m wI x0 up0) {up1 : Value} (rp1 : RV gI.m wI x1 up1) {r : Bool} (h : f13 x0 x1 = some r) : Fn Try.prog 13 #[up0, up1] gI wI (fun _ _ v => v = .bool (r)) := by
 unfold f13 at h
 refine fn_of_E Try.func13 rfl (Nat.le_of_ble_eq_true rfl) fun g0 hm hfr => ?_
 have rp0 : RV g0.m wI x0 up0 := hm ▸ rp0
 have rp1 : RV g0.m wI x1 up1 := hm ▸ rp1
 show E _ 52 none _ _ _ _ _
 refine E_seq (E_region (EL_do .plain rfl (D_box (g := g0) rfl rp0 fun g1 w1 p1 hs q1 => ?_)))
 have hfr := hfr.ext hs
 have rp1 := rp1.ext hs
 refine EL_at (.bool false) rfl rfl ?_
 refine EL_nil (thn_n (E_seq (E_region (EL_at (.int .i64 (1)) rfl rfl ?_))))
 refine EL_nil (thn_n ?_)
 obtain ⟨z1, hx, h⟩ := bsome h
 refine E_join (fun e w => ∃ (g : Gh) , Fr gI wI g w ∧ e 1 = up1 ∧ RV g.m w (x1 : List LoomOrder) up1 ∧ e 2 = p1 ∧ PT g.m w (x0 : LoomMill) p1 ∧ e 5 = .int .i64 (z1)) (fun Q' hQ => ?_) (fun y7 i8 hR => ?_)
 ·replace h := hx
  clear hx
  refine E_seq (E_region (EL_at (.int .i64 (0)) rfl rfl ?_))
  refine EL_nil (thn_n (E_block ?_))
  refine E_lp h (fun (s : Int × Int) e w => ∃ (g : Gh) , Fr gI wI g w ∧ e 1 = up1 ∧ RV g.m w (x1 : List LoomOrder) up1 ∧ e 2 = p1 ∧ PT g.m w (x0 : LoomMill) p1 ∧ e 5 = .int .i64 (s.1) ∧ e 6 = .int .i64 (s.2)) ⟨g1, hfr, rfl, rp1, rfl, q1, rfl, rfl⟩ (fun X107 o5 v6 => ?_)
  rintro ⟨o0, j0⟩ a8 j8 ⟨q5, hfr, d4, i4, p4, u4, j4, m4⟩ h
  refine E_joinC h (fun (s : Unit) e w => ∃ (g : Gh) , Fr gI wI g w ∧ e 1 = up1 ∧ RV g.m w (x1 : List LoomOrder) up1 ∧ e 2 = p1 ∧ PT g.m w (x0 : LoomMill) p1 ∧ e 5 = .int .i64 (o0) ∧ e 6 = .int .i64 (j0)) (fun X113 p5 x6 h => ?_) ?_
  ·obtain ⟨j2, hx, h⟩ := bsome h
   refine E_join (fun e w => ∃ (g : Gh) , Fr gI wI g w ∧ e 1 = up1 ∧ RV g.m w (x1 : List LoomOrder) up1 ∧ e 2 = p1 ∧ PT g.m w (x0 : LoomMill) p1 ∧ e 5 = .int .i64 (o0) ∧ e 6 = .int .i64 (j0) ∧ e 14 = .bool (j2)) (fun Q' hQ => ?_) (fun b8 k8 hR => ?_)
   ·replace h := hx
    clear hx
    refine E_region (EL_mv m4 rfl ?_)
    refine EL_mv d4 rfl ?_
    refine EL_pur (v := .int .i64 ((x1).length : Int)) (P_len Try.underlying25 rfl i4) .plain rfl ?_
    refine EL_in (.bool ((decide (j0 < ((x1).length : Int))))) rfl rfl rfl rfl ?_
    refine EL_mw (.bool ((decide (j0 < ((x1).length : Int))))) rfl rfl ?_
    rcases csome h with ⟨d3, h⟩ | ⟨d3, h⟩
    ·refine EL_pur (v := .int .i64 (o0)) (P_move j4) (.yes2 rfl rfl d3) rfl ?_
     refine EL_pur (v := .bool ((decide (o0 ≤ (3000 : Int))))) (P_int rfl rfl rfl) (.yes2 rfl rfl d3) rfl ?_
     refine EL_pur (v := .bool ((decide (o0 ≤ (3000 : Int))))) (P_pick (b := (decide (j0 < ((x1).length : Int)))) rfl (pick_t d3 rfl)) .plain rfl ?_
     refine EL_nil ?_
     obtain rfl := sinj h
     exact hQ _ _ ⟨q5, hfr, d4, i4, p4, u4, j4, m4, rfl⟩
    ·refine EL_skip (.no2 rfl rfl d3 rfl) rfl ?_
     refine EL_skip (.no2 rfl rfl d3 rfl) rfl ?_
     refine EL_pur (v := .bool false) (P_pick (b := (decide (j0 < ((x1).length : Int)))) rfl (pick_f d3 rfl)) .plain rfl ?_
     refine EL_nil ?_
     obtain rfl := sinj h
     exact hQ _ _ ⟨q5, hfr, d4, i4, p4, u4, j4, m4, rfl⟩
   ·clear hx
    obtain ⟨t5, hfr, x4, z4, c5, d5, i5, u5, n4⟩ := hR
    rcases csome h with ⟨o4, h⟩ | ⟨o4, h⟩
    ·refine E_cond_true (Eq.trans (show ev _ _ = .bool (j2) from n4) (congrArg Value.bool o4)) ?_
     exact E_skip (thn_n (x6 () _ _ ⟨t5, hfr, x4, z4, c5, d5, i5, u5⟩ h))
    ·refine E_cond_false (Eq.trans (show ev _ _ = .bool (j2) from n4) (congrArg Value.bool o4)) ?_
     refine E_exit ?_
     refine thn_e ?_
     refine thn_e ?_
     refine blk_hit ?_
     obtain rfl := sinj h
     exact hQ _ _ ⟨t5, hfr, x4, z4, c5, d5, i5⟩
  ·rintro _ c8 l8 ⟨d7, hfr, u3, u0, j5, j3, x5, z3⟩ h
   obtain ⟨o3, hx, h⟩ := bsome h
   refine E_join (fun e w => ∃ (g : Gh) , Fr gI wI g w ∧ e 1 = up1 ∧ RV g.m w (x1 : List LoomOrder) up1 ∧ e 2 = p1 ∧ PT g.m w (x0 : LoomMill) p1 ∧ e 5 = .int .i64 (o3) ∧ e 6 = .int .i64 (j0)) (fun Q' hQ => ?_) (fun d8 m8 hR => ?_)
   ·replace h := hx
    clear hx
    refine E_block ?_
    obtain ⟨y165, l5, h⟩ := bsome h
    have y5 := PT_idx u0 l5
    have e7 := PT_field (part_LoomOrder_4).1 y5
    refine L_load (x := .tmp 21) Try.isAgg3 Try.sizeOf3 e7 fun n8 g7 y6 => ?_
    obtain rfl := RV_int.1 g7
    obtain ⟨j1, m5, h⟩ := bsome h
    have z5 := PT_idx u0 m5
    have i7 := PT_field (part_LoomOrder_3).1 z5
    refine L_load (x := .tmp 27) Try.isAgg3 Try.sizeOf3 i7 fun o8 j7 z6 => ?_
    obtain rfl := RV_int.1 j7
    obtain ⟨z2, n5, h⟩ := bsome h
    have b6 := PT_idx u0 n5
    have m7 := PT_field (part_LoomOrder_2).1 b6
    refine L_load (x := .tmp 34) Try.isAgg3 Try.sizeOf3 m7 fun p8 n7 a7 => ?_
    obtain rfl := RV_int.1 n7
    have o7 := PT_field (part_LoomMill_0).1 j3
    refine L_load (x := .tmp 38) Try.isAgg22 Try.sizeOf22 o7 fun p7 q7 b7 => ?_
    refine E_drawL (g := d7) (n := 28) [] [0, 1, 2, 3, 4, 5, 6, 7, 8, 9, 10, 11, 12, 13, 14, 15, 16, 17, 18, 19, 20, 21, 22, 23, 24, 25, 26, 27] rfl mixed (by kernel_rfl) trivial ?_
    refine L_pur (c := .int .i64 (o0)) rfl rfl .plain (fun _ _ hd => P_move x5) ?_
    refine L_pur (c := up1) rfl rfl .plain (fun _ _ hd => P_move u3) ?_
    refine L_pur (c := .int .i64 (j0)) rfl rfl .plain (fun _ _ hd => P_move z3) ?_
    refine L_pur (c := ePtr up1 j0 5) rfl rfl .plain (fun _ _ hd => P_indexAddr (α := LoomOrder) Try.underlying25 Try.sizeOf82 rfl u0 rfl l5) ?_
    refine L_pur (c := fPtr (ePtr up1 j0 5) 4) rfl rfl .plain (fun _ _ hd => P_fieldAddr at_82_4 rfl (PT.ptr y5)) ?_
    refine L_ld (c := .int .i64 ((y165).Late)) rfl rfl .plain (fun _ _ h => h.ch) y6 rfl ?_
    refine L_pur (c := .int .i64 (min64 (300 : Int) (y165).Late)) rfl rfl .plain (fun _ _ hd => P_min rfl rfl) ?_
    refine L_pur (c := up1) rfl rfl .plain (fun _ _ hd => P_move u3) ?_
    refine L_pur (c := .int .i64 (j0)) rfl rfl .plain (fun _ _ hd => P_move z3) ?_
    refine L_pur (c := ePtr up1 j0 5) rfl rfl .plain (fun _ _ hd => P_indexAddr (α := LoomOrder) Try.underlying25 Try.sizeOf82 rfl u0 rfl m5) ?_
    refine L_pur (c := fPtr (ePtr up1 j0 5) 3) rfl rfl .plain (fun _ _ hd => P_fieldAddr at_82_3 rfl (PT.ptr z5)) ?_
    refine L_ld (c := .int .i64 ((j1).Early)) rfl rfl .plain (fun _ _ h => h.ch) z6 rfl ?_
    refine L_pur (c := .int .i64 (max64 (0 : Int) (j1).Early)) rfl rfl .plain (fun _ _ hd => P_max rfl rfl) ?_
    refine L_pur (c := .int .i64 ((w64 ((min64 (300 : Int) (y165).Late) - (max64 (0 : Int) (j1).Early))))) rfl rfl .plain (fun _ _ hd => P_int rfl rfl rfl) ?_
    refine L_pur (c := up1) rfl rfl .plain (fun _ _ hd => P_move u3) ?_
    refine L_pur (c := .int .i64 (j0)) rfl rfl .plain (fun _ _ hd => P_move z3) ?_
    refine L_pur (c := ePtr up1 j0 5) rfl rfl .plain (fun _ _ hd => P_indexAddr (α := LoomOrder) Try.underlying25 Try.sizeOf82 rfl u0 rfl n5) ?_
    refine L_pur (c := fPtr (ePtr up1 j0 5) 2) rfl rfl .plain (fun _ _ hd => P_fieldAddr at_82_2 rfl (PT.ptr b6)) ?_
    refine L_ld (c := .int .i64 ((z2).Woven)) rfl rfl .plain (fun _ _ h => h.ch) a7 rfl ?_
    refine L_pur (c := .int .i64 ((w64 ((w64 ((min64 (300 : Int) (y165).Late) - (max64 (0 : Int) (j1).Early))) - (z2).Woven)))) rfl rfl .plain (fun _ _ hd => P_int rfl rfl rfl) ?_
    refine L_pur (c := .int .i64 ((w64 ((w64 ((w64 ((min64 (300 : Int) (y165).Late) - (max64 (0 : Int) (j1).Early))) - (z2).Woven)) + (1 : Int))))) rfl rfl .plain (fun _ _ hd => P_int rfl rfl rfl) ?_
    refine L_pur (c := fPtr p1 0) rfl rfl .plain (fun _ _ hd => P_fieldAddr at_24_0 j5 (PT.ptr j3)) ?_
    refine L_ld (c := p7) rfl rfl .plain (fun _ _ h => h.ch) b7 rfl ?_
    refine L_pur (c := .int .i64 (((x0).Widths).length : Int)) rfl rfl .plain (fun _ _ hd => P_len Try.underlying22 rfl q7) ?_
    refine L_pur (c := .int .i64 ((w64 ((w64 ((w64 ((w64 ((min64 (300 : Int) (y165).Late) - (max64 (0 : Int) (j1).Early))) - (z2).Woven)) + (1 : Int))) * (((x0).Widths).length : Int))))) rfl rfl .plain (fun _ _ hd => P_int rfl rfl rfl) ?_
    refine L_pur (c := .int .i64 (max64 (1 : Int) (w64 ((w64 ((w64 ((w64 ((min64 (300 : Int) (y165).Late) - (max64 (0 : Int) (j1).Early))) - (z2).Woven)) + (1 : Int))) * (((x0).Widths).length : Int))))) rfl rfl .plain (fun _ _ hd => P_max rfl rfl) ?_
    refine L_pur (c := .int .i64 ((w64 (o0 * (max64 (1 : Int) (w64 ((w64 ((w64 ((w64 ((min64 (300 : Int) (y165).Late) - (max64 (0 : Int) (j1).Early))) - (z2).Woven)) + (1 : Int))) * (((x0).Widths).length : Int)))))))) rfl rfl .plain (fun _ _ hd => P_int rfl rfl rfl) ?_
    refine L_pur (c := .int .i64 ((w64 (o0 * (max64 (1 : Int) (w64 ((w64 ((w64 ((w64 ((min64 (300 : Int) (y165).Late) - (max64 (0 : Int) (j1).Early))) - (z2).Woven)) + (1 : Int))) * (((x0).Widths).length : Int)))))))) rfl rfl .plain (fun _ _ hd => P_assign rfl) ?_
    refine L_nil fun t7 q8 hall => ?_
    have hs := hall.1
    have hfr := hfr.ext hs
    have u0 := u0.ext hs
    have j3 := j3.ext hs
    clear hs hall
    refine EL_nil (blk_n ?_)
    obtain rfl := sinj h
    exact hQ _ _ ⟨t7, hfr, u3, u0, j5, j3, rfl, z3⟩
   ·clear hx
    obtain ⟨u7, hfr, c6, d6, i6, j6, k6, l6⟩ := hR
    refine E_region (EL_mv l6 rfl ?_)
    refine EL_in (.int .i64 ((w64 (j0 + (1 : Int))))) rfl rfl rfl rfl ?_
    refine EL_at (.int .i64 ((w64 (j0 + (1 : Int))))) rfl rfl ?_
    exact EL_nil (thn_n (v6 (o3, (w64 (j0 + (1 : Int)))) _ _ ⟨u7, hfr, c6, d6, i6, j6, k6, rfl⟩ h))
 ·clear hx
  obtain ⟨m6, hfr, n6, o6, p6, q6, r6⟩ := hR
  obtain ⟨p3, hx, h⟩ := bsome h
  refine E_join (fun e w => ∃ (g : Gh) , Fr gI wI g w ∧ e 4 = .bool (p3)) (fun Q' hQ => ?_) (fun e8 r8 hR => ?_)
  ·replace h := hx
   clear hx
   refine E_region (EL_do .plain rfl (D_load (g := m6) Try.isAgg24 Try.sizeOf24 p6 q6 fun v7 x7 => ?_))
   refine EL_mv n6 rfl ?_
   obtain ⟨c4, c7, h⟩ := bsome h
   refine EL_do .plain rfl (D_call (g := m6) (vs := [v7, up1]) en20 (.cons rfl (.cons rfl .nil)) (wk20 x7 o6 c7) fun t6 g8 t8 hs hr => ?_)
   have hfr := hfr.ext hs
   subst hr
   refine EL_in (.bool ((c4 == (0 : Int)))) rfl rfl rfl rfl ?_
   refine EL_mw (.bool ((c4 == (0 : Int)))) rfl rfl ?_
   rcases csome h with ⟨i3, h⟩ | ⟨i3, h⟩
   ·refine EL_pur (v := .int .i64 (z1)) (P_move r6) (.yes2 rfl rfl i3) rfl ?_
    refine EL_pur (v := .bool ((decide (z1 > (3000 : Int))))) (P_int rfl rfl rfl) (.yes2 rfl rfl i3) rfl ?_
    refine EL_pur (v := .bool ((decide (z1 > (3000 : Int))))) (P_pick (b := (c4 == (0 : Int))) rfl (pick_t i3 rfl)) .plain rfl ?_
    refine EL_at (.bool ((decide (z1 > (3000 : Int))))) rfl rfl ?_
    refine EL_nil ?_
    obtain rfl := sinj h
    exact hQ _ _ ⟨t6, hfr, rfl⟩
   ·refine EL_skip (.no2 rfl rfl i3 rfl) rfl ?_
    refine EL_skip (.no2 rfl rfl i3 rfl) rfl ?_
    refine EL_pur (v := .bool false) (P_pick (b := (c4 == (0 : Int))) rfl (pick_f i3 rfl)) .plain rfl ?_
    refine EL_at (.bool false) rfl rfl ?_
    refine EL_nil ?_
    obtain rfl := sinj h
    exact hQ _ _ ⟨t6, hfr, rfl⟩
  ·clear hx
   obtain ⟨v8, hfr, u6⟩ := hR
   refine E_ret ?_
   obtain rfl := sinj h
   exact end1 rfl rfl (show _ = .bool (p3) from u6) ⟨_, hfr, rfl⟩
/-- griffe/grifferef08.Holds -/
def f35 (x0 : LoomMill) (x1 : List LoomOrder) (x2 : List LoomRun) : Option (Int × Int) :=
 jn (σ := Unit) (fun (_ : Unit) =>
  jn (σ := Unit) (fun (_ : Unit) =>
   jn (σ := Unit) (fun (_ : Unit) =>
    some ((0 : Int), (0 : Int))
    ) fun i8 =>
   lp (σ := Int) (fun j8 u0 =>
    jn (σ := Unit) (fun (_ : Unit) =>
     jn (σ := Unit) (fun (_ : Unit) =>
      j8 ((w64 (u0 + (1 : Int))))
      ) fun k8 =>
     (f74 x0 x1 x2 u0).bind fun l8 =>
     bif l8 then
      some (u0, (6 : Int))
     else
      k8 ()
     ) fun m8 =>
    bif (decide (u0 < ((x2).length : Int))) then
     m8 ()
    else
     i8 ()
    ) big ((0 : Int))
   ) fun aB =>
  lp (σ := Int) (fun bB j0 =>
   jn (σ := Unit) (fun (_ : Unit) =>
    jn (σ := Unit) (fun (_ : Unit) =>
     bB ((w64 (j0 + (1 : Int))))
     ) fun cB =>
    (idx x2 j0).bind fun j1 =>
    jn (σ := Unit) (fun (_ : Unit) =>
     jn (σ := Unit) (fun (_ : Unit) =>
      (idx x1 (j1).Order).bind fun o3 =>
      (idx ((x0).Widths) (j1).Loom).bind fun d6 =>
      bif (decide ((o3).Width > d6)) then
       some (j0, (2 : Int))
      else
       Option.bind (α := Bool) (
        bif (decide ((j1).From < (o3).Early)) then
         some (true)
        else
         some ((decide ((w64 ((j1).From + (o3).Woven)) > (o3).Late)))
        ) fun o4 =>
       bif o4 then
        some (j0, (3 : Int))
       else
        cB ()
      ) fun n8 =>
     Option.bind (α := Bool) (
      bif (decide (j0 > (0 : Int))) then
       (idx x2 (w64 (j0 - (1 : Int)))).bind fun o5 =>
       some ((decide ((j1).Order ≤ (o5).Order)))
      else
       some (false)
      ) fun p4 =>
     bif p4 then
      some (j0, (4 : Int))
     else
      n8 ()
     ) fun o8 =>
    Option.bind (α := Bool) (
     (f36 ((j1).Order) ((0 : Int)) ((w64 (((x1).length : Int) - (1 : Int))))).bind fun d5 =>
     bif (!d5) then
      some (true)
     else
      (f36 ((j1).Loom) ((0 : Int)) ((w64 ((((x0).Widths).length : Int) - (1 : Int))))).bind fun z4 =>
      bif (!z4) then
       some (true)
      else
       (f36 ((j1).From) ((0 : Int)) ((300 : Int))).bind fun i6 =>
       some ((!i6))
     ) fun u4 =>
    bif u4 then
     some (j0, (7 : Int))
    else
     o8 ()
    ) fun dB =>
   bif (decide (j0 < ((x2).length : Int))) then
    dB ()
   else
    aB ()
   ) big ((0 : Int))
  ) fun k3 =>
 bif (decide (((x2).length : Int) > ((x1).length : Int))) then
  some ((0 : Int), (5 : Int))
 else
  k3 ()
theorem en35 : Enters Try.prog 35 := enters_of Try.func35 (by kernel_rfl) rfl
theorem wk35 {gI : Gh} {wI : World} {x0 : LoomMill} {x1 : List LoomOrder} {x2 : List LoomRun} {up0 : Value} (rp0 : RV gI.m wI x0 up0) {up1 : Value} (rp1 : RV gI.m wI x1 up1) {up2 : Value} (rp2 : RV gI.m wI x2 up2) {r : Int × Int} (h : f35 x0 x1 x2 = some r) : Fn Try.prog 35 #[up0, up1, up2] gI wI (fun m w v => ∃ y0 y1, v = .tuple #[y0, y1] ∧ y0 = .int .i64 (r.1) ∧ y1 = .int .i64 (r.2)) := by
 unfold f35 at h
 refine fn_of_E Try.func35 rfl (Nat.le_of_ble_eq_true rfl) fun g0 hm hfr => ?_
 have rp0 : RV g0.m wI x0 up0 := hm ▸ rp0
 have rp1 : RV g0.m wI x1 up1 := hm ▸ rp1
 have rp2 : RV g0.m wI x2 up2 := hm ▸ rp2
 show E _ 108 none _ _ _ _ _
 refine E_seq (E_region (EL_do .plain rfl (D_box (g := g0) rfl rp0 fun g1 w1 p1 hs q1 => ?_)))
 have hfr := hfr.ext hs
 have rp1 := rp1.ext hs
 have rp2 := rp2.ext hs
 refine EL_at (.int .i64 (0)) rfl rfl ?_
 refine EL_at (.int .i64 (0)) rfl rfl ?_
 refine EL_nil (thn_n (E_joinC h (fun (s : Unit) e w => ∃ (g : Gh) , Fr gI wI g w ∧ e 1 = up1 ∧ RV g.m w (x1 : List LoomOrder) up1 ∧ e 2 = up2 ∧ RV g.m w (x2 : List LoomRun) up2 ∧ e 3 = p1 ∧ PT g.m w (x0 : LoomMill) p1) (fun X3 k3 hk3 h => ?_) ?_))
 ·refine E_seq (E_region (EL_mw up2 rfl rfl ?_))
  refine EL_pur (v := .int .i64 ((x2).length : Int)) (P_len Try.underlying31 rfl rp2) .plain rfl ?_
  refine EL_mw up1 rfl rfl ?_
  refine EL_pur (v := .int .i64 ((x1).length : Int)) (P_len Try.underlying25 rfl rp1) .plain rfl ?_
  refine EL_in (.bool ((decide (((x2).length : Int) > ((x1).length : Int))))) rfl rfl rfl rfl ?_
  refine EL_nil (thn_n ?_)
  rcases csome h with ⟨eB, h⟩ | ⟨eB, h⟩
  ·refine E_ct eB rfl ?_
   refine E_seq (E_region (EL_at (.int .i64 (0)) rfl rfl ?_))
   refine EL_at (.int .i64 (5)) rfl rfl ?_
   refine EL_nil (thn_n (E_ret (thn_r ?_)))
   obtain rfl := sinj h
   exact end2 rfl rfl (show _ = .int .i64 (0) from rfl) (show _ = .int .i64 (5) from rfl) ⟨_, hfr, _, _, rfl, rfl, rfl⟩
  ·refine E_cf eB rfl ?_
   exact E_skip (thn_n (hk3 () _ _ ⟨g1, hfr, rfl, rp1, rfl, rp2, rfl, q1⟩ h))
 ·rintro _ rG w5 ⟨g5, hfr, vD, xD, yD, zD, aE, bE⟩ h
  refine E_joinC h (fun (s : Unit) e w => ∃ (g : Gh) , Fr gI wI g w ∧ e 1 = up1 ∧ RV g.m w (x1 : List LoomOrder) up1 ∧ e 2 = up2 ∧ RV g.m w (x2 : List LoomRun) up2 ∧ e 3 = p1 ∧ PT g.m w (x0 : LoomMill) p1) (fun X660 aB cC h => ?_) ?_
  ·refine E_seq (E_region (EL_at (.int .i64 (0)) rfl rfl ?_))
   refine EL_nil (thn_n (E_block ?_))
   refine E_lp h (fun (s : Int) e w => ∃ (g : Gh) , Fr gI wI g w ∧ e 1 = up1 ∧ RV g.m w (x1 : List LoomOrder) up1 ∧ e 2 = up2 ∧ RV g.m w (x2 : List LoomRun) up2 ∧ e 3 = p1 ∧ PT g.m w (x0 : LoomMill) p1 ∧ e 8 = .int .i64 (s)) ⟨g5, hfr, vD, xD, yD, zD, aE, bE, rfl⟩ (fun X661 bB dC => ?_)
   rintro j0 xE nG ⟨iB, hfr, u7, v7, l6, m6, x7, y7, a8⟩ h
   refine E_joinC h (fun (s : Unit) e w => ∃ (g : Gh) , Fr gI wI g w ∧ e 1 = up1 ∧ RV g.m w (x1 : List LoomOrder) up1 ∧ e 2 = up2 ∧ RV g.m w (x2 : List LoomRun) up2 ∧ e 3 = p1 ∧ PT g.m w (x0 : LoomMill) p1 ∧ e 8 = .int .i64 (j0)) (fun X664 dB eC h => ?_) ?_
   ·refine E_seq (E_region (EL_mv a8 rfl ?_))
    refine EL_mv l6 rfl ?_
    refine EL_pur (v := .int .i64 ((x2).length : Int)) (P_len Try.underlying31 rfl m6) .plain rfl ?_
    refine EL_in (.bool ((decide (j0 < ((x2).length : Int))))) rfl rfl rfl rfl ?_
    refine EL_nil (thn_n ?_)
    rcases csome h with ⟨o7, h⟩ | ⟨o7, h⟩
    ·refine E_ct o7 rfl ?_
     exact E_skip (thn_n (eC () _ _ ⟨iB, hfr, u7, v7, l6, m6, x7, y7, a8⟩ h))
    ·refine E_cf o7 rfl ?_
     refine E_exit ?_
     refine thn_e ?_
     refine thn_e ?_
     refine blk_hit ?_
     exact thn_n (cC () _ _ ⟨iB, hfr, u7, v7, l6, m6, x7, y7⟩ h)
   ·rintro _ yE oG ⟨jB, hfr, p5, j3, q5, d3, t5, i3, u5⟩ h
    refine E_joinC h (fun (s : Unit) e w => ∃ (g : Gh) , Fr gI wI g w ∧ e 1 = up1 ∧ RV g.m w (x1 : List LoomOrder) up1 ∧ e 2 = up2 ∧ RV g.m w (x2 : List LoomRun) up2 ∧ e 3 = p1 ∧ PT g.m w (x0 : LoomMill) p1 ∧ e 8 = .int .i64 (j0)) (fun X990 cB iC h => ?_) ?_
    ·refine E_block ?_
     refine E_seq (E_region (EL_mv q5 rfl ?_))
     refine EL_mv u5 rfl ?_
     obtain ⟨j1, p8, h⟩ := bsome h
     refine EL_pur (v := ePtr up2 j0 3) (P_indexAddr (α := LoomRun) Try.underlying31 Try.sizeOf76 rfl d3 rfl p8) .plain rfl ?_
     have cE := PT_idx d3 p8
     refine EL_do .plain rfl (D_load (g := jB) Try.isAgg76 Try.sizeOf76 rfl cE fun dE e8 => ?_)
     refine EL_do .plain rfl (D_allocOc (g := jB) 2009 (⟨0, 0, 0⟩ : LoomRun) Try.zeroValue76 (fun m w => ⟨_, (rep_two rep_int (rep_two rep_int rep_int)), rfl⟩) fun eE pG c4 hs b994 cb => ?_)
     have hfr := hfr.stp hs
     have j3 := j3.stp hs
     have d3 := d3.stp hs
     have i3 := i3.stp hs
     have e8 := e8.stp hs
     clear cb
     refine EL_do .plain rfl (D_storeOc (g := eE) (v := dE) Try.sizeOf76 rfl b994 rfl e8 fun kB qG hs b995 cb => ?_)
     clear cb
     have hfr := hfr.stp hs
     have j3 := j3.stp hs
     have d3 := d3.stp hs
     have i3 := i3.stp hs
     refine EL_nil (thn_n (E_joinC h (fun (s : Unit) e w => ∃ (g : Gh) , Fr gI wI g w ∧ e 1 = up1 ∧ RV g.m w (x1 : List LoomOrder) up1 ∧ e 2 = up2 ∧ RV g.m w (x2 : List LoomRun) up2 ∧ e 3 = p1 ∧ PT g.m w (x0 : LoomMill) p1 ∧ e 8 = .int .i64 (j0) ∧ e 9 = c4 ∧ OB 2009 g w 76 (j1 : LoomRun) c4) (fun X1030 o8 lB h => ?_) ?_))
     ·obtain ⟨u4, hx, h⟩ := bsome h
      refine E_join (fun e w => ∃ (g : Gh) , Fr gI wI g w ∧ e 1 = up1 ∧ RV g.m w (x1 : List LoomOrder) up1 ∧ e 2 = up2 ∧ RV g.m w (x2 : List LoomRun) up2 ∧ e 3 = p1 ∧ PT g.m w (x0 : LoomMill) p1 ∧ e 8 = .int .i64 (j0) ∧ e 9 = c4 ∧ OB 2009 g w 76 (j1 : LoomRun) c4 ∧ e 49 = .bool (u4)) (fun Q' hQ => ?_) (fun gE zE hR => ?_)
      ·replace h := hx
       clear hx
       refine E_region (EL_pur (v := fPtr c4 0) (P_fieldAddr at_76_0 rfl (OB.ptr b995)) .plain rfl ?_)
       refine EL_do .plain rfl (D_loadF (g := kB) part_LoomRun_0.1 Try.isAgg3 Try.sizeOf3 rfl b995 fun aF jC => ?_)
       obtain rfl := RV_int.1 jC
       refine EL_mv p5 rfl ?_
       refine EL_pur (v := .int .i64 ((x1).length : Int)) (P_len Try.underlying25 rfl j3) .plain rfl ?_
       refine EL_in (.int .i64 ((w64 (((x1).length : Int) - (1 : Int))))) rfl rfl rfl rfl ?_
       obtain ⟨d5, mB, h⟩ := bsome h
       refine EL_do .plain rfl (D_call (g := kB) (vs := [.int .i64 ((j1).Order), .int .i64 (0), .int .i64 ((w64 (((x1).length : Int) - (1 : Int))))]) en36 (.cons rfl (.cons rfl (.cons rfl .nil))) (wk36  mB) fun j6 iE bF hs hr => ?_)
       have hfr := hfr.ext hs
       have j3 := j3.ext hs
       have d3 := d3.ext hs
       have i3 := i3.ext hs
       have b995 := b995.ext hs
       subst hr
       refine EL_pur (v := .bool (!d5)) (P_not rfl) .plain rfl ?_
       refine EL_mw (.bool (!d5)) rfl rfl ?_
       rcases csome h with ⟨z1, h⟩ | ⟨z1, h⟩
       ·refine EL_skip (.no2 rfl rfl z1 rfl) rfl ?_
        refine EL_skip (.no2 rfl rfl z1 rfl) rfl ?_
        refine EL_skip (.no2 rfl rfl z1 rfl) rfl ?_
        refine EL_skip (.no2 rfl rfl z1 rfl) rfl ?_
        refine EL_skip (.no2 rfl rfl z1 rfl) rfl ?_
        refine EL_skip (.no2 rfl rfl z1 rfl) rfl ?_
        refine EL_skip (.no2 rfl rfl z1 rfl) rfl ?_
        refine EL_skip (.no2 rfl rfl z1 rfl) rfl ?_
        refine EL_pur (v := .bool true) (P_pick (b := (!d5)) rfl (pick_t z1 rfl)) .plain rfl ?_
        refine EL_dead 6 rfl ?_
        refine EL_nil ?_
        obtain rfl := sinj h
        exact hQ _ _ ⟨j6, hfr, p5, j3, q5, d3, t5, i3, u5, rfl, b995, rfl⟩
       ·refine EL_pur (v := fPtr c4 1) (P_fieldAddr at_76_1 rfl (OB.ptr b995)) (.yes2 rfl rfl z1) rfl ?_
        refine EL_do (.yes2 rfl rfl z1) rfl (D_loadF (g := j6) part_LoomRun_1.1 Try.isAgg3 Try.sizeOf3 rfl b995 fun cF kC => ?_)
        obtain rfl := RV_int.1 kC
        refine EL_pur (v := fPtr p1 0) (P_fieldAddr at_24_0 t5 (PT.ptr i3)) (.yes2 rfl rfl z1) rfl ?_
        have lC := PT_field (part_LoomMill_0).1 i3
        refine EL_do (.yes2 rfl rfl z1) rfl (D_load (g := j6) Try.isAgg22 Try.sizeOf22 rfl lC fun dF mC => ?_)
        refine EL_pur (v := .int .i64 (((x0).Widths).length : Int)) (P_len Try.underlying22 rfl mC) (.yes2 rfl rfl z1) rfl ?_
        refine EL_pur (v := .int .i64 ((w64 ((((x0).Widths).length : Int) - (1 : Int))))) (P_int rfl rfl rfl) (.yes2 rfl rfl z1) rfl ?_
        obtain ⟨z4, nB, h⟩ := bsome h
        refine EL_do (.yes2 rfl rfl z1) rfl (D_call (g := j6) (vs := [.int .i64 ((j1).Loom), .int .i64 (0), .int .i64 ((w64 ((((x0).Widths).length : Int) - (1 : Int))))]) en36 (.cons rfl (.cons rfl (.cons rfl .nil))) (wk36  nB) fun p7 jE eF hs hr => ?_)
        have hfr := hfr.ext hs
        have j3 := j3.ext hs
        have d3 := d3.ext hs
        have i3 := i3.ext hs
        have b995 := b995.ext hs
        subst hr
        refine EL_pur (v := .bool (!z4)) (P_not rfl) (.yes2 rfl rfl z1) rfl ?_
        refine EL_pur (v := .bool (!z4)) (P_pick (b := (!d5)) rfl (pick_f z1 rfl)) .plain rfl ?_
        refine EL_mw (.bool (!z4)) rfl rfl ?_
        rcases csome h with ⟨z3, h⟩ | ⟨z3, h⟩
        ·refine EL_skip (.no2 rfl rfl z3 rfl) rfl ?_
         refine EL_skip (.no2 rfl rfl z3 rfl) rfl ?_
         refine EL_skip (.no2 rfl rfl z3 rfl) rfl ?_
         refine EL_skip (.no2 rfl rfl z3 rfl) rfl ?_
         refine EL_pur (v := .bool true) (P_pick (b := (!z4)) rfl (pick_t z3 rfl)) .plain rfl ?_
         refine EL_nil ?_
         obtain rfl := sinj h
         exact hQ _ _ ⟨p7, hfr, p5, j3, q5, d3, t5, i3, u5, rfl, b995, rfl⟩
        ·refine EL_pur (v := fPtr c4 2) (P_fieldAddr at_76_2 rfl (OB.ptr b995)) (.yes2 rfl rfl z3) rfl ?_
         refine EL_do (.yes2 rfl rfl z3) rfl (D_loadF (g := p7) part_LoomRun_2.1 Try.isAgg3 Try.sizeOf3 rfl b995 fun gF nC => ?_)
         obtain rfl := RV_int.1 nC
         obtain ⟨i6, oB, h⟩ := bsome h
         refine EL_do (.yes2 rfl rfl z3) rfl (D_call (g := p7) (vs := [.int .i64 ((j1).From), .int .i64 (0), .int .i64 (300)]) en36 (.cons rfl (.cons rfl (.cons rfl .nil))) (wk36  oB) fun oC kE iF hs hr => ?_)
         have hfr := hfr.ext hs
         have j3 := j3.ext hs
         have d3 := d3.ext hs
         have i3 := i3.ext hs
         have b995 := b995.ext hs
         subst hr
         refine EL_pur (v := .bool (!i6)) (P_not rfl) (.yes2 rfl rfl z3) rfl ?_
         refine EL_pur (v := .bool (!i6)) (P_pick (b := (!z4)) rfl (pick_f z3 rfl)) .plain rfl ?_
         refine EL_nil ?_
         obtain rfl := sinj h
         exact hQ _ _ ⟨oC, hfr, p5, j3, q5, d3, t5, i3, u5, rfl, b995, rfl⟩
      ·clear hx
       obtain ⟨pC, hfr, z8, a9, b9, c9, d9, e9, z6, g9, i9, n6⟩ := hR
       rcases csome h with ⟨o6, h⟩ | ⟨o6, h⟩
       ·refine E_cond_true (Eq.trans (show ev _ _ = .bool (u4) from n6) (congrArg Value.bool o6)) ?_
        refine E_seq (E_region (EL_mv z6 rfl ?_))
        refine EL_at (.int .i64 (j0)) rfl rfl ?_
        refine EL_at (.int .i64 (7)) rfl rfl ?_
        refine EL_nil (thn_n (E_ret (thn_r ?_)))
        refine blk_r ?_
        refine thn_r ?_
        refine thn_r ?_
        refine blk_r ?_
        refine thn_r ?_
        obtain rfl := sinj h
        exact end2 rfl rfl (show _ = .int .i64 (j0) from rfl) (show _ = .int .i64 (7) from rfl) ⟨_, hfr, _, _, rfl, rfl, rfl⟩
       ·refine E_cond_false (Eq.trans (show ev _ _ = .bool (u4) from n6) (congrArg Value.bool o6)) ?_
        exact E_skip (thn_n (lB () _ _ ⟨pC, hfr, z8, a9, b9, c9, d9, e9, z6, g9, i9⟩ h))
     ·rintro _ lE jF ⟨q8, hfr, a7, m4, x5, d4, b7, n4, x4, y5, i4⟩ h
      refine E_joinC h (fun (s : Unit) e w => ∃ (g : Gh) , Fr gI wI g w ∧ e 1 = up1 ∧ RV g.m w (x1 : List LoomOrder) up1 ∧ e 2 = up2 ∧ RV g.m w (x2 : List LoomRun) up2 ∧ e 3 = p1 ∧ PT g.m w (x0 : LoomMill) p1 ∧ e 8 = .int .i64 (j0) ∧ e 9 = c4 ∧ OB 2009 g w 76 (j1 : LoomRun) c4) (fun X1158 n8 pB h => ?_) ?_
      ·obtain ⟨p4, hx, h⟩ := bsome h
       refine E_join (fun e w => ∃ (g : Gh) , Fr gI wI g w ∧ e 1 = up1 ∧ RV g.m w (x1 : List LoomOrder) up1 ∧ e 2 = up2 ∧ RV g.m w (x2 : List LoomRun) up2 ∧ e 3 = p1 ∧ PT g.m w (x0 : LoomMill) p1 ∧ e 8 = .int .i64 (j0) ∧ e 9 = c4 ∧ OB 2009 g w 76 (j1 : LoomRun) c4 ∧ e 63 = .bool (p4)) (fun Q' hQ => ?_) (fun mE kF hR => ?_)
       ·replace h := hx
        clear hx
        rcases csome h with ⟨o0, h⟩ | ⟨o0, h⟩
        ·refine L_loadO (x := .tmp 54) part_LoomRun_0.1 Try.isAgg3 Try.sizeOf3 i4 fun lF qC qB => ?_
         obtain rfl := RV_int.1 qC
         obtain ⟨o5, b8, h⟩ := bsome h
         have r8 := PT_idx d4 b8
         have rC := PT_field (part_LoomRun_0).1 r8
         refine L_load (x := .tmp 60) Try.isAgg3 Try.sizeOf3 rC fun mF sC rB => ?_
         obtain rfl := RV_int.1 sC
         refine E_drawL (g := q8) (n := 13) [] [0, 1, 2, 3, 4, 5, 6, 7, 8, 9, 10, 11, 12] rfl mixed (by kernel_rfl) trivial ?_
         refine L_pur (c := .int .i64 (j0)) rfl rfl .plain (fun _ _ hd => P_move x4) ?_
         refine L_pur (c := .bool ((decide (j0 > (0 : Int))))) rfl rfl .plain (fun _ _ hd => P_int rfl rfl rfl) ?_
         refine L_pur (c := .bool ((decide (j0 > (0 : Int))))) rfl rfl .plain (fun _ _ hd => P_move rfl) ?_
         refine L_pur (c := fPtr c4 0) rfl rfl (.yes2 rfl rfl o0) (fun _ _ hd => P_fieldAddr at_76_0 y5 (OB.ptr i4)) ?_
         refine L_ld (c := .int .i64 ((j1).Order)) rfl rfl (.yes2 rfl rfl o0) (fun _ _ h => ⟨h.ch, fun b hb _ => h.below.block b hb⟩) qB rfl ?_
         refine L_pur (c := up2) rfl rfl (.yes2 rfl rfl o0) (fun _ _ hd => P_move x5) ?_
         refine L_pur (c := .int .i64 (j0)) rfl rfl (.yes2 rfl rfl o0) (fun _ _ hd => P_move x4) ?_
         refine L_pur (c := .int .i64 ((w64 (j0 - (1 : Int))))) rfl rfl (.yes2 rfl rfl o0) (fun _ _ hd => P_int rfl rfl rfl) ?_
         refine L_pur (c := ePtr up2 (w64 (j0 - (1 : Int))) 3) rfl rfl (.yes2 rfl rfl o0) (fun _ _ hd => P_indexAddr (α := LoomRun) Try.underlying31 Try.sizeOf76 rfl d4 rfl b8) ?_
         refine L_pur (c := fPtr (ePtr up2 (w64 (j0 - (1 : Int))) 3) 0) rfl rfl (.yes2 rfl rfl o0) (fun _ _ hd => P_fieldAddr at_76_0 rfl (PT.ptr r8)) ?_
         refine L_ld (c := .int .i64 ((o5).Order)) rfl rfl (.yes2 rfl rfl o0) (fun _ _ h => h.ch) rB rfl ?_
         refine L_pur (c := .bool ((decide ((j1).Order ≤ (o5).Order)))) rfl rfl (.yes2 rfl rfl o0) (fun _ _ hd => P_int rfl rfl rfl) ?_
         refine L_pur (c := .bool ((decide ((j1).Order ≤ (o5).Order)))) rfl rfl .plain (fun _ _ hd => P_pick (b := (decide (j0 > (0 : Int)))) rfl (pick_t o0 rfl)) ?_
         refine L_nil fun tC nF hall => ?_
         have hs := hall.1
         have hfr := hfr.ext hs
         have m4 := m4.ext hs
         have d4 := d4.ext hs
         have n4 := n4.ext hs
         have i4 := i4.ext hs
         clear hs hall
         refine EL_nil ?_
         obtain rfl := sinj h
         exact hQ _ _ ⟨tC, hfr, a7, m4, x5, d4, b7, n4, x4, y5, i4, rfl⟩
        ·refine E_drawL (g := q8) (n := 13) [] [0, 1, 2, 3, 4, 5, 6, 7, 8, 9, 10, 11, 12] rfl mixed (by kernel_rfl) trivial ?_
         refine L_pur (c := .int .i64 (j0)) rfl rfl .plain (fun _ _ hd => P_move x4) ?_
         refine L_pur (c := .bool ((decide (j0 > (0 : Int))))) rfl rfl .plain (fun _ _ hd => P_int rfl rfl rfl) ?_
         refine L_pur (c := .bool ((decide (j0 > (0 : Int))))) rfl rfl .plain (fun _ _ hd => P_move rfl) ?_
         refine L_skip rfl (.no2 rfl rfl o0 rfl) ?_
         refine L_skip rfl (.no2 rfl rfl o0 rfl) ?_
         refine L_skip rfl (.no2 rfl rfl o0 rfl) ?_
         refine L_skip rfl (.no2 rfl rfl o0 rfl) ?_
         refine L_skip rfl (.no2 rfl rfl o0 rfl) ?_
         refine L_skip rfl (.no2 rfl rfl o0 rfl) ?_
         refine L_skip rfl (.no2 rfl rfl o0 rfl) ?_
         refine L_skip rfl (.no2 rfl rfl o0 rfl) ?_
         refine L_skip rfl (.no2 rfl rfl o0 rfl) ?_
         refine L_pur (c := .bool false) rfl rfl .plain (fun _ _ hd => P_pick (b := (decide (j0 > (0 : Int)))) rfl (pick_f o0 rfl)) ?_
         refine L_nil fun uC oF hall => ?_
         have hs := hall.1
         have hfr := hfr.ext hs
         have m4 := m4.ext hs
         have d4 := d4.ext hs
         have n4 := n4.ext hs
         have i4 := i4.ext hs
         clear hs hall
         refine EL_nil ?_
         obtain rfl := sinj h
         exact hQ _ _ ⟨uC, hfr, a7, m4, x5, d4, b7, n4, x4, y5, i4, rfl⟩
       ·clear hx
        obtain ⟨vC, hfr, j9, k9, l9, m9, n9, o9, c7, p9, q9, p6⟩ := hR
        rcases csome h with ⟨q6, h⟩ | ⟨q6, h⟩
        ·refine E_cond_true (Eq.trans (show ev _ _ = .bool (p4) from p6) (congrArg Value.bool q6)) ?_
         refine E_seq (E_region (EL_mv c7 rfl ?_))
         refine EL_at (.int .i64 (j0)) rfl rfl ?_
         refine EL_at (.int .i64 (4)) rfl rfl ?_
         refine EL_nil (thn_n (E_ret (thn_r ?_)))
         refine blk_r ?_
         refine thn_r ?_
         refine thn_r ?_
         refine blk_r ?_
         refine thn_r ?_
         obtain rfl := sinj h
         exact end2 rfl rfl (show _ = .int .i64 (j0) from rfl) (show _ = .int .i64 (4) from rfl) ⟨_, hfr, _, _, rfl, rfl, rfl⟩
        ·refine E_cond_false (Eq.trans (show ev _ _ = .bool (p4) from p6) (congrArg Value.bool q6)) ?_
         exact E_skip (thn_n (pB () _ _ ⟨vC, hfr, j9, k9, l9, m9, n9, o9, c7, p9, q9⟩ h))
      ·rintro _ nE pF ⟨q7, hfr, z5, p3, d7, j4, b6, u3, c6, i5, z2⟩ h
       refine E_seq (E_region (EL_mv z5 rfl ?_))
       refine EL_pur (v := fPtr c4 0) (P_fieldAddr at_76_0 i5 (OB.ptr z2)) .plain rfl ?_
       refine EL_do .plain rfl (D_loadF (g := q7) part_LoomRun_0.1 Try.isAgg3 Try.sizeOf3 rfl z2 fun qF xC => ?_)
       obtain rfl := RV_int.1 xC
       obtain ⟨o3, c8, h⟩ := bsome h
       refine EL_pur (v := ePtr up1 (j1).Order 5) (P_indexAddr (α := LoomOrder) Try.underlying25 Try.sizeOf82 rfl p3 rfl c8) .plain rfl ?_
       have yC := PT_idx p3 c8
       refine EL_do .plain rfl (D_load (g := q7) Try.isAgg82 Try.sizeOf82 rfl yC fun zC t7 => ?_)
       refine EL_do .plain rfl (D_allocOc (g := q7) 2010 (⟨0, 0, 0, 0, 0⟩ : LoomOrder) Try.zeroValue82 (fun m w => ⟨_, (rep_two rep_int (rep_two rep_int (rep_two rep_int (rep_two rep_int rep_int)))), rfl⟩) fun aD rF k6 hs b1257 cb => ?_)
       have hfr := hfr.stp hs
       have p3 := p3.stp hs
       have j4 := j4.stp hs
       have u3 := u3.stp hs
       have z2 := z2.stp hs rfl
       have t7 := t7.stp hs
       clear cb
       refine EL_do .plain rfl (D_storeOc (g := aD) (v := zC) Try.sizeOf82 rfl b1257 rfl t7 fun bD sF hs b1258 cb => ?_)
       clear cb
       have hfr := hfr.stp hs
       have p3 := p3.stp hs
       have j4 := j4.stp hs
       have u3 := u3.stp hs
       have z2 := z2.stp hs rfl
       refine EL_nil (thn_n (E_seq (L_loadO (x := .tmp 70) part_LoomOrder_0.1 Try.isAgg3 Try.sizeOf3 b1258 fun tF cD sB => ?_)))
       obtain rfl := RV_int.1 cD
       have dD := PT_field (part_LoomMill_0).1 u3
       refine L_load (x := .tmp 72) Try.isAgg22 Try.sizeOf22 dD fun t8 v8 tB => ?_
       refine L_loadO (x := .tmp 74) part_LoomRun_1.1 Try.isAgg3 Try.sizeOf3 z2 fun uF eD uB => ?_
       obtain rfl := RV_int.1 eD
       obtain ⟨d6, d8, h⟩ := bsome h
       have gD := PT_idx v8 d8
       refine L_load (x := .tmp 76) Try.isAgg3 Try.sizeOf3 gD fun vF iD vB => ?_
       obtain rfl := RV_int.1 iD
       refine E_drawL (g := bD) (n := 9) [] [0, 1, 2, 3, 4, 5, 6, 7, 8] rfl mixed (by kernel_rfl) trivial ?_
       refine L_pur (c := fPtr k6 0) rfl rfl .plain (fun _ _ hd => P_fieldAddr at_82_0 rfl (OB.ptr b1258)) ?_
       refine L_ld (c := .int .i64 ((o3).Width)) rfl rfl .plain (fun _ _ h => ⟨h.ch, fun b hb _ => h.below.block b hb⟩) sB rfl ?_
       refine L_pur (c := fPtr p1 0) rfl rfl .plain (fun _ _ hd => P_fieldAddr at_24_0 b6 (PT.ptr u3)) ?_
       refine L_ld (c := t8) rfl rfl .plain (fun _ _ h => h.ch) tB rfl ?_
       refine L_pur (c := fPtr c4 1) rfl rfl .plain (fun _ _ hd => P_fieldAddr at_76_1 i5 (OB.ptr z2)) ?_
       refine L_ld (c := .int .i64 ((j1).Loom)) rfl rfl .plain (fun _ _ h => ⟨h.ch, fun b hb _ => h.below.block b hb⟩) uB rfl ?_
       refine L_pur (c := ePtr t8 (j1).Loom 1) rfl rfl .plain (fun _ _ hd => P_indexAddr (α := Int) Try.underlying22 Try.sizeOf3 rfl v8 rfl d8) ?_
       refine L_ld (c := .int .i64 (d6)) rfl rfl .plain (fun _ _ h => h.ch) vB rfl ?_
       refine L_pur (c := .bool ((decide ((o3).Width > d6)))) rfl rfl .plain (fun _ _ hd => P_int rfl rfl rfl) ?_
       refine L_nil fun c5 xF hall => ?_
       have hs := hall.1
       have hfr := hfr.ext hs
       have p3 := p3.ext hs
       have j4 := j4.ext hs
       have u3 := u3.ext hs
       have z2 := z2.ext hs
       have b1258 := b1258.ext hs
       clear hs hall
       refine EL_nil (thn_n ?_)
       rcases csome h with ⟨r6, h⟩ | ⟨r6, h⟩
       ·refine E_ct r6 rfl ?_
        refine E_seq (E_region (EL_mv c6 rfl ?_))
        refine EL_at (.int .i64 (j0)) rfl rfl ?_
        refine EL_at (.int .i64 (2)) rfl rfl ?_
        refine EL_nil (thn_n (E_ret (blk_r ?_)))
        refine thn_r ?_
        refine thn_r ?_
        refine blk_r ?_
        refine thn_r ?_
        obtain rfl := sinj h
        exact end2 rfl rfl (show _ = .int .i64 (j0) from rfl) (show _ = .int .i64 (2) from rfl) ⟨_, hfr, _, _, rfl, rfl, rfl⟩
       ·refine E_cf r6 rfl ?_
        obtain ⟨o4, hx, h⟩ := bsome h
        refine E_join (fun e w => ∃ (g : Gh) , Fr gI wI g w ∧ e 1 = up1 ∧ RV g.m w (x1 : List LoomOrder) up1 ∧ e 2 = up2 ∧ RV g.m w (x2 : List LoomRun) up2 ∧ e 3 = p1 ∧ PT g.m w (x0 : LoomMill) p1 ∧ e 8 = .int .i64 (j0) ∧ e 94 = .bool (o4)) (fun Q' hQ => ?_) (fun oE yF hR => ?_)
        ·replace h := hx
         clear hx
         refine E_region (EL_pur (v := fPtr c4 2) (P_fieldAddr at_76_2 i5 (OB.ptr z2)) .plain rfl ?_)
         refine EL_do .plain rfl (D_loadF (g := c5) part_LoomRun_2.1 Try.isAgg3 Try.sizeOf3 rfl z2 fun zF jD => ?_)
         obtain rfl := RV_int.1 jD
         refine EL_pur (v := fPtr k6 3) (P_fieldAddr at_82_3 rfl (OB.ptr b1258)) .plain rfl ?_
         refine EL_do .plain rfl (D_loadF (g := c5) part_LoomOrder_3.1 Try.isAgg3 Try.sizeOf3 rfl b1258 fun aG kD => ?_)
         obtain rfl := RV_int.1 kD
         refine EL_in (.bool ((decide ((j1).From < (o3).Early)))) rfl rfl rfl rfl ?_
         refine EL_mw (.bool ((decide ((j1).From < (o3).Early)))) rfl rfl ?_
         rcases csome h with ⟨j2, h⟩ | ⟨j2, h⟩
         ·refine EL_skip (.no2 rfl rfl j2 rfl) rfl ?_
          refine EL_skip (.no2 rfl rfl j2 rfl) rfl ?_
          refine EL_skip (.no2 rfl rfl j2 rfl) rfl ?_
          refine EL_skip (.no2 rfl rfl j2 rfl) rfl ?_
          refine EL_skip (.no2 rfl rfl j2 rfl) rfl ?_
          refine EL_skip (.no2 rfl rfl j2 rfl) rfl ?_
          refine EL_skip (.no2 rfl rfl j2 rfl) rfl ?_
          refine EL_skip (.no2 rfl rfl j2 rfl) rfl ?_
          refine EL_pur (v := .bool true) (P_pick (b := (decide ((j1).From < (o3).Early))) rfl (pick_t j2 rfl)) .plain rfl ?_
          refine EL_nil ?_
          obtain rfl := sinj h
          exact hQ _ _ ⟨c5, hfr, z5, p3, d7, j4, b6, u3, c6, rfl⟩
         ·refine EL_pur (v := fPtr c4 2) (P_fieldAddr at_76_2 i5 (OB.ptr z2)) (.yes2 rfl rfl j2) rfl ?_
          refine EL_do (.yes2 rfl rfl j2) rfl (D_loadF (g := c5) part_LoomRun_2.1 Try.isAgg3 Try.sizeOf3 rfl z2 fun bG lD => ?_)
          obtain rfl := RV_int.1 lD
          refine EL_pur (v := fPtr k6 2) (P_fieldAddr at_82_2 rfl (OB.ptr b1258)) (.yes2 rfl rfl j2) rfl ?_
          refine EL_do (.yes2 rfl rfl j2) rfl (D_loadF (g := c5) part_LoomOrder_2.1 Try.isAgg3 Try.sizeOf3 rfl b1258 fun cG mD => ?_)
          obtain rfl := RV_int.1 mD
          refine EL_pur (v := .int .i64 ((w64 ((j1).From + (o3).Woven)))) (P_int rfl rfl rfl) (.yes2 rfl rfl j2) rfl ?_
          refine EL_pur (v := fPtr k6 4) (P_fieldAddr at_82_4 rfl (OB.ptr b1258)) (.yes2 rfl rfl j2) rfl ?_
          refine EL_do (.yes2 rfl rfl j2) rfl (D_loadF (g := c5) part_LoomOrder_4.1 Try.isAgg3 Try.sizeOf3 rfl b1258 fun dG nD => ?_)
          obtain rfl := RV_int.1 nD
          refine EL_pur (v := .bool ((decide ((w64 ((j1).From + (o3).Woven)) > (o3).Late)))) (P_int rfl rfl rfl) (.yes2 rfl rfl j2) rfl ?_
          refine EL_pur (v := .bool ((decide ((w64 ((j1).From + (o3).Woven)) > (o3).Late)))) (P_pick (b := (decide ((j1).From < (o3).Early))) rfl (pick_f j2 rfl)) .plain rfl ?_
          refine EL_nil ?_
          obtain rfl := sinj h
          exact hQ _ _ ⟨c5, hfr, z5, p3, d7, j4, b6, u3, c6, rfl⟩
        ·clear hx
         obtain ⟨oD, hfr, r9, t9, u9, v9, x9, y9, e7, t6⟩ := hR
         rcases csome h with ⟨u6, h⟩ | ⟨u6, h⟩
         ·refine E_cond_true (Eq.trans (show ev _ _ = .bool (o4) from t6) (congrArg Value.bool u6)) ?_
          refine E_seq (E_region (EL_mv e7 rfl ?_))
          refine EL_at (.int .i64 (j0)) rfl rfl ?_
          refine EL_at (.int .i64 (3)) rfl rfl ?_
          refine EL_nil (thn_n (E_ret (blk_r ?_)))
          refine thn_r ?_
          refine thn_r ?_
          refine blk_r ?_
          refine thn_r ?_
          obtain rfl := sinj h
          exact end2 rfl rfl (show _ = .int .i64 (j0) from rfl) (show _ = .int .i64 (3) from rfl) ⟨_, hfr, _, _, rfl, rfl, rfl⟩
         ·refine E_cond_false (Eq.trans (show ev _ _ = .bool (o4) from t6) (congrArg Value.bool u6)) ?_
          exact E_skip (blk_n (thn_n (iC () _ _ ⟨oD, hfr, r9, t9, u9, v9, x9, y9, e7⟩ h)))
    ·rintro _ pE eG ⟨pD, hfr, z9, bA, cA, dA, eA, gA, iA⟩ h
     refine E_region (EL_mv iA rfl ?_)
     refine EL_in (.int .i64 ((w64 (j0 + (1 : Int))))) rfl rfl rfl rfl ?_
     refine EL_at (.int .i64 ((w64 (j0 + (1 : Int))))) rfl rfl ?_
     exact EL_nil (thn_n (dC ((w64 (j0 + (1 : Int)))) _ _ ⟨pD, hfr, z9, bA, cA, dA, eA, gA, rfl⟩ h))
  ·rintro _ qE gG ⟨qD, hfr, jA, kA, lA, mA, nA, oA⟩ h
   refine E_joinC h (fun (s : Unit) e w => ∃ (g : Gh) , Fr gI wI g w) (fun X1332 i8 xB h => ?_) ?_
   ·refine E_seq (E_region (EL_at (.int .i64 (0)) rfl rfl ?_))
    refine EL_nil (thn_n (E_block ?_))
    refine E_lp h (fun (s : Int) e w => ∃ (g : Gh) , Fr gI wI g w ∧ e 1 = up1 ∧ RV g.m w (x1 : List LoomOrder) up1 ∧ e 2 = up2 ∧ RV g.m w (x2 : List LoomRun) up2 ∧ e 3 = p1 ∧ PT g.m w (x0 : LoomMill) p1 ∧ e 11 = .int .i64 (s)) ⟨qD, hfr, jA, kA, lA, mA, nA, oA, rfl⟩ (fun X1333 j8 yB => ?_)
    rintro u0 rE hG ⟨x8, hfr, pA, qA, g7, i7, rA, sA, v6⟩ h
    refine E_joinC h (fun (s : Unit) e w => ∃ (g : Gh) , Fr gI wI g w ∧ e 1 = up1 ∧ RV g.m w (x1 : List LoomOrder) up1 ∧ e 2 = up2 ∧ RV g.m w (x2 : List LoomRun) up2 ∧ e 3 = p1 ∧ PT g.m w (x0 : LoomMill) p1 ∧ e 11 = .int .i64 (u0)) (fun X1336 m8 zB h => ?_) ?_
    ·refine E_seq (E_region (EL_mv v6 rfl ?_))
     refine EL_mv g7 rfl ?_
     refine EL_pur (v := .int .i64 ((x2).length : Int)) (P_len Try.underlying31 rfl i7) .plain rfl ?_
     refine EL_in (.bool ((decide (u0 < ((x2).length : Int))))) rfl rfl rfl rfl ?_
     refine EL_nil (thn_n ?_)
     rcases csome h with ⟨x6, h⟩ | ⟨x6, h⟩
     ·refine E_ct x6 rfl ?_
      exact E_skip (thn_n (zB () _ _ ⟨x8, hfr, pA, qA, g7, i7, rA, sA, v6⟩ h))
     ·refine E_cf x6 rfl ?_
      refine E_exit ?_
      refine thn_e ?_
      refine thn_e ?_
      refine blk_hit ?_
      exact thn_n (xB () _ _ ⟨x8, hfr⟩ h)
    ·rintro _ sE iG ⟨y8, hfr, j7, j5, m7, l5, n7, m5, n5⟩ h
     refine E_joinC h (fun (s : Unit) e w => ∃ (g : Gh) , Fr gI wI g w ∧ e 1 = up1 ∧ RV g.m w (x1 : List LoomOrder) up1 ∧ e 2 = up2 ∧ RV g.m w (x2 : List LoomRun) up2 ∧ e 3 = p1 ∧ PT g.m w (x0 : LoomMill) p1 ∧ e 11 = .int .i64 (u0)) (fun X1343 k8 aC h => ?_) ?_
     ·refine E_block ?_
      refine E_seq (E_region (EL_do .plain rfl (D_load (g := y8) Try.isAgg24 Try.sizeOf24 n7 m5 fun rD sD => ?_)))
      refine EL_mv j7 rfl ?_
      refine EL_mv m7 rfl ?_
      refine EL_mv n5 rfl ?_
      obtain ⟨l8, bC, h⟩ := bsome h
      refine EL_do .plain rfl (D_call (g := y8) (vs := [rD, up1, up2, .int .i64 (u0)]) en74 (.cons rfl (.cons rfl (.cons rfl (.cons rfl .nil)))) (wk74 sD j5 l5 bC) fun tD tE jG hs hr => ?_)
      have hfr := hfr.ext hs
      have j5 := j5.ext hs
      have l5 := l5.ext hs
      have m5 := m5.ext hs
      subst hr
      refine EL_nil (thn_n ?_)
      rcases csome h with ⟨y6, h⟩ | ⟨y6, h⟩
      ·refine E_ct y6 rfl ?_
       refine E_seq (E_region (EL_mv n5 rfl ?_))
       refine EL_at (.int .i64 (u0)) rfl rfl ?_
       refine EL_at (.int .i64 (6)) rfl rfl ?_
       refine EL_nil (thn_n (E_ret (blk_r ?_)))
       refine thn_r ?_
       refine thn_r ?_
       refine blk_r ?_
       refine thn_r ?_
       obtain rfl := sinj h
       exact end2 rfl rfl (show _ = .int .i64 (u0) from rfl) (show _ = .int .i64 (6) from rfl) ⟨_, hfr, _, _, rfl, rfl, rfl⟩
      ·refine E_cf y6 rfl ?_
       exact E_skip (blk_n (thn_n (aC () _ _ ⟨tD, hfr, j7, j5, m7, l5, n7, m5, n5⟩ h)))
     ·rintro _ uE kG ⟨uD, hfr, tA, uA, vA, xA, yA, zA, g8⟩ h
      refine E_region (EL_mv g8 rfl ?_)
      refine EL_in (.int .i64 ((w64 (u0 + (1 : Int))))) rfl rfl rfl rfl ?_
      refine EL_at (.int .i64 ((w64 (u0 + (1 : Int))))) rfl rfl ?_
      exact EL_nil (thn_n (yB ((w64 (u0 + (1 : Int)))) _ _ ⟨uD, hfr, tA, uA, vA, xA, yA, zA, rfl⟩ h))
   ·rintro _ vE lG ⟨mG, hfr⟩ h
    refine E_seq (E_region (EL_at (.int .i64 (0)) rfl rfl ?_))
    refine EL_at (.int .i64 (0)) rfl rfl ?_
    refine EL_nil (thn_n (E_ret ?_))
    obtain rfl := sinj h
    exact end2 rfl rfl (show _ = .int .i64 (0) from rfl) (show _ = .int .i64 (0) from rfl) ⟨_, hfr, _, _, rfl, rfl, rfl⟩
/-- griffe/loom.within -/
def f81 (x0 : Int) (x1 : Int) (x2 : List Int) : Option (Bool) :=
 (f95 x2 ((fun a0 => f96 a0 x0 x1))).bind fun y4 =>
 some ((!y4))
theorem en81 : Enters Try.prog 81 := enters_of Try.func81 (by kernel_rfl) rfl
theorem wk81 {gI : Gh} {wI : World} {x0 : Int} {x1 : Int} {x2 : List Int} {up2 : Value} (rp2 : RV gI.m wI x2 up2) {r : Bool} (h : f81 x0 x1 x2 = some r) : Fn Try.prog 81 #[.int .i64 (x0), .int .i64 (x1), up2] gI wI (fun _ _ v => v = .bool (r)) := by
 unfold f81 at h
 refine fn_of_E Try.func81 rfl (Nat.le_of_ble_eq_true rfl) fun g0 hm hfr => ?_
 have rp2 : RV g0.m wI x2 up2 := hm ▸ rp2
 show E _ 11 none _ _ _ _ _
 refine E_seq (E_region (EL_do .plain rfl (D_box (g := g0) rfl (RV_int.2 rfl) fun g1 w1 p1 hs q1 => ?_)))
 have hfr := hfr.ext hs
 have rp2 := rp2.ext hs
 refine EL_do .plain rfl (D_box (g := g1) rfl (RV_int.2 rfl) fun g2 w2 p2 hs q2 => ?_)
 have hfr := hfr.ext hs
 have rp2 := rp2.ext hs
 have q1 := q1.ext hs
 refine EL_at (.bool false) rfl rfl ?_
 refine EL_nil (thn_n (E_seq (E_region (EL_mw up2 rfl rfl ?_))))
 refine EL_pur (v := (.func (.func 96) #[] #[p1, p2])) (P_makeFunc (capf_0_2 (show ev _ _ = p1 from rfl) (show ev _ _ = p2 from rfl))) .plain rfl ?_
 obtain ⟨y4, j0, h⟩ := bsome h
 refine EL_do .plain rfl (D_call (g := g2) (vs := [up2, (.func (.func 96) #[] #[p1, p2])]) en95 (.cons rfl (.cons rfl .nil)) (wk95 rp2 ⟨96, #[], #[p1, p2], rfl, en96, fun g' w' hch a0 b0 r hu0 hr => by obtain rfl := RV_int.1 hu0; exact Fn.mono (wk96  (q1.ch hch) (q2.ch hch) hr) fun _ _ _ h => RV_bool.2 h⟩ j0) fun g3 w3_ v3 hs hr => ?_)
 have hfr := hfr.ext hs
 subst hr
 refine EL_pur (v := .bool (!y4)) (P_not rfl) .plain rfl ?_
 refine EL_at (.bool (!y4)) rfl rfl ?_
 refine EL_nil (thn_n (E_ret ?_))
 obtain rfl := sinj h
 exact end1 rfl rfl (show _ = .bool (!y4) from rfl) ⟨_, hfr, rfl⟩
/-- (griffe/loom.mill).can -/
def f83 (x0 : LoomLoomMill) (x1 : Int) (x2 : List (Int × LoomRun)) : Option ((List Bool)) :=
 (shl64 (1 : Int) (((x0).orders).length : Int)).bind fun y6 =>
 (mks 1 (false : Bool) y6).bind fun y7 =>
 (idx y7 (0 : Int)).bind fun y9 =>
 Option.bind (α := (List Bool)) (
  lp (σ := (List Bool) × (Vector (Vector Int 7) 128) × Int) (fun d7 (i4, i5, o0) =>
   jn (σ := Unit) (fun (_ : Unit) =>
    Option.bind (α := (List Bool) × (Vector (Vector Int 7) 128)) (
     lp (σ := (List Bool) × (Vector (Vector Int 7) 128) × Int) (fun e7 (d3, z1, j0) =>
      bif (decide (j0 < (((x0).orders).length : Int))) then
       Option.bind (α := (List Bool) × (Vector (Vector Int 7) 128)) (
        (idx (z1).toList o0).bind fun g7 =>
        (idx (g7).toList j0).bind fun nA =>
        jn (σ := Unit) (fun (_ : Unit) =>
         (f98 x0 ((vmod z1 o0 (fun b => (vset b j0 ((1048576 : Int)))))) o0 j0 x1 x2).bind fun i3 =>
         bif (decide (i3 < (1048576 : Int))) then
          (idx ((x0).orders) j0).bind fun c6 =>
          (idx ((vmod z1 o0 (fun b => (vset b j0 ((1048576 : Int)))))).toList o0).bind fun i7 =>
          (idx (i7).toList j0).bind fun oA =>
          (idx d3 o0).bind fun pA =>
          some ((List.set d3 (Int.toNat o0) true), (vmod ((vmod z1 o0 (fun b => (vset b j0 ((1048576 : Int)))))) o0 (fun b => (vset b j0 ((w64 (i3 + (c6).Woven)))))))
         else
          some (d3, (vmod z1 o0 (fun b => (vset b j0 ((1048576 : Int))))))
         ) fun j7 =>
        (shr64 o0 j0).bind fun j5 =>
        bif ((bit64 .and j5 (1 : Int)) == (0 : Int)) then
         some (d3, (vmod z1 o0 (fun b => (vset b j0 ((1048576 : Int))))))
        else
         j7 ()
        ) fun (j4, m4) =>
       e7 (j4, m4, (w64 (j0 + (1 : Int))))
      else
       some (d3, z1)
      ) big (i4, i5, (0 : Int))
     ) fun (n4, o4) =>
    d7 (n4, o4, (w64 (o0 + (1 : Int))))
    ) fun m7 =>
   bif (decide (o0 < y6)) then
    m7 ()
   else
    some (i4)
   ) big ((List.set y7 (Int.toNat (0 : Int)) true), ((Vector.replicate 128 (⟨List.toArray [0, 0, 0, 0, 0, 0, 0], rfl⟩ : Vector Int 7)) : Vector (Vector Int 7) 128), (1 : Int))
  ) fun l5 =>
 some (l5)
theorem en83 : Enters Try.prog 83 := enters_of Try.func83 (by kernel_rfl) rfl
theorem wk83 {gI : Gh} {wI : World} {x0 : LoomLoomMill} {x1 : Int} {x2 : List (Int × LoomRun)} {up0 : Value} (rp0 : RV gI.m wI x0 up0) {up2 : Value} (mq2 : MR (Value.int .i64) gI wI x2 up2) {r : (List Bool)} (h : f83 x0 x1 x2 = some r) : Fn Try.prog 83 #[up0, .int .i64 (x1), up2] gI wI (fun m w v => RV m w (r) v) := by
 unfold f83 at h
 refine fn_of_E Try.func83 rfl (Nat.le_of_ble_eq_true rfl) fun g0 hm hfr => ?_
 have rp0 : RV g0.m wI x0 up0 := hm ▸ rp0
 have mq2 := MQ.enter mq2 hm hfr
 show E _ 65 none _ _ _ _ _
 refine E_seq (E_region (EL_do .plain rfl (D_box (g := g0) rfl rp0 fun g1 w1 p1 hs q1 => ?_)))
 have hfr := hfr.ext hs
 have mq2 := mq2.ext hs
 refine EL_at (.slice none 0 0) rfl rfl ?_
 have b2 : OA 4006 g1 w1 4 ([] : List Bool) (.slice none 0 0) := OA.nil
 refine EL_nil (thn_n (E_seq (E_region (EL_do .plain rfl (D_allocOc (g := g1) 2007 ((Vector.replicate 128 (⟨List.toArray [0, 0, 0, 0, 0, 0, 0], rfl⟩ : Vector Int 7)) : Vector (Vector Int 7) 128) Try.zeroValue150 (fun m w => ⟨_, (rep_replicate (rep_vec (flat_chunk rep_int (flat_chunk rep_int (flat_chunk rep_int (flat_chunk rep_int (flat_chunk rep_int (flat_chunk rep_int (flat_chunk rep_int flat_nil))))))) rfl)), by kernel_rfl⟩) fun g3 w3 p3 hs b3 cb => ?_)))))
 have hfr := hfr.stp hs
 have mq2 := mq2.stp hs
 have q1 := q1.stp hs
 clear cb
 refine EL_nil (thn_n (E_seq (E_region (EL_pur (v := fPtr p1 2) (P_fieldAddr at_96_1 rfl (PT.ptr q1)) .plain rfl ?_))))
 have q4 := PT_field (part_LoomLoomMill_1).1 q1
 refine EL_do .plain rfl (D_load (g := g3) Try.isAgg25 Try.sizeOf25 rfl q4 fun v5 r5 => ?_)
 refine EL_pur (v := .int .i64 (((x0).orders).length : Int)) (P_len Try.underlying25 rfl r5) .plain rfl ?_
 obtain ⟨y6, dB, h⟩ := bsome h
 refine EL_pur (v := .int .i64 (y6)) (P_int rfl rfl (congrArg (Option.map (Value.int .i64)) dB)) .plain rfl ?_
 refine EL_at (.int .i64 (y6)) rfl rfl ?_
 refine EL_nil (thn_n (E_seq (E_region (EL_mw (.int .i64 (y6)) rfl rfl ?_))))
 obtain ⟨y7, eB, h⟩ := bsome h
 refine EL_do .plain rfl (D_makeSliceM (g := g3) 9017 (false : Bool) rfl Try.underlying101 info_4 rfl (fun _ _ => rfl) rfl rfl eB fun g8 w8 v8 hs b8 => ?_)
 have hfr := hfr.stp hs
 have mq2 := mq2.stp hs
 have q1 := q1.stp hs
 have b3 := b3.stp hs rfl
 refine EL_at v8 rfl rfl ?_
 refine EL_nil (thn_n (E_seq (E_region (EL_mw v8 rfl rfl ?_))))
 obtain ⟨y9, mA, h⟩ := bsome h
 refine EL_pur (v := ePtr v8 (0 : Int) 1) (P_indexAddrM (α := Bool) Try.underlying101 Try.sizeOf4 rfl b8 rfl mA) .plain rfl ?_
 refine EL_do .plain rfl (D_storeM (g := g8) (α := Bool) (a' := true) Try.sizeOf4 rfl b8 mA rfl (RV_bool.2 rfl) fun iB kC hs b10 => ?_)
 have hfr := hfr.stp hs
 have mq2 := mq2.stp hs
 have q1 := q1.stp hs
 have b3 := b3.stp hs rfl
 refine EL_nil (thn_n ?_)
 obtain ⟨l5, hx, h⟩ := bsome h
 refine E_join (fun e w => ∃ (g : Gh) , Fr gI wI g w ∧ e 6 = v8 ∧ OM 9017 g w 4 (l5 : List Bool) v8) (fun Q' hQ => ?_) (fun jB rB hR => ?_)
 ·replace h := hx
  clear hx
  refine E_seq (E_region (EL_at (.int .i64 (1)) rfl rfl ?_))
  refine EL_nil (thn_n (E_block ?_))
  refine E_lp h (fun (s : (List Bool) × (Vector (Vector Int 7) 128) × Int) e w => ∃ (g : Gh) , Fr gI wI g w ∧ e 1 = .int .i64 (x1) ∧ e 2 = up2 ∧ MQ (Value.int .i64) wI.heap.size g w (x2 : List (Int × LoomRun)) up2 ∧ e 3 = p1 ∧ PT g.m w (x0 : LoomLoomMill) p1 ∧ e 6 = v8 ∧ OM 9017 g w 4 (s.1 : List Bool) v8 ∧ e 7 = p3 ∧ OB 2007 g w 150 (s.2.1 : Vector (Vector Int 7) 128) p3 ∧ e 8 = .int .i64 (y6) ∧ e 9 = .int .i64 (s.2.2)) ⟨iB, hfr, rfl, rfl, mq2, rfl, q1, rfl, b10, rfl, b3, rfl, rfl⟩ (fun X270 d7 cA => ?_)
  rintro ⟨i4, i5, o0⟩ kB sB ⟨n7, hfr, o7, p7, q7, t7, u7, l6, m6, v7, x7, n6, o6⟩ h
  refine E_joinC h (fun (s : Unit) e w => ∃ (g : Gh) , Fr gI wI g w ∧ e 1 = .int .i64 (x1) ∧ e 2 = up2 ∧ MQ (Value.int .i64) wI.heap.size g w (x2 : List (Int × LoomRun)) up2 ∧ e 3 = p1 ∧ PT g.m w (x0 : LoomLoomMill) p1 ∧ e 6 = v8 ∧ OM 9017 g w 4 (i4 : List Bool) v8 ∧ e 7 = p3 ∧ OB 2007 g w 150 (i5 : Vector (Vector Int 7) 128) p3 ∧ e 8 = .int .i64 (y6) ∧ e 9 = .int .i64 (o0)) (fun X273 m7 dA h => ?_) ?_
  ·refine E_seq (E_region (EL_mv o6 rfl ?_))
   refine EL_mv n6 rfl ?_
   refine EL_in (.bool ((decide (o0 < y6)))) rfl rfl rfl rfl ?_
   refine EL_nil (thn_n ?_)
   rcases csome h with ⟨d6, h⟩ | ⟨d6, h⟩
   ·refine E_ct d6 rfl ?_
    exact E_skip (thn_n (dA () _ _ ⟨n7, hfr, o7, p7, q7, t7, u7, l6, m6, v7, x7, n6, o6⟩ h))
   ·refine E_cf d6 rfl ?_
    refine E_exit ?_
    refine thn_e ?_
    refine thn_e ?_
    refine blk_hit ?_
    obtain rfl := sinj h
    exact hQ _ _ ⟨n7, hfr, l6, m6⟩
  ·rintro _ lB tB ⟨a8, hfr, c8, d8, e8, p6, m5, i8, j8, k8, l8, m8, n8⟩ h
   obtain ⟨⟨n4, o4⟩, hx, h⟩ := bsome h
   refine E_join (fun e w => ∃ (g : Gh) , Fr gI wI g w ∧ e 1 = .int .i64 (x1) ∧ e 2 = up2 ∧ MQ (Value.int .i64) wI.heap.size g w (x2 : List (Int × LoomRun)) up2 ∧ e 3 = p1 ∧ PT g.m w (x0 : LoomLoomMill) p1 ∧ e 6 = v8 ∧ OM 9017 g w 4 (n4 : List Bool) v8 ∧ e 7 = p3 ∧ OB 2007 g w 150 (o4 : Vector (Vector Int 7) 128) p3 ∧ e 8 = .int .i64 (y6) ∧ e 9 = .int .i64 (o0)) (fun Q' hQ => ?_) (fun mB uB hR => ?_)
   ·replace h := hx
    clear hx
    refine E_block ?_
    refine E_seq (E_region (EL_pur (v := fPtr p1 2) (P_fieldAddr at_96_1 p6 (PT.ptr m5)) .plain rfl ?_))
    have qA := PT_field (part_LoomLoomMill_1).1 m5
    refine EL_do .plain rfl (D_load (g := a8) Try.isAgg25 Try.sizeOf25 rfl qA fun vB rA => ?_)
    refine EL_pur (v := .int .i64 (((x0).orders).length : Int)) (P_len Try.underlying25 rfl rA) .plain rfl ?_
    refine EL_mw (.int .i64 (0)) rfl rfl ?_
    refine EL_nil (thn_n (E_block ?_))
    refine E_lp h (fun (s : (List Bool) × (Vector (Vector Int 7) 128) × Int) e w => ∃ (g : Gh) , Fr gI wI g w ∧ e 1 = .int .i64 (x1) ∧ e 2 = up2 ∧ MQ (Value.int .i64) wI.heap.size g w (x2 : List (Int × LoomRun)) up2 ∧ e 3 = p1 ∧ PT g.m w (x0 : LoomLoomMill) p1 ∧ e 6 = v8 ∧ OM 9017 g w 4 (s.1 : List Bool) v8 ∧ e 7 = p3 ∧ OB 2007 g w 150 (s.2.1 : Vector (Vector Int 7) 128) p3 ∧ e 8 = .int .i64 (y6) ∧ e 9 = .int .i64 (o0) ∧ e 27 = .int .i64 ((((x0).orders).length : Int)) ∧ e 28 = .int .i64 (s.2.2)) ⟨a8, hfr, c8, d8, e8, p6, m5, i8, j8, k8, l8, m8, n8, rfl, rfl⟩ (fun X404 e7 eA => ?_)
    rintro ⟨d3, z1, j0⟩ nB xB ⟨o8, hfr, n5, o5, j3, p5, o3, q5, u3, p4, u4, t5, z3, c5, d4⟩ h
    refine E_seq (E_region (EL_pur (v := .bool ((decide (j0 < (((x0).orders).length : Int))))) (P_int d4 c5 rfl) .plain rfl ?_))
    refine EL_nil (thn_n (E_seq ?_))
    rcases csome h with ⟨i6, h⟩ | ⟨i6, h⟩
    ·refine E_ct i6 rfl ?_
     refine E_skip (thn_n ?_)
     obtain ⟨⟨j4, m4⟩, hx, h⟩ := bsome h
     refine E_join (fun e w => ∃ (g : Gh) , Fr gI wI g w ∧ e 1 = .int .i64 (x1) ∧ e 2 = up2 ∧ MQ (Value.int .i64) wI.heap.size g w (x2 : List (Int × LoomRun)) up2 ∧ e 3 = p1 ∧ PT g.m w (x0 : LoomLoomMill) p1 ∧ e 6 = v8 ∧ OM 9017 g w 4 (j4 : List Bool) v8 ∧ e 7 = p3 ∧ OB 2007 g w 150 (m4 : Vector (Vector Int 7) 128) p3 ∧ e 8 = .int .i64 (y6) ∧ e 9 = .int .i64 (o0) ∧ e 27 = .int .i64 ((((x0).orders).length : Int)) ∧ e 28 = .int .i64 (j0)) (fun Q' hQ => ?_) (fun oB yB hR => ?_)
     ·replace h := hx
      clear hx
      refine E_block ?_
      refine E_seq (E_region (EL_mv d4 rfl ?_))
      refine EL_at (.int .i64 (j0)) rfl rfl ?_
      refine EL_nil (thn_n (E_seq (E_region (EL_mv z3 rfl ?_))))
      refine EL_mw (.int .i64 (j0)) rfl rfl ?_
      obtain ⟨g7, t6, h⟩ := bsome h
      obtain ⟨hi468, he468⟩ := vat_idx t6
      refine EL_pur (v := fPtr p3 ((o0 : Int).toNat * 7)) (P_indexAddrA (α := Vector Int 7) Try.underlying150 Try.sizeOf148 p4 (OB.ptr u4) rfl t6) .plain rfl ?_
      obtain ⟨nA, u6, h⟩ := bsome h
      obtain ⟨hi470, he470⟩ := vat_idx u6
      refine EL_pur (v := fPtr p3 (((o0 : Int).toNat * 7) + (j0 : Int).toNat * 1)) (P_indexAddrA2 (α := Int) (o1 := ((o0 : Int).toNat * 7)) rfl Try.underlying148 Try.sizeOf3 rfl (OB.ptr u4) rfl u6) .plain rfl ?_
      refine EL_do .plain rfl (D_storeFc (g := o8) (SubS.dynC hi468 (SubS.dyn hi470) rfl) Try.sizeOf3 rfl u4 rfl (RV_int.2 rfl) fun p8 zB hs b471 rst hos => ?_)
      clear rst hos
      have hfr := hfr.stp hs
      have j3 := j3.stp hs
      have o3 := o3.stp hs
      have u3 := u3.stp hs rfl
      refine EL_nil (thn_n (E_joinC h (fun (s : Unit) e w => ∃ (g : Gh) , Fr gI wI g w ∧ e 1 = .int .i64 (x1) ∧ e 2 = up2 ∧ MQ (Value.int .i64) wI.heap.size g w (x2 : List (Int × LoomRun)) up2 ∧ e 3 = p1 ∧ PT g.m w (x0 : LoomLoomMill) p1 ∧ e 6 = v8 ∧ OM 9017 g w 4 (d3 : List Bool) v8 ∧ e 7 = p3 ∧ OB 2007 g w 150 ((vmod z1 o0 (fun b => (vset b j0 ((1048576 : Int))))) : Vector (Vector Int 7) 128) p3 ∧ e 8 = .int .i64 (y6) ∧ e 9 = .int .i64 (o0) ∧ e 10 = .int .i64 (j0) ∧ e 27 = .int .i64 ((((x0).orders).length : Int)) ∧ e 28 = .int .i64 (j0)) (fun X474 j7 gA h => ?_) ?_))
      ·refine E_seq (E_region (EL_mv z3 rfl ?_))
       refine EL_mw (.int .i64 (j0)) rfl rfl ?_
       obtain ⟨j5, iA, h⟩ := bsome h
       refine EL_pur (v := .int .i64 (j5)) (P_int rfl rfl (congrArg (Option.map (Value.int .i64)) iA)) .plain rfl ?_
       refine EL_in (.int .i64 ((bit64 .and j5 (1 : Int)))) rfl rfl rfl rfl ?_
       refine EL_in (.bool (((bit64 .and j5 (1 : Int)) == (0 : Int)))) rfl rfl rfl rfl ?_
       refine EL_nil (thn_n ?_)
       rcases csome h with ⟨j6, h⟩ | ⟨j6, h⟩
       ·refine E_ct j6 rfl ?_
        refine E_exit ?_
        refine thn_e ?_
        refine blk_hit ?_
        obtain ⟨rfl, rfl⟩ := pairs2 h
        exact hQ _ _ ⟨p8, hfr, n5, o5, j3, p5, o3, q5, u3, p4, b471, t5, z3, c5, d4⟩
       ·refine E_cf j6 rfl ?_
        exact E_skip (thn_n (gA () _ _ ⟨p8, hfr, n5, o5, j3, p5, o3, q5, u3, p4, b471, t5, z3, rfl, c5, d4⟩ h))
      ·rintro _ pB aC ⟨q8, hfr, u5, x5, j1, x4, u0, y5, j2, z4, z2, q6, c4, d5, z5, b6⟩ h
       refine E_seq (E_region (EL_do .plain rfl (D_load (g := q8) Try.isAgg96 Try.sizeOf96 x4 u0 fun sA tA => ?_)))
       refine EL_mv c4 rfl ?_
       refine EL_mv d5 rfl ?_
       refine EL_mv u5 rfl ?_
       refine EL_mv x5 rfl ?_
       obtain ⟨i3, jA, h⟩ := bsome h
       refine EL_do .plain rfl (D_callF (g := q8) (vs := [sA, p3, .int .i64 (o0), .int .i64 (j0), .int .i64 (x1), up2]) en98 (.cons rfl (.cons z4 (.cons rfl (.cons rfl (.cons rfl (.cons rfl .nil)))))) (wk98 (RV.lent tA) (OB.lent z2) (MR.lent j1.r) jA) fun r8 qB bC hs hr => ?_)
       have hfr := hfr.ext hs
       have j1 := j1.ext hs
       have u0 := u0.ext hs
       have j2 := j2.ext hs
       have z2 := z2.ext hs
       subst hr
       refine EL_at (.int .i64 (i3)) rfl rfl ?_
       refine EL_nil (thn_n (E_seq (E_region (EL_mw (.int .i64 (i3)) rfl rfl ?_))))
       refine EL_in (.bool ((decide (i3 < (1048576 : Int))))) rfl rfl rfl rfl ?_
       refine EL_nil (thn_n ?_)
       rcases csome h with ⟨k6, h⟩ | ⟨k6, h⟩
       ·refine E_ct k6 rfl ?_
        refine E_seq ?_
        have uA := PT_field (part_LoomLoomMill_1).1 u0
        refine L_load (x := .tmp 51) Try.isAgg25 Try.sizeOf25 uA fun r6 t8 kA => ?_
        obtain ⟨c6, v6, h⟩ := bsome h
        have x8 := PT_idx t8 v6
        have vA := PT_field (part_LoomOrder_2).1 x8
        refine L_load (x := .tmp 55) Try.isAgg3 Try.sizeOf3 vA fun cC xA lA => ?_
        obtain rfl := RV_int.1 xA
        obtain ⟨i7, x6, h⟩ := bsome h
        obtain ⟨hi489, he489⟩ := vat_idx x6
        obtain ⟨oA, z6, h⟩ := bsome h
        obtain ⟨hi491, he491⟩ := vat_idx z6
        refine E_drawL (g := r8) (n := 12) [] [0, 1, 2, 3, 4, 5, 6, 7, 8, 9, 10, 11] rfl mixed (by kernel_rfl) trivial ?_
        refine L_pur (c := .int .i64 (o0)) rfl rfl .plain (fun _ _ hd => P_move c4) ?_
        refine L_pur (c := .int .i64 (j0)) rfl rfl .plain (fun _ _ hd => P_move d5) ?_
        refine L_pur (c := .int .i64 (i3)) rfl rfl .plain (fun _ _ hd => P_move rfl) ?_
        refine L_pur (c := fPtr p1 2) rfl rfl .plain (fun _ _ hd => P_fieldAddr at_96_1 x4 (PT.ptr u0)) ?_
        refine L_ld (c := r6) rfl rfl .plain (fun _ _ h => h.ch) kA rfl ?_
        refine L_pur (c := .int .i64 (j0)) rfl rfl .plain (fun _ _ hd => P_move d5) ?_
        refine L_pur (c := ePtr r6 j0 5) rfl rfl .plain (fun _ _ hd => P_indexAddr (α := LoomOrder) Try.underlying25 Try.sizeOf82 rfl t8 rfl v6) ?_
        refine L_pur (c := fPtr (ePtr r6 j0 5) 2) rfl rfl .plain (fun _ _ hd => P_fieldAddr at_82_2 rfl (PT.ptr x8)) ?_
        refine L_ld (c := .int .i64 ((c6).Woven)) rfl rfl .plain (fun _ _ h => h.ch) lA rfl ?_
        refine L_pur (c := .int .i64 ((w64 (i3 + (c6).Woven)))) rfl rfl .plain (fun _ _ hd => P_int rfl rfl rfl) ?_
        refine L_pur (c := fPtr p3 ((o0 : Int).toNat * 7)) rfl rfl .plain (fun _ _ hd => P_indexAddrA (α := Vector Int 7) Try.underlying150 Try.sizeOf148 z4 (OB.ptr z2) rfl x6) ?_
        refine L_pur (c := fPtr p3 (((o0 : Int).toNat * 7) + (j0 : Int).toNat * 1)) rfl rfl .plain (fun _ _ hd => P_indexAddrA2 (α := Int) (o1 := ((o0 : Int).toNat * 7)) rfl Try.underlying148 Try.sizeOf3 rfl (OB.ptr z2) rfl z6) ?_
        refine L_nil fun yA dC hall => ?_
        have hs := hall.1
        have hfr := hfr.ext hs
        have j1 := j1.ext hs
        have u0 := u0.ext hs
        have j2 := j2.ext hs
        have z2 := z2.ext hs
        clear hs hall
        refine EL_do .plain rfl (D_storeFc (g := yA) (SubS.dynC hi489 (SubS.dyn hi491) rfl) Try.sizeOf3 rfl z2 rfl (RV_int.2 rfl) fun zA eC hs b524 rst hos => ?_)
        clear rst hos
        have hfr := hfr.stp hs
        have j1 := j1.stp hs
        have u0 := u0.stp hs
        have j2 := j2.stp hs rfl
        refine EL_nil (thn_n (E_region (EL_mv y5 rfl ?_)))
        refine EL_mv c4 rfl ?_
        obtain ⟨pA, a7, h⟩ := bsome h
        refine EL_pur (v := ePtr v8 o0 1) (P_indexAddrM (α := Bool) Try.underlying101 Try.sizeOf4 rfl j2 rfl a7) .plain rfl ?_
        refine EL_do .plain rfl (D_storeM (g := zA) (α := Bool) (a' := true) Try.sizeOf4 rfl j2 a7 rfl (RV_bool.2 rfl) fun aB iC hs b526 => ?_)
        have hfr := hfr.stp hs
        have j1 := j1.stp hs
        have u0 := u0.stp hs
        have b524 := b524.stp hs rfl
        refine EL_nil (blk_n ?_)
        obtain ⟨rfl, rfl⟩ := pairs2 h
        exact hQ _ _ ⟨aB, hfr, u5, x5, j1, x4, u0, y5, b526, z4, b524, q6, c4, z5, b6⟩
       ·refine E_cf k6 rfl ?_
        refine E_skip (blk_n ?_)
        obtain ⟨rfl, rfl⟩ := pairs2 h
        exact hQ _ _ ⟨r8, hfr, u5, x5, j1, x4, u0, y5, j2, z4, z2, q6, c4, z5, b6⟩
     ·clear hx
      obtain ⟨bB, hfr, y8, z8, a9, b9, c9, d9, e9, g9, i9, j9, k9, b7, c7⟩ := hR
      refine E_region (EL_in (.int .i64 ((w64 (j0 + (1 : Int))))) c7 rfl rfl rfl ?_)
      refine EL_mw (.int .i64 ((w64 (j0 + (1 : Int))))) rfl rfl ?_
      exact EL_nil (thn_n (eA (j4, m4, (w64 (j0 + (1 : Int)))) _ _ ⟨bB, hfr, y8, z8, a9, b9, c9, d9, e9, g9, i9, j9, k9, b7, rfl⟩ h))
    ·refine E_cf i6 rfl ?_
     refine E_exit ?_
     refine thn_e ?_
     refine thn_e ?_
     refine blk_hit ?_
     refine blk_n ?_
     obtain ⟨rfl, rfl⟩ := pairs2 h
     exact hQ _ _ ⟨o8, hfr, n5, o5, j3, p5, o3, q5, u3, p4, u4, t5, z3⟩
   ·clear hx
    obtain ⟨cB, hfr, l9, m9, n9, o9, p9, q9, r9, t9, u9, v9, x9⟩ := hR
    refine E_region (EL_mv x9 rfl ?_)
    refine EL_in (.int .i64 ((w64 (o0 + (1 : Int))))) rfl rfl rfl rfl ?_
    refine EL_at (.int .i64 ((w64 (o0 + (1 : Int))))) rfl rfl ?_
    exact EL_nil (thn_n (cA (n4, o4, (w64 (o0 + (1 : Int)))) _ _ ⟨cB, hfr, l9, m9, n9, o9, p9, q9, r9, t9, u9, v9, rfl⟩ h))
 ·clear hx
  obtain ⟨jC, hfr, z9, bA⟩ := hR
  refine E_seq (E_region (EL_mv z9 rfl ?_))
  refine EL_at v8 rfl rfl ?_
  refine EL_nil (thn_n (E_ret ?_))
  obtain ⟨gp530, hs, rp530⟩ := OM.pub bA
  have hfr := hfr.stp hs
  obtain rfl := sinj h
  exact end1 rfl rfl (show _ = v8 from rfl) ⟨_, hfr, rp530⟩
/-- slices.Compare[[]int,int] -/
def f85 (x0 : List Int) (x1 : List Int) : Option (Int) :=
 jn (σ := Unit) (fun (_ : Unit) =>
  jn (σ := Unit) (fun (_ : Unit) =>
   some ((0 : Int))
   ) fun c6 =>
  bif (decide (((x0).length : Int) < ((x1).length : Int))) then
   some ((-1 : Int))
  else
   c6 ()
  ) fun d6 =>
 lp (σ := Int) (fun k33 j0 =>
  bif (decide (j0 < ((x0).length : Int))) then
   jn (σ := Unit) (fun (_ : Unit) =>
    k33 ((w64 (j0 + (1 : Int))))
    ) fun i6 =>
   (idx x0 j0).bind fun j3 =>
   jn (σ := Unit) (fun (_ : Unit) =>
    (idx x1 j0).bind fun o3 =>
    (f90 j3 o3).bind fun o0 =>
    bif (o0 != (0 : Int)) then
     some (o0)
    else
     i6 ()
    ) fun k54 =>
   bif (decide (j0 ≥ ((x1).length : Int))) then
    some ((1 : Int))
   else
    k54 ()
  else
   d6 ()
  ) big ((0 : Int))
theorem en85 : Enters Try.prog 85 := enters_of Try.func85 (by kernel_rfl) rfl
theorem wk85 {gI : Gh} {wI : World} {x0 : List Int} {x1 : List Int} {up0 : Value} (rp0 : RV gI.m wI x0 up0) {up1 : Value} (rp1 : RV gI.m wI x1 up1) {r : Int} (h : f85 x0 x1 = some r) : Fn Try.prog 85 #[up0, up1] gI wI (fun _ _ v => v = .int .i64 (r)) := by
 unfold f85 at h
 refine fn_of_E Try.func85 rfl (Nat.le_of_ble_eq_true rfl) fun g0 hm hfr => ?_
 have rp0 : RV g0.m wI x0 up0 := hm ▸ rp0
 have rp1 : RV g0.m wI x1 up1 := hm ▸ rp1
 show E _ 36 none _ _ _ _ _
 refine E_seq (E_region (EL_at (.int .i64 (0)) rfl rfl ?_))
 refine EL_nil (thn_n (E_joinC h (fun (s : Unit) e w => ∃ (g : Gh) , Fr gI wI g w ∧ e 0 = up0 ∧ RV g.m w (x0 : List Int) up0 ∧ e 1 = up1 ∧ RV g.m w (x1 : List Int) up1) (fun X32 d6 k6 h => ?_) ?_))
 ·refine E_seq (E_region (EL_mw up0 rfl rfl ?_))
  refine EL_pur (v := .int .i64 ((x0).length : Int)) (P_len Try.underlying22 rfl rp0) .plain rfl ?_
  refine EL_mw (.int .i64 (0)) rfl rfl ?_
  refine EL_nil (thn_n (E_block ?_))
  refine E_lp h (fun (s : Int) e w => ∃ (g : Gh) , Fr gI wI g w ∧ e 0 = up0 ∧ RV g.m w (x0 : List Int) up0 ∧ e 1 = up1 ∧ RV g.m w (x1 : List Int) up1 ∧ e 9 = up0 ∧ RV g.m w (x0 : List Int) up0 ∧ e 10 = .int .i64 (((x0).length : Int)) ∧ e 11 = .int .i64 (s)) ⟨g0, hfr, rfl, rp0, rfl, rp1, rfl, rp0, rfl, rfl⟩ (fun X33 k33 l6 => ?_)
  rintro j0 z6 g7 ⟨o4, hfr, i4, j4, z1, j2, m4, z2, p3, u0⟩ h
  refine E_seq (E_region (EL_in (.bool ((decide (j0 < ((x0).length : Int))))) u0 p3 rfl rfl ?_))
  refine EL_nil (thn_n (E_seq ?_))
  rcases csome h with ⟨u3, h⟩ | ⟨u3, h⟩
  ·refine E_ct u3 rfl ?_
   refine E_skip (thn_n (E_joinC h (fun (s : Unit) e w => ∃ (g : Gh) , Fr gI wI g w ∧ e 0 = up0 ∧ RV g.m w (x0 : List Int) up0 ∧ e 1 = up1 ∧ RV g.m w (x1 : List Int) up1 ∧ e 9 = up0 ∧ RV g.m w (x0 : List Int) up0 ∧ e 10 = .int .i64 (((x0).length : Int)) ∧ e 11 = .int .i64 (j0)) (fun X49 i6 m6 h => ?_) ?_))
   ·refine E_block ?_
    refine E_seq (E_region (EL_mv u0 rfl ?_))
    obtain ⟨j3, p4, h⟩ := bsome h
    refine EL_pur (v := ePtr up0 j0 1) (P_indexAddr (α := Int) Try.underlying22 Try.sizeOf3 m4 z2 u0 p4) .plain rfl ?_
    have q6 := PT_idx z2 p4
    refine EL_do .plain rfl (D_load (g := o4) Try.isAgg3 Try.sizeOf3 rfl q6 fun i7 r6 => ?_)
    obtain rfl := RV_int.1 r6
    refine EL_at (.int .i64 (j0)) rfl rfl ?_
    refine EL_at (.int .i64 (j3)) rfl rfl ?_
    refine EL_nil (thn_n (E_joinC h (fun (s : Unit) e w => ∃ (g : Gh) , Fr gI wI g w ∧ e 0 = up0 ∧ RV g.m w (x0 : List Int) up0 ∧ e 1 = up1 ∧ RV g.m w (x1 : List Int) up1 ∧ e 5 = .int .i64 (j0) ∧ e 6 = .int .i64 (j3) ∧ e 9 = up0 ∧ RV g.m w (x0 : List Int) up0 ∧ e 10 = .int .i64 (((x0).length : Int)) ∧ e 11 = .int .i64 (j0)) (fun X54 k54 n6 h => ?_) ?_))
    ·refine E_seq (E_region (EL_mw (.int .i64 (j0)) rfl rfl ?_))
     refine EL_mv z1 rfl ?_
     refine EL_pur (v := .int .i64 ((x1).length : Int)) (P_len Try.underlying22 rfl j2) .plain rfl ?_
     refine EL_in (.bool ((decide (j0 ≥ ((x1).length : Int))))) rfl rfl rfl rfl ?_
     refine EL_nil (thn_n ?_)
     rcases csome h with ⟨z3, h⟩ | ⟨z3, h⟩
     ·refine E_ct z3 rfl ?_
      refine E_seq (E_region (EL_at (.int .i64 (1)) rfl rfl ?_))
      refine EL_nil (thn_n (E_ret (thn_r ?_)))
      refine blk_r ?_
      refine thn_r ?_
      refine thn_r ?_
      refine blk_r ?_
      refine thn_r ?_
      obtain rfl := sinj h
      exact end1 rfl rfl (show _ = .int .i64 (1) from rfl) ⟨_, hfr, rfl⟩
     ·refine E_cf z3 rfl ?_
      exact E_skip (thn_n (n6 () _ _ ⟨o4, hfr, i4, j4, z1, j2, rfl, rfl, m4, z2, p3, u0⟩ h))
    ·rintro _ a7 j7 ⟨j6, hfr, i5, d3, n4, j1, j5, l5, m5, i3, u4, x4⟩ h
     refine E_seq (E_region (EL_mv n4 rfl ?_))
     refine EL_mv j5 rfl ?_
     obtain ⟨o3, z4, h⟩ := bsome h
     refine EL_pur (v := ePtr up1 j0 1) (P_indexAddr (α := Int) Try.underlying22 Try.sizeOf3 rfl j1 rfl z4) .plain rfl ?_
     have t6 := PT_idx j1 z4
     refine EL_do .plain rfl (D_load (g := j6) Try.isAgg3 Try.sizeOf3 rfl t6 fun m7 u6 => ?_)
     obtain rfl := RV_int.1 u6
     refine EL_at (.int .i64 (o3)) rfl rfl ?_
     refine EL_nil (thn_n (E_seq (E_region (EL_mv l5 rfl ?_))))
     refine EL_mw (.int .i64 (o3)) rfl rfl ?_
     obtain ⟨o0, o6, h⟩ := bsome h
     refine EL_do .plain rfl (D_call (g := j6) (vs := [.int .i64 (j3), .int .i64 (o3)]) en90 (.cons rfl (.cons rfl .nil)) (wk90  o6) fun v6 b7 n7 hs hr => ?_)
     have hfr := hfr.ext hs
     have d3 := d3.ext hs
     have j1 := j1.ext hs
     have i3 := i3.ext hs
     subst hr
     refine EL_at (.int .i64 (o0)) rfl rfl ?_
     refine EL_nil (thn_n (E_seq (E_region (EL_mw (.int .i64 (o0)) rfl rfl ?_))))
     refine EL_in (.bool ((o0 != (0 : Int)))) rfl rfl rfl rfl ?_
     refine EL_nil (thn_n ?_)
     rcases csome h with ⟨c4, h⟩ | ⟨c4, h⟩
     ·refine E_ct c4 rfl ?_
      refine E_seq (E_region (EL_mw (.int .i64 (o0)) rfl rfl ?_))
      refine EL_at (.int .i64 (o0)) rfl rfl ?_
      refine EL_nil (thn_n (E_ret (blk_r ?_)))
      refine thn_r ?_
      refine thn_r ?_
      refine blk_r ?_
      refine thn_r ?_
      obtain rfl := sinj h
      exact end1 rfl rfl (show _ = .int .i64 (o0) from rfl) ⟨_, hfr, rfl⟩
     ·refine E_cf c4 rfl ?_
      exact E_skip (blk_n (thn_n (m6 () _ _ ⟨v6, hfr, i5, d3, n4, j1, m5, i3, u4, x4⟩ h)))
   ·rintro _ c7 o7 ⟨x6, hfr, n5, o5, p5, q5, t5, u5, c5, d5⟩ h
    refine E_region (EL_in (.int .i64 ((w64 (j0 + (1 : Int))))) d5 rfl rfl rfl ?_)
    refine EL_mw (.int .i64 ((w64 (j0 + (1 : Int))))) rfl rfl ?_
    exact EL_nil (thn_n (l6 ((w64 (j0 + (1 : Int)))) _ _ ⟨x6, hfr, n5, o5, p5, q5, t5, u5, c5, rfl⟩ h))
  ·refine E_cf u3 rfl ?_
   refine E_exit ?_
   refine thn_e ?_
   refine thn_e ?_
   refine blk_hit ?_
   exact thn_n (k6 () _ _ ⟨o4, hfr, i4, j4, z1, j2⟩ h)
 ·rintro _ d7 w64 ⟨y6, hfr, x5, y5, z5, b6⟩ h
  refine E_joinC h (fun (s : Unit) e w => ∃ (g : Gh) , Fr gI wI g w) (fun X66 c6 p6 h => ?_) ?_
  ·refine E_seq (E_region (EL_mv x5 rfl ?_))
   refine EL_pur (v := .int .i64 ((x0).length : Int)) (P_len Try.underlying22 rfl y5) .plain rfl ?_
   refine EL_mv z5 rfl ?_
   refine EL_pur (v := .int .i64 ((x1).length : Int)) (P_len Try.underlying22 rfl b6) .plain rfl ?_
   refine EL_in (.bool ((decide (((x0).length : Int) < ((x1).length : Int))))) rfl rfl rfl rfl ?_
   refine EL_nil (thn_n ?_)
   rcases csome h with ⟨d4, h⟩ | ⟨d4, h⟩
   ·refine E_ct d4 rfl ?_
    refine E_seq (E_region (EL_at (.int .i64 (-1)) rfl rfl ?_))
    refine EL_nil (thn_n (E_ret (thn_r ?_)))
    obtain rfl := sinj h
    exact end1 rfl rfl (show _ = .int .i64 (-1) from rfl) ⟨_, hfr, rfl⟩
   ·refine E_cf d4 rfl ?_
    exact E_skip (thn_n (p6 () _ _ ⟨y6, hfr⟩ h))
  ·rintro _ e7 p7 ⟨q7, hfr⟩ h
   refine E_seq (E_region (EL_at (.int .i64 (0)) rfl rfl ?_))
   refine EL_nil (thn_n (E_ret ?_))
   obtain rfl := sinj h
   exact end1 rfl rfl (show _ = .int .i64 (0) from rfl) ⟨_, hfr, rfl⟩
/-- slices.SortFunc[[]int,int] -/
def f87 (x0 : List Int) (x1 : Int → Int → Option Int) : Option ((List Int)) :=
 (f101 ((wu64 ((x0).length : Int)))).bind fun y2 =>
 (f100 big x0 ((0 : Int)) (((x0).length : Int)) y2 x1).bind fun y4 =>
 some (y4)
theorem en87 : Enters Try.prog 87 := enters_of Try.func87 (by kernel_rfl) rfl
theorem wk87 {iI : Nat} {gI : Gh} {wI : World} {x0 : List Int} {x1 : Int → Int → Option Int} {up0 : Value} (mp0 : OM iI gI wI 3 x0 up0) {up1 : Value} (rp1 : FnV2 Try.prog x1 up1 gI wI) {r : (List Int)} (h : f87 x0 x1 = some r) : FnM Try.prog 87 #[up0, up1] iI gI wI (fun g w v => v = .tuple #[] ∧ OM iI g w 3 r up0) := by
 unfold f87 at h
 refine fnM_of_E Try.func87 rfl (Nat.le_of_ble_eq_true rfl) fun g0 hm hfr => ?_
 have j0 := mp0
 replace mp0 := mp0.enter
 rw [← hm] at mp0
 replace hm : g0.m = gI.m := by rw [hm]
 obtain ⟨ff1, fa1, fc1, rfl, fen1, fcl1⟩ := rp1
 show E _ 14 none _ _ _ _ _
 refine E_seq (E_region (EL_mw up0 rfl rfl ?_))
 refine EL_pur (v := .int .i64 ((x0).length : Int)) (P_lenM Try.underlying22 rfl mp0) .plain rfl ?_
 refine EL_at (.int .i64 ((x0).length : Int)) rfl rfl ?_
 refine EL_nil (thn_n (E_region (EL_mw up0 rfl rfl ?_)))
 refine EL_mw (.int .i64 ((x0).length : Int)) rfl rfl ?_
 refine EL_mw (.int .i64 ((x0).length : Int)) rfl rfl ?_
 refine EL_pur (v := .int .u64 (wu64 ((x0).length : Int))) (P_intu64 Try.underlying3 Try.underlying77 rfl) .plain rfl ?_
 obtain ⟨y2, hy2, h⟩ := bsome h
 refine EL_do .plain rfl (D_call (g := g0) (vs := [.int .u64 (wu64 ((x0).length : Int))]) en101 (.cons rfl .nil) (wk101  hy2) fun g1 w1_ v1 hs hr => ?_)
 have hfr := hfr.ext hs
 have mp0 := mp0.ext hs
 subst hr
 refine EL_mw ((.func (.func ff1) fa1 fc1)) rfl rfl ?_
 obtain ⟨y4, o0, h⟩ := bsome h
 refine EL_do .plain rfl (D_callM (g := g1) (i := 1) (vs := [up0, .int .i64 (0), .int .i64 ((x0).length : Int), .int .i64 (y2), (.func (.func ff1) fa1 fc1)]) en100 (.cons rfl (.cons rfl (.cons rfl (.cons rfl (.cons rfl .nil))))) (wk100 big mp0 (FnV2.ch ⟨_, _, _, rfl, fen1, fcl1⟩ hfr.ch) o0) fun g3 w3_ v3 hs hr => ?_)
 obtain ⟨hrv, b3⟩ := hr
 have hfr := hfr.stp hs
 subst hrv
 refine EL_nil ?_
 obtain rfl := sinj h
 exact end0n rfl rfl ⟨_, hfr, rfl, j0.back b3⟩
/-- griffe/loom.row$1 -/
def f88 (x0 : Int) (x1 : Int) (z0 : List LoomRun) : Option (Int) :=
 (idx z0 x0).bind fun y2 =>
 (idx z0 x1).bind fun y7 =>
 (f90 ((y2).From) ((y7).From)).bind fun j0 =>
 (idx z0 x0).bind fun z1 =>
 (idx z0 x1).bind fun j2 =>
 (f90 ((z1).Order) ((j2).Order)).bind fun o0 =>
 (f89 (([j0, o0] : List Int))).bind fun j1 =>
 some (j1)
theorem en88 : Enters Try.prog 88 := enters_of Try.func88 (by kernel_rfl) rfl
theorem wk88 {gI : Gh} {wI : World} {x0 : Int} {x1 : Int} {z0 : List LoomRun} {pf0 : Value} (qf0 : PT gI.m wI z0 pf0) {r : Int} (h : f88 x0 x1 z0 = some r) : Fn Try.prog 88 #[.int .i64 (x0), .int .i64 (x1), pf0] gI wI (fun _ _ v => v = .int .i64 (r)) := by
 unfold f88 at h
 refine fn_of_E Try.func88 rfl (Nat.le_of_ble_eq_true rfl) fun g0 hm hfr => ?_
 have qf0 : PT g0.m wI z0 pf0 := hm ▸ qf0
 show E _ 30 none _ _ _ _ _
 refine E_seq (E_region (EL_at (.int .i64 (0)) rfl rfl ?_))
 refine EL_nil (thn_n (E_seq (L_load (x := .tmp 2) Try.isAgg31 Try.sizeOf31 qf0 fun v1 r1 hl1 => ?_)))
 obtain ⟨y2, hy2, h⟩ := bsome h
 have q3 := PT_idx r1 hy2
 have q4 := PT_field (part_LoomRun_2).1 q3
 refine L_load (x := .tmp 9) Try.isAgg3 Try.sizeOf3 q4 fun v5 r5 x4 => ?_
 obtain rfl := RV_int.1 r5
 refine L_load (x := .tmp 2) Try.isAgg31 Try.sizeOf31 qf0 fun v6 r6 z4 => ?_
 obtain ⟨y7, o3, h⟩ := bsome h
 have q8 := PT_idx r6 o3
 have q9 := PT_field (part_LoomRun_2).1 q8
 refine L_load (x := .tmp 14) Try.isAgg3 Try.sizeOf3 q9 fun m5 c5 d4 => ?_
 obtain rfl := RV_int.1 c5
 obtain ⟨j0, i4, h⟩ := bsome h
 refine L_load (x := .tmp 2) Try.isAgg31 Try.sizeOf31 qf0 fun z2 p3 j4 => ?_
 obtain ⟨z1, d3, h⟩ := bsome h
 have u3 := PT_idx p3 d3
 have d5 := PT_field (part_LoomRun_0).1 u3
 refine L_load (x := .tmp 20) Try.isAgg3 Try.sizeOf3 d5 fun n5 i5 m4 => ?_
 obtain rfl := RV_int.1 i5
 refine L_load (x := .tmp 2) Try.isAgg31 Try.sizeOf31 qf0 fun i3 z3 n4 => ?_
 obtain ⟨j2, j3, h⟩ := bsome h
 have c4 := PT_idx z3 j3
 have j5 := PT_field (part_LoomRun_0).1 c4
 refine L_load (x := .tmp 25) Try.isAgg3 Try.sizeOf3 j5 fun o5 l5 o4 => ?_
 obtain rfl := RV_int.1 l5
 obtain ⟨o0, p4, h⟩ := bsome h
 obtain ⟨j1, u4, h⟩ := bsome h
 refine E_drawL (g := g0) (n := 25) [(10, (fun v g w => v = .int .i64 (j0))), (21, (fun v g w => v = .int .i64 (o0))), (22, (fun v g w => RV g.m w ([j0, o0] : List Int) v ∧ OS 3028 g w 3 ([j0, o0] : List Int) v ∧ FullV v)), (23, (fun v g w => v = .int .i64 (j1)))] [0, 1, 2, 3, 4, 5, 6, 7, 8, 9, 10, 11, 12, 13, 14, 15, 16, 17, 18, 19, 20, 21, 22, 23, 24] rfl mixed (by kernel_rfl) (⟨fun _ => up_eq _, fun _ => up_eq _, fun _ => up_and up_rv (up_and up_os (up_eq _)), fun _ => up_eq _, trivial⟩) ?_
 refine L_ld (c := v1) rfl rfl .plain (fun _ _ h => h.ch) hl1 rfl ?_
 refine L_pur (c := .int .i64 (x0)) rfl rfl .plain (fun _ _ hd => P_move rfl) ?_
 refine L_pur (c := ePtr v1 x0 3) rfl rfl .plain (fun _ _ hd => P_indexAddr (α := LoomRun) Try.underlying31 Try.sizeOf76 rfl r1 rfl hy2) ?_
 refine L_pur (c := fPtr (ePtr v1 x0 3) 2) rfl rfl .plain (fun _ _ hd => P_fieldAddr at_76_2 rfl (PT.ptr q3)) ?_
 refine L_ld (c := .int .i64 ((y2).From)) rfl rfl .plain (fun _ _ h => h.ch) x4 rfl ?_
 refine L_ld (c := v6) rfl rfl .plain (fun _ _ h => h.ch) z4 rfl ?_
 refine L_pur (c := .int .i64 (x1)) rfl rfl .plain (fun _ _ hd => P_move rfl) ?_
 refine L_pur (c := ePtr v6 x1 3) rfl rfl .plain (fun _ _ hd => P_indexAddr (α := LoomRun) Try.underlying31 Try.sizeOf76 rfl r6 rfl o3) ?_
 refine L_pur (c := fPtr (ePtr v6 x1 3) 2) rfl rfl .plain (fun _ _ hd => P_fieldAddr at_76_2 rfl (PT.ptr q8)) ?_
 refine L_ld (c := .int .i64 ((y7).From)) rfl rfl .plain (fun _ _ h => h.ch) d4 rfl ?_
 refine L_do (φ := fun v g w => v = .int .i64 (j0)) rfl rfl .plain (fun g w hd => D_call (g := g) (vs := [.int .i64 ((y2).From), .int .i64 ((y7).From)]) en90 (.cons rfl (.cons rfl .nil)) (wk90  i4) fun g' w' v hs hr => ⟨g', hs, hr⟩) (fun p5 hv => ?_)
 obtain ⟨_, _, _, rfl⟩ := hv
 refine L_ld (c := z2) rfl rfl .plain (fun _ _ h => h.ch) j4 rfl ?_
 refine L_pur (c := .int .i64 (x0)) rfl rfl .plain (fun _ _ hd => P_move rfl) ?_
 refine L_pur (c := ePtr z2 x0 3) rfl rfl .plain (fun _ _ hd => P_indexAddr (α := LoomRun) Try.underlying31 Try.sizeOf76 rfl p3 rfl d3) ?_
 refine L_pur (c := fPtr (ePtr z2 x0 3) 0) rfl rfl .plain (fun _ _ hd => P_fieldAddr at_76_0 rfl (PT.ptr u3)) ?_
 refine L_ld (c := .int .i64 ((z1).Order)) rfl rfl .plain (fun _ _ h => h.ch) m4 rfl ?_
 refine L_ld (c := i3) rfl rfl .plain (fun _ _ h => h.ch) n4 rfl ?_
 refine L_pur (c := .int .i64 (x1)) rfl rfl .plain (fun _ _ hd => P_move rfl) ?_
 refine L_pur (c := ePtr i3 x1 3) rfl rfl .plain (fun _ _ hd => P_indexAddr (α := LoomRun) Try.underlying31 Try.sizeOf76 rfl z3 rfl j3) ?_
 refine L_pur (c := fPtr (ePtr i3 x1 3) 0) rfl rfl .plain (fun _ _ hd => P_fieldAddr at_76_0 rfl (PT.ptr c4)) ?_
 refine L_ld (c := .int .i64 ((j2).Order)) rfl rfl .plain (fun _ _ h => h.ch) o4 rfl ?_
 refine L_do (φ := fun v g w => v = .int .i64 (o0)) rfl rfl .plain (fun g w hd => D_call (g := g) (vs := [.int .i64 ((z1).Order), .int .i64 ((j2).Order)]) en90 (.cons rfl (.cons rfl .nil)) (wk90  p4) fun g' w' v hs hr => ⟨g', hs, hr⟩) (fun q5 hv => ?_)
 obtain ⟨_, _, _, rfl⟩ := hv
 refine L_do (φ := fun v g w => RV g.m w ([j0, o0] : List Int) v ∧ OS 3028 g w 3 ([j0, o0] : List Int) v ∧ FullV v) rfl rfl .plain (fun g w hd => D_buildSlice (g := g) 3028 (xs := ([j0, o0] : List Int)) (vs := [.int .i64 (j0), .int .i64 (o0)]) Try.underlying22 Try.sizeOf3 Try.zeroValue3 rfl rfl (.cons rfl (.cons rfl .nil)) (RVs.cons (RV_int.2 rfl) (RVs.cons (RV_int.2 rfl) RVs.nil)) rfl rfl fun g' w' v hs o r hxt hfl => ⟨g', hxt, r, o, hfl⟩) (fun u0 hv => ?_)
 clear hv
 refine L_do (φ := fun v g w => v = .int .i64 (j1)) rfl rfl .plain (fun g w hd => D_call (g := g) (vs := [u0]) en89 (.cons rfl .nil) (wk89 (word (A := fun g w => RV g.m w ([j0, o0] : List Int) u0 ∧ OS 3028 g w 3 ([j0, o0] : List Int) u0 ∧ FullV u0) 22 rfl rfl (deps_of hd)).1 u4) fun g' w' v hs hr => ⟨g', hs, hr⟩) (fun t5 hv => ?_)
 obtain ⟨_, _, _, rfl⟩ := hv
 refine L_pur (c := .int .i64 (j1)) rfl rfl .plain (fun _ _ hd => P_assign rfl) ?_
 refine L_nil fun u5 x5 hall => ?_
 have hs := hall.1
 have hfr := hfr.ext hs
 have y5 := (word_all (A := fun g w => RV g.m w ([j0, o0] : List Int) u0 ∧ OS 3028 g w 3 ([j0, o0] : List Int) u0 ∧ FullV u0) 22 rfl hall).1
 have o55 := (word_all (A := fun g w => RV g.m w ([j0, o0] : List Int) u0 ∧ OS 3028 g w 3 ([j0, o0] : List Int) u0 ∧ FullV u0) 22 rfl hall).2.1
 clear hs hall
 refine EL_nil (thn_n (E_ret ?_))
 obtain rfl := sinj h
 exact end1 rfl rfl (show _ = .int .i64 (j1) from rfl) ⟨_, hfr, rfl⟩
/-- griffe/grifferef08.Smallest -/
def f21 : Nat → (LoomMill) → (List LoomOrder) → (List LoomRun) → Option ((List LoomRun) × Bool)
 | 0, _, _, _ => none
 | n + 1, x0, x1, x2 =>
  jn (σ := Unit) (fun (_ : Unit) =>
   jn (σ := Unit) (fun (_ : Unit) =>
    (idx x1 ((x2).length : Int)).bind fun i3 =>
    jn (σ := Unit) (fun (_ : Unit) =>
     some ([], false)
     ) fun d7 =>
    lp (σ := Int) (fun e7 j0 =>
     jn (σ := Unit) (fun (_ : Unit) =>
      jn (σ := Unit) (fun (_ : Unit) =>
       e7 ((w64 (j0 + (1 : Int))))
       ) fun g7 =>
      lp (σ := Int) (fun i7 o0 =>
       jn (σ := Unit) (fun (_ : Unit) =>
        jn (σ := Unit) (fun (_ : Unit) =>
         i7 ((w64 (o0 + (1 : Int))))
         ) fun j7 =>
        (apnd 24 (([] : List LoomRun)) x2).bind fun j3 =>
        (apnd 24 j3 (([(⟨((x2).length : Int), o0, j0⟩ : LoomRun)] : List LoomRun))).bind fun m7 =>
        (f21 n x0 x1 m7).bind fun c4 =>
        bif c4.2 then
         some (c4.1, true)
        else
         j7 ()
        ) fun n7 =>
       bif (decide (o0 < (((x0).Widths).length : Int))) then
        n7 ()
       else
        g7 ()
       ) big ((0 : Int))
      ) fun o7 =>
     bif (decide ((w64 (j0 + (i3).Woven)) ≤ (i3).Late)) then
      o7 ()
     else
      d7 ()
     ) big ((i3).Early)
    ) fun cA =>
   bif (((x2).length : Int) == ((x1).length : Int)) then
    some (x2, true)
   else
    cA ()
   ) fun k6 =>
  (f35 x0 x1 x2).bind fun y9 =>
  bif (y9.2 != (0 : Int)) then
   some ([], false)
  else
   k6 ()
theorem en21 : Enters Try.prog 21 := enters_of Try.func21 (by kernel_rfl) rfl
theorem wk21 (n : Nat) : ∀ {gI : Gh} {wI : World} {x0 : LoomMill} {x1 : List LoomOrder} {x2 : List LoomRun} {up0 : Value} (rp0 : RV gI.m wI x0 up0) {up1 : Value} (rp1 : RV gI.m wI x1 up1) {up2 : Value} (rp2 : RV gI.m wI x2 up2) {r : (List LoomRun) × Bool} (h : f21 n x0 x1 x2 = some r), Fn Try.prog 21 #[up0, up1, up2] gI wI (fun m w v => ∃ y0 y1, v = .tuple #[y0, y1] ∧ RV m w (r.1) y0 ∧ y1 = .bool (r.2)) := by
 induction n with
 | zero => intros; rename_i h; cases h
 | succ n ih =>
 intro gI wI x0 x1 x2 up0 rp0 up1 rp1 up2 rp2 r h
 simp only [f21] at h
 refine fn_of_E Try.func21 rfl (Nat.le_of_ble_eq_true rfl) fun g0 hm hfr => ?_
 have rp0 : RV g0.m wI x0 up0 := hm ▸ rp0
 have rp1 : RV g0.m wI x1 up1 := hm ▸ rp1
 have rp2 : RV g0.m wI x2 up2 := hm ▸ rp2
 show E _ 71 none _ _ _ _ _
 refine E_seq (E_region (EL_do .plain rfl (D_box (g := g0) rfl rp0 fun g1 w1 p1 hs q1 => ?_)))
 have hfr := hfr.ext hs
 have rp1 := rp1.ext hs
 have rp2 := rp2.ext hs
 refine EL_at (.slice none 0 0) rfl rfl ?_
 refine EL_at (.bool false) rfl rfl ?_
 refine EL_nil (thn_n (E_joinC h (fun (s : Unit) e w => ∃ (g : Gh) , Fr gI wI g w ∧ e 1 = up1 ∧ RV g.m w (x1 : List LoomOrder) up1 ∧ e 2 = up2 ∧ RV g.m w (x2 : List LoomRun) up2 ∧ e 3 = p1 ∧ PT g.m w (x0 : LoomMill) p1) (fun X6 k6 hk6 h => ?_) ?_))
 ·refine E_seq (E_region (EL_do .plain rfl (D_load (g := g1) Try.isAgg24 Try.sizeOf24 rfl q1 fun v7 r7 => ?_)))
  refine EL_mw up1 rfl rfl ?_
  refine EL_mw up2 rfl rfl ?_
  obtain ⟨y9, yA, h⟩ := bsome h
  refine EL_do .plain rfl (D_call (g := g1) (vs := [v7, up1, up2]) en35 (.cons rfl (.cons rfl (.cons rfl .nil))) (wk35 r7 rp1 rp2 yA) fun g8 w8_ v8 hs hr => ?_)
  have hfr := hfr.ext hs
  have rp1 := rp1.ext hs
  have rp2 := rp2.ext hs
  have q1 := q1.ext hs
  obtain ⟨pB, qB, rfl, rfl, rfl⟩ := hr
  refine EL_mw (.tuple #[.int .i64 (y9.1), .int .i64 (y9.2)]) rfl rfl ?_
  refine EL_pur (v := .int .i64 (y9.1)) (P_extract rfl rfl) .plain rfl ?_
  refine EL_pur (v := .int .i64 (y9.2)) (P_extract rfl rfl) .plain rfl ?_
  refine EL_at (.int .i64 (y9.1)) rfl rfl ?_
  refine EL_at (.int .i64 (y9.2)) rfl rfl ?_
  refine EL_nil (thn_n (E_seq (E_region (EL_mw (.int .i64 (y9.2)) rfl rfl ?_))))
  refine EL_in (.bool ((y9.2 != (0 : Int)))) rfl rfl rfl rfl ?_
  refine EL_nil (thn_n ?_)
  rcases csome h with ⟨d6, h⟩ | ⟨d6, h⟩
  ·refine E_ct d6 rfl ?_
   refine E_seq (E_region (EL_at (.slice none 0 0) rfl rfl ?_))
   refine EL_at (.bool false) rfl rfl ?_
   refine EL_nil (thn_n (E_ret (thn_r ?_)))
   obtain rfl := sinj h
   exact end2 rfl rfl (show _ = .slice none 0 0 from rfl) (show _ = .bool false from rfl) ⟨_, hfr, _, _, rfl, RV_nil, rfl⟩
  ·refine E_cf d6 rfl ?_
   exact E_skip (thn_n (hk6 () _ _ ⟨g8, hfr, rfl, rp1, rfl, rp2, rfl, q1⟩ h))
 ·rintro _ rB lC ⟨zA, hfr, m6, n6, l5, m5, j9, k9⟩ h
  refine E_joinC h (fun (s : Unit) e w => ∃ (g : Gh) , Fr gI wI g w ∧ e 1 = up1 ∧ RV g.m w (x1 : List LoomOrder) up1 ∧ e 2 = up2 ∧ RV g.m w (x2 : List LoomRun) up2 ∧ e 3 = p1 ∧ PT g.m w (x0 : LoomMill) p1) (fun X13 cA gA h => ?_) ?_
  ·refine E_seq (E_region (EL_mv l5 rfl ?_))
   refine EL_pur (v := .int .i64 ((x2).length : Int)) (P_len Try.underlying31 rfl m5) .plain rfl ?_
   refine EL_mv m6 rfl ?_
   refine EL_pur (v := .int .i64 ((x1).length : Int)) (P_len Try.underlying25 rfl n6) .plain rfl ?_
   refine EL_in (.bool ((((x2).length : Int) == ((x1).length : Int)))) rfl rfl rfl rfl ?_
   refine EL_nil (thn_n ?_)
   rcases csome h with ⟨i6, h⟩ | ⟨i6, h⟩
   ·refine E_ct i6 rfl ?_
    refine E_seq (E_region (EL_mv l5 rfl ?_))
    refine EL_at up2 rfl rfl ?_
    refine EL_at (.bool true) rfl rfl ?_
    refine EL_nil (thn_n (E_ret (thn_r ?_)))
    obtain rfl := sinj h
    exact end2 rfl rfl (show _ = up2 from rfl) (show _ = .bool true from rfl) ⟨_, hfr, _, _, rfl, m5, rfl⟩
   ·refine E_cf i6 rfl ?_
    exact E_skip (thn_n (gA () _ _ ⟨zA, hfr, m6, n6, l5, m5, j9, k9⟩ h))
  ·rintro _ sB mC ⟨dA, hfr, o6, u3, p6, z3, l9, d4⟩ h
   refine E_seq (E_region (EL_mv o6 rfl ?_))
   refine EL_mv p6 rfl ?_
   refine EL_pur (v := .int .i64 ((x2).length : Int)) (P_len Try.underlying31 rfl z3) .plain rfl ?_
   obtain ⟨i3, p7, h⟩ := bsome h
   refine EL_pur (v := ePtr up1 ((x2).length : Int) 5) (P_indexAddr (α := LoomOrder) Try.underlying25 Try.sizeOf82 rfl u3 rfl p7) .plain rfl ?_
   have aB := PT_idx u3 p7
   refine EL_do .plain rfl (D_load (g := dA) Try.isAgg82 Try.sizeOf82 rfl aB fun bB q7 => ?_)
   refine EL_do .plain rfl (D_allocOc (g := dA) 2010 (⟨0, 0, 0, 0, 0⟩ : LoomOrder) Try.zeroValue82 (fun m w => ⟨_, (rep_two rep_int (rep_two rep_int (rep_two rep_int (rep_two rep_int rep_int)))), rfl⟩) fun cB nC d3 hs b19 cb => ?_)
   have hfr := hfr.stp hs
   have u3 := u3.stp hs
   have z3 := z3.stp hs
   have d4 := d4.stp hs
   have q7 := q7.stp hs
   clear cb
   refine EL_do .plain rfl (D_storeOc (g := cB) (v := bB) Try.sizeOf82 rfl b19 rfl q7 fun eA oC hs b20 cb => ?_)
   clear cb
   have hfr := hfr.stp hs
   have u3 := u3.stp hs
   have z3 := z3.stp hs
   have d4 := d4.stp hs
   refine EL_nil (thn_n (E_joinC h (fun (s : Unit) e w => ∃ (g : Gh) , Fr gI wI g w) (fun X179 d7 m9 h => ?_) ?_))
   ·refine E_seq (E_region (EL_pur (v := fPtr d3 3) (P_fieldAddr at_82_3 rfl (OB.ptr b20)) .plain rfl ?_))
    refine EL_do .plain rfl (D_loadF (g := eA) part_LoomOrder_3.1 Try.isAgg3 Try.sizeOf3 rfl b20 fun tB iA => ?_)
    obtain rfl := RV_int.1 iA
    refine EL_at (.int .i64 ((i3).Early)) rfl rfl ?_
    refine EL_nil (thn_n (E_block ?_))
    refine E_lp h (fun (s : Int) e w => ∃ (g : Gh) , Fr gI wI g w ∧ e 1 = up1 ∧ RV g.m w (x1 : List LoomOrder) up1 ∧ e 2 = up2 ∧ RV g.m w (x2 : List LoomRun) up2 ∧ e 3 = p1 ∧ PT g.m w (x0 : LoomMill) p1 ∧ e 10 = d3 ∧ OB 2010 g w 82 (i3 : LoomOrder) d3 ∧ e 11 = .int .i64 (s)) ⟨eA, hfr, o6, u3, p6, z3, l9, d4, rfl, b20, rfl⟩ (fun X182 e7 n9 => ?_)
    rintro j0 eB uB ⟨n5, hfr, t7, u7, x7, y7, a8, b8, j4, o3, u4⟩ h
    refine E_joinC h (fun (s : Unit) e w => ∃ (g : Gh) , Fr gI wI g w ∧ e 1 = up1 ∧ RV g.m w (x1 : List LoomOrder) up1 ∧ e 2 = up2 ∧ RV g.m w (x2 : List LoomRun) up2 ∧ e 3 = p1 ∧ PT g.m w (x0 : LoomMill) p1 ∧ e 10 = d3 ∧ OB 2010 g w 82 (i3 : LoomOrder) d3 ∧ e 11 = .int .i64 (j0)) (fun X189 o7 o9 h => ?_) ?_
    ·refine E_seq (E_region (EL_mv u4 rfl ?_))
     refine EL_pur (v := fPtr d3 2) (P_fieldAddr at_82_2 j4 (OB.ptr o3)) .plain rfl ?_
     refine EL_do .plain rfl (D_loadF (g := n5) part_LoomOrder_2.1 Try.isAgg3 Try.sizeOf3 rfl o3 fun vB jA => ?_)
     obtain rfl := RV_int.1 jA
     refine EL_in (.int .i64 ((w64 (j0 + (i3).Woven)))) rfl rfl rfl rfl ?_
     refine EL_pur (v := fPtr d3 4) (P_fieldAddr at_82_4 j4 (OB.ptr o3)) .plain rfl ?_
     refine EL_do .plain rfl (D_loadF (g := n5) part_LoomOrder_4.1 Try.isAgg3 Try.sizeOf3 rfl o3 fun xB kA => ?_)
     obtain rfl := RV_int.1 kA
     refine EL_pur (v := .bool ((decide ((w64 (j0 + (i3).Woven)) ≤ (i3).Late)))) (P_int rfl rfl rfl) .plain rfl ?_
     refine EL_nil (thn_n ?_)
     rcases csome h with ⟨o5, h⟩ | ⟨o5, h⟩
     ·refine E_ct o5 rfl ?_
      exact E_skip (thn_n (o9 () _ _ ⟨n5, hfr, t7, u7, x7, y7, a8, b8, j4, o3, u4⟩ h))
     ·refine E_cf o5 rfl ?_
      refine E_exit ?_
      refine thn_e ?_
      refine thn_e ?_
      refine blk_hit ?_
      exact thn_n (m9 () _ _ ⟨n5, hfr⟩ h)
    ·rintro _ iB yB ⟨lA, hfr, c8, d8, e8, i8, j8, k8, q6, r6, t6⟩ h
     refine E_joinC h (fun (s : Unit) e w => ∃ (g : Gh) , Fr gI wI g w ∧ e 1 = up1 ∧ RV g.m w (x1 : List LoomOrder) up1 ∧ e 2 = up2 ∧ RV g.m w (x2 : List LoomRun) up2 ∧ e 3 = p1 ∧ PT g.m w (x0 : LoomMill) p1 ∧ e 10 = d3 ∧ OB 2010 g w 82 (i3 : LoomOrder) d3 ∧ e 11 = .int .i64 (j0)) (fun X266 g7 p9 h => ?_) ?_
     ·refine E_block ?_
      refine E_seq (E_region (EL_at (.int .i64 (0)) rfl rfl ?_))
      refine EL_nil (thn_n (E_block ?_))
      refine E_lp h (fun (s : Int) e w => ∃ (g : Gh) , Fr gI wI g w ∧ e 1 = up1 ∧ RV g.m w (x1 : List LoomOrder) up1 ∧ e 2 = up2 ∧ RV g.m w (x2 : List LoomRun) up2 ∧ e 3 = p1 ∧ PT g.m w (x0 : LoomMill) p1 ∧ e 10 = d3 ∧ OB 2010 g w 82 (i3 : LoomOrder) d3 ∧ e 11 = .int .i64 (j0) ∧ e 12 = .int .i64 (s)) ⟨lA, hfr, c8, d8, e8, i8, j8, k8, q6, r6, t6, rfl⟩ (fun X267 i7 q9 => ?_)
      rintro o0 jB zB ⟨j6, hfr, u5, x5, y5, z5, n4, i4, x4, z4, c5, d5⟩ h
      refine E_joinC h (fun (s : Unit) e w => ∃ (g : Gh) , Fr gI wI g w ∧ e 1 = up1 ∧ RV g.m w (x1 : List LoomOrder) up1 ∧ e 2 = up2 ∧ RV g.m w (x2 : List LoomRun) up2 ∧ e 3 = p1 ∧ PT g.m w (x0 : LoomMill) p1 ∧ e 10 = d3 ∧ OB 2010 g w 82 (i3 : LoomOrder) d3 ∧ e 11 = .int .i64 (j0) ∧ e 12 = .int .i64 (o0)) (fun X272 n7 r9 h => ?_) ?_
      ·refine E_seq (E_region (EL_mv d5 rfl ?_))
       refine EL_pur (v := fPtr p1 0) (P_fieldAddr at_24_0 n4 (PT.ptr i4)) .plain rfl ?_
       have mA := PT_field (part_LoomMill_0).1 i4
       refine EL_do .plain rfl (D_load (g := j6) Try.isAgg22 Try.sizeOf22 rfl mA fun aC nA => ?_)
       refine EL_pur (v := .int .i64 (((x0).Widths).length : Int)) (P_len Try.underlying22 rfl nA) .plain rfl ?_
       refine EL_pur (v := .bool ((decide (o0 < (((x0).Widths).length : Int))))) (P_int rfl rfl rfl) .plain rfl ?_
       refine EL_nil (thn_n ?_)
       rcases csome h with ⟨p5, h⟩ | ⟨p5, h⟩
       ·refine E_ct p5 rfl ?_
        exact E_skip (thn_n (r9 () _ _ ⟨j6, hfr, u5, x5, y5, z5, n4, i4, x4, z4, c5, d5⟩ h))
       ·refine E_cf p5 rfl ?_
        refine E_exit ?_
        refine thn_e ?_
        refine thn_e ?_
        refine blk_hit ?_
        exact blk_n (thn_n (p9 () _ _ ⟨j6, hfr, u5, x5, y5, z5, n4, i4, x4, z4, c5⟩ h))
      ·rintro _ kB l8 ⟨l6, hfr, b6, j2, o4, j1, c6, z2, u6, z1, i5, j5⟩ h
       refine E_joinC h (fun (s : Unit) e w => ∃ (g : Gh) , Fr gI wI g w ∧ e 1 = up1 ∧ RV g.m w (x1 : List LoomOrder) up1 ∧ e 2 = up2 ∧ RV g.m w (x2 : List LoomRun) up2 ∧ e 3 = p1 ∧ PT g.m w (x0 : LoomMill) p1 ∧ e 10 = d3 ∧ OB 2010 g w 82 (i3 : LoomOrder) d3 ∧ e 11 = .int .i64 (j0) ∧ e 12 = .int .i64 (o0)) (fun X306 j7 t9 h => ?_) ?_
       ·refine E_block ?_
        refine E_seq (L_load (x := .tmp 3) Try.isAgg24 Try.sizeOf24 z2 fun m8 p4 u9 => ?_)
        obtain ⟨j3, v9, h⟩ := bsome h
        have n8 : RV l6.m l8 (⟨((x2).length : Int), o0, j0⟩ : LoomRun) (.agg (setCh [[.int .i64 0], [.int .i64 0], [.int .i64 0]] [(0, .int .i64 ((x2).length : Int)), (1, .int .i64 (o0)), (2, .int .i64 (j0))]).flatten.toArray) := RV_build rfl (rep_pair (rfl) (rep_pair (rfl) (rep_last (rfl))))
        generalize x9 : (Value.agg (setCh [[.int .i64 0], [.int .i64 0], [.int .i64 0]] [(0, .int .i64 ((x2).length : Int)), (1, .int .i64 (o0)), (2, .int .i64 (j0))]).flatten.toArray) = o8 at n8
        refine E_drawTL (g := l6) (n := 11) [0, 1, 14, 15] [(2, (fun v g w => RV g.m w ([] : List LoomRun) v ∧ OS 3056 g w 76 ([] : List LoomRun) v ∧ FullV v)), (4, (fun v g w => RV g.m w j3 v ∧ OS 3056 g w 76 j3 v)), (10, (fun v g w => RV g.m w ([(⟨((x2).length : Int), o0, j0⟩ : LoomRun)] : List LoomRun) v ∧ OS 3064 g w 76 ([(⟨((x2).length : Int), o0, j0⟩ : LoomRun)] : List LoomRun) v ∧ FullV v))] [0, 1, 2, 3, 4, 5, 6, 7, 8, 9, 10] rfl mixed (by kernel_rfl) (⟨fun _ => up_and up_rv (up_and up_os (up_eq _)), fun _ => up_and up_rv up_os, fun _ => up_and up_rv (up_and up_os (up_eq _)), trivial⟩) rfl ?_
        refine L_ldL (c := m8) rfl rfl .plain (fun _ _ h => h.ch) rfl u9 c6 ?_
        refine L_purL (c := up1) rfl rfl .plain (P_move b6) ?_
        refine L_do (φ := fun v g w => RV g.m w ([] : List LoomRun) v ∧ OS 3056 g w 76 ([] : List LoomRun) v ∧ FullV v) rfl rfl .plain (fun g w hd => D_buildSlice (g := g) 3056 (xs := ([] : List LoomRun)) (vs := []) Try.underlying31 Try.sizeOf76 Try.zeroValue76 rfl rfl .nil RVs.nil rfl rfl fun g' w' v hs o r hxt hfl => ⟨g', hxt, r, o, hfl⟩) (fun u0 hv => ?_)
        clear hv
        refine L_pur (c := up2) rfl rfl .plain (fun _ _ hd => P_move o4) ?_
        refine L_do (φ := fun v g w => RV g.m w j3 v ∧ OS 3056 g w 76 j3 v) rfl rfl .plain (fun g w hd => D_append (g := g) (i := 3056) Try.underlying31 info_76 rfl rfl (word (A := fun g w => RV g.m w ([] : List LoomRun) u0 ∧ OS 3056 g w 76 ([] : List LoomRun) u0 ∧ FullV u0) 2 rfl rfl (deps_of hd)).2.1 (word (A := fun g w => RV g.m w ([] : List LoomRun) u0 ∧ OS 3056 g w 76 ([] : List LoomRun) u0 ∧ FullV u0) 2 rfl rfl (deps_of hd)).1 rfl (j1.ext hd.1) v9 fun g' w' v hs o r hf => ⟨g', hf (word (A := fun g w => RV g.m w ([] : List LoomRun) u0 ∧ OS 3056 g w 76 ([] : List LoomRun) u0 ∧ FullV u0) 2 rfl rfl (deps_of hd)).2.2, r, o⟩) (fun q5 hv => ?_)
        clear hv
        refine L_pur (c := up2) rfl rfl .plain (fun _ _ hd => P_move o4) ?_
        refine L_pur (c := .int .i64 ((x2).length : Int)) rfl rfl .plain (fun _ _ hd => P_len Try.underlying31 rfl j1) ?_
        refine L_pur (c := .int .i64 (o0)) rfl rfl .plain (fun _ _ hd => P_move j5) ?_
        refine L_pur (c := .int .i64 (j0)) rfl rfl .plain (fun _ _ hd => P_move i5) ?_
        refine L_pur (c := o8) rfl rfl .plain (fun _ _ hd => x9 ▸ P_build (vs := [(0, .int .i64 ((x2).length : Int)), (1, .int .i64 (o0)), (2, .int .i64 (j0))]) [[.int .i64 0], [.int .i64 0], [.int .i64 0]] lay_76 rfl rfl (.cons rfl (.cons rfl (.cons rfl .nil))) ⟨⟨_, rfl, rfl⟩, ⟨⟨_, rfl, rfl⟩, ⟨⟨_, rfl, rfl⟩, trivial⟩⟩⟩) ?_
        refine L_do (φ := fun v g w => RV g.m w ([(⟨((x2).length : Int), o0, j0⟩ : LoomRun)] : List LoomRun) v ∧ OS 3064 g w 76 ([(⟨((x2).length : Int), o0, j0⟩ : LoomRun)] : List LoomRun) v ∧ FullV v) rfl rfl .plain (fun g w hd => D_buildSlice (g := g) 3064 (xs := ([(⟨((x2).length : Int), o0, j0⟩ : LoomRun)] : List LoomRun)) (vs := [o8]) Try.underlying31 Try.sizeOf76 Try.zeroValue76 rfl rfl (.cons rfl .nil) (RVs.cons (n8.ext hd.1) RVs.nil) rfl rfl fun g' w' v hs o r hxt hfl => ⟨g', hxt, r, o, hfl⟩) (fun m4 hv => ?_)
        clear hv
        refine L_nil fun p8 oA hall => ?_
        have hs := hall.1
        have hlt : Lt l6.m l8 p8 oA := hs.ch
        have hfr := hfr.ext hs
        have j2 := j2.ext hs
        have j1 := j1.ext hs
        have z2 := z2.ext hs
        have z1 := z1.ext hs
        have p4 := p4.ext hs
        have bC := (word_all (A := fun g w => RV g.m w ([] : List LoomRun) u0 ∧ OS 3056 g w 76 ([] : List LoomRun) u0 ∧ FullV u0) 2 rfl hall).1
        have o322 := (word_all (A := fun g w => RV g.m w ([] : List LoomRun) u0 ∧ OS 3056 g w 76 ([] : List LoomRun) u0 ∧ FullV u0) 2 rfl hall).2.1
        have pA := (word_all (A := fun g w => RV g.m w j3 q5 ∧ OS 3056 g w 76 j3 q5) 4 rfl hall).1
        have o324 := (word_all (A := fun g w => RV g.m w j3 q5 ∧ OS 3056 g w 76 j3 q5) 4 rfl hall).2
        have qA := (word_all (A := fun g w => RV g.m w ([(⟨((x2).length : Int), o0, j0⟩ : LoomRun)] : List LoomRun) m4 ∧ OS 3064 g w 76 ([(⟨((x2).length : Int), o0, j0⟩ : LoomRun)] : List LoomRun) m4 ∧ FullV m4) 10 rfl hall).1
        have o330 := (word_all (A := fun g w => RV g.m w ([(⟨((x2).length : Int), o0, j0⟩ : LoomRun)] : List LoomRun) m4 ∧ OS 3064 g w 76 ([(⟨((x2).length : Int), o0, j0⟩ : LoomRun)] : List LoomRun) m4 ∧ FullV m4) 10 rfl hall).2.1
        clear hs hall
        obtain ⟨m7, z9, h⟩ := bsome h
        refine TL_do hlt.w .plain rfl (D_append (g := p8) (i := 3056) Try.underlying31 info_76 rfl rfl o324 pA rfl qA z9 fun rA cC sA hs o331 tA _ => ?_)
        have hfr := hfr.stp hs
        have hlt := hlt.stp hs
        have j2 := j2.stp hs
        have j1 := j1.stp hs
        have z2 := z2.stp hs
        have z1 := z1.stp hs rfl
        have p4 := p4.stp hs
        obtain ⟨c4, bA, h⟩ := bsome h
        refine TL_do hlt.w .plain rfl (D_call (g := rA) (vs := [m8, up1, sA]) en21 (.cons rfl (.cons rfl (.cons rfl .nil))) (ih p4 j2 tA bA) fun uA lB dC hs hr => ?_)
        have hfr := hfr.ext hs
        have hlt := hlt.ext hs
        have j2 := j2.ext hs
        have j1 := j1.ext hs
        have z2 := z2.ext hs
        have z1 := z1.ext hs
        obtain ⟨p3, dB, rfl, q8, rfl⟩ := hr
        refine TL_pur hlt.w (v := .tuple #[p3, .bool (c4.2)]) (P_move rfl) .plain rfl ?_
        refine TL_purL hlt.w (v := p3) (P_extract rfl rfl) rfl ?_
        refine TL_purL hlt.w (v := .bool (c4.2)) (P_extract rfl rfl) rfl ?_
        refine TL_pur hlt.w (v := p3) (P_assign rfl) .plain rfl ?_
        refine TL_pur hlt.w (v := .bool (c4.2)) (P_assign rfl) .plain rfl ?_
        refine TL_nil hlt.w ?_
        clear hlt
        refine thn_n (E_seq (E_region (EL_mw (.bool (c4.2)) rfl rfl ?_)))
        refine EL_nil (thn_n ?_)
        rcases csome h with ⟨t5, h⟩ | ⟨t5, h⟩
        ·refine E_ct t5 rfl ?_
         refine E_seq (E_region (EL_mw p3 rfl rfl ?_))
         refine EL_at p3 rfl rfl ?_
         refine EL_at (.bool true) rfl rfl ?_
         refine EL_nil (thn_n (E_ret (blk_r ?_)))
         refine thn_r ?_
         refine thn_r ?_
         refine blk_r ?_
         refine blk_r ?_
         refine thn_r ?_
         refine thn_r ?_
         refine blk_r ?_
         refine thn_r ?_
         obtain rfl := sinj h
         exact end2 rfl rfl (show _ = p3 from rfl) (show _ = .bool true from rfl) ⟨_, hfr, _, _, rfl, q8, rfl⟩
        ·refine E_cf t5 rfl ?_
         exact E_skip (blk_n (thn_n (t9 () _ _ ⟨uA, hfr, b6, j2, o4, j1, c6, z2, u6, z1, i5, j5⟩ h)))
       ·rintro _ mB eC ⟨vA, hfr, r8, t8, x8, y8, z8, a9, v6, x6, y6, z6⟩ h
        refine E_region (EL_mv z6 rfl ?_)
        refine EL_in (.int .i64 ((w64 (o0 + (1 : Int))))) rfl rfl rfl rfl ?_
        refine EL_at (.int .i64 ((w64 (o0 + (1 : Int))))) rfl rfl ?_
        exact EL_nil (thn_n (q9 ((w64 (o0 + (1 : Int)))) _ _ ⟨vA, hfr, r8, t8, x8, y8, z8, a9, v6, x6, y6, rfl⟩ h))
     ·rintro _ nB iC ⟨xA, hfr, b9, c9, d9, e9, g9, i9, a7, b7, c7⟩ h
      refine E_region (EL_mv c7 rfl ?_)
      refine EL_in (.int .i64 ((w64 (j0 + (1 : Int))))) rfl rfl rfl rfl ?_
      refine EL_at (.int .i64 ((w64 (j0 + (1 : Int))))) rfl rfl ?_
      exact EL_nil (thn_n (n9 ((w64 (j0 + (1 : Int)))) _ _ ⟨xA, hfr, b9, c9, d9, e9, g9, i9, a7, b7, rfl⟩ h))
   ·rintro _ oB jC ⟨kC, hfr⟩ h
    refine E_seq (E_region (EL_at (.slice none 0 0) rfl rfl ?_))
    refine EL_at (.bool false) rfl rfl ?_
    refine EL_nil (thn_n (E_ret ?_))
    obtain rfl := sinj h
    exact end2 rfl rfl (show _ = .slice none 0 0 from rfl) (show _ = .bool false from rfl) ⟨_, hfr, _, _, rfl, RV_nil, rfl⟩
/-- (griffe/loom.mill).together -/
def f51 (x0 : LoomLoomMill) (x1 : List Int) (x2 : List (Int × LoomRun)) : Option ((List Bool)) :=
 (shl64 (1 : Int) (((x0).orders).length : Int)).bind fun y4 =>
 (mks 1 (false : Bool) y4).bind fun y5 =>
 (idx y5 (0 : Int)).bind fun xE =>
 Option.bind (α := (List Bool)) (
  lp (σ := (List Bool) × Int) (fun rA (c5, c4) =>
   bif (decide (c4 < ((x1).length : Int))) then
    Option.bind (α := (List Bool)) (
     (idx x1 c4).bind fun u6 =>
     (f83 x0 u6 x2).bind fun j4 =>
     (mks 1 (false : Bool) (((c5).length : Int))).bind fun p5 =>
     Option.bind (α := (List Bool)) (
      lp (σ := (List Bool) × Int) (fun sA (k6, j0) =>
       bif (decide (j0 < ((p5).length : Int))) then
        Option.bind (α := (List Bool)) (
         (f84 j0).bind fun t8 =>
         (t8 ((List Bool)) (fun n4 i4 =>
          (idx n4 j0).bind fun n5 =>
          bif n5 then
           (idx n4 j0).bind fun zC =>
           some (true, ((List.set n4 (Int.toNat j0) true)))
          else
           (idx j4 i4).bind fun x5 =>
           bif x5 then
            (idx c5 (bit64 .andNot j0 i4)).bind fun n6 =>
            (idx n4 j0).bind fun aD =>
            some (true, ((List.set n4 (Int.toNat j0) n6)))
           else
            (idx n4 j0).bind fun bD =>
            some (true, ((List.set n4 (Int.toNat j0) false)))
          ) (k6)).bind fun n7 =>
         some (n7)
         ) fun l6 =>
        sA (l6, (w64 (j0 + (1 : Int))))
       else
        some (k6)
       ) big (p5, (0 : Int))
      ) fun p6 =>
     some (p6)
     ) fun o6 =>
    rA (o6, (w64 (c4 + (1 : Int))))
   else
    some (c5)
   ) big ((List.set y5 (Int.toNat (0 : Int)) true), (0 : Int))
  ) fun y6 =>
 some (y6)
theorem en51 : Enters Try.prog 51 := enters_of Try.func51 (by kernel_rfl) rfl
theorem wk51 {gI : Gh} {wI : World} {x0 : LoomLoomMill} {x1 : List Int} {x2 : List (Int × LoomRun)} {up0 : Value} (rp0 : RV gI.m wI x0 up0) {up1 : Value} (rp1 : RV gI.m wI x1 up1) {up2 : Value} (mq2 : MR (Value.int .i64) gI wI x2 up2) {r : (List Bool)} (h : f51 x0 x1 x2 = some r) : Fn Try.prog 51 #[up0, up1, up2] gI wI (fun m w v => RV m w (r) v) := by
 unfold f51 at h
 refine fnD_of_E Try.func51 rfl (Nat.le_of_ble_eq_true rfl) fun g0 hm hfr => ?_
 have hmk : MkF g0 wI [] := MkF.start
 have rp0 : RV g0.m wI x0 up0 := hm ▸ rp0
 have rp1 : RV g0.m wI x1 up1 := hm ▸ rp1
 have mq2 := MQ.enter mq2 hm hfr
 show E _ 67 none _ _ _ _ _
 refine E_seq (E_region (EL_do .plain rfl (D_box (g := g0) rfl rp0 fun g1 w1 p1 hs q1 => ?_)))
 have hfr := hfr.ext hs
 have hmk := hmk.ext hs
 have rp1 := rp1.ext hs
 have mq2 := mq2.ext hs
 refine EL_at (.slice none 0 0) rfl rfl ?_
 refine EL_nil (thn_n (E_seq (E_region (EL_pur (v := fPtr p1 2) (P_fieldAddr at_96_1 rfl (PT.ptr q1)) .plain rfl ?_))))
 have q2 := PT_field (part_LoomLoomMill_1).1 q1
 refine EL_do .plain rfl (D_load (g := g1) Try.isAgg25 Try.sizeOf25 rfl q2 fun v3 r3 => ?_)
 refine EL_pur (v := .int .i64 (((x0).orders).length : Int)) (P_len Try.underlying25 rfl r3) .plain rfl ?_
 obtain ⟨y4, yE, h⟩ := bsome h
 refine EL_pur (v := .int .i64 (y4)) (P_int rfl rfl (congrArg (Option.map (Value.int .i64)) yE)) .plain rfl ?_
 obtain ⟨y5, zE, h⟩ := bsome h
 refine EL_do .plain rfl (D_makeSliceM (g := g1) 9018 (false : Bool) rfl Try.underlying101 info_4 rfl (fun _ _ => rfl) rfl rfl zE fun g6 w6 v6 hs b6 => ?_)
 have hfr := hfr.stp hs
 have hmk := hmk.stp hs
 have rp1 := rp1.stp hs
 have mq2 := mq2.stp hs
 have q1 := q1.stp hs
 refine EL_do .plain rfl (D_allocOc (g := g6) 2007 (⟨.slice none 0 0, rfl⟩ : Fv) Try.zeroValue101 (fun _ _ => fv0_rep) fun g7 w7 p7 hs b7 cb => ?_)
 clear cb
 have hfr := hfr.stp hs
 have hmk := hmk.stp hs
 have rp1 := rp1.stp hs
 have mq2 := mq2.stp hs
 have q1 := q1.stp hs
 have b6 := b6.stp hs rfl
 have z7 : OA 4007 g7 w7 4 ([] : List Bool) (.slice none 0 0) := OA.nil
 have on8 := om_one b6
 refine EL_do .plain rfl (D_storeOc (g := g7) (v := v6) (a' := (⟨v6, on8⟩ : Fv)) Try.sizeOf101 rfl b7 rfl (RV_fv.2 rfl) fun g8 w8 hs b8 cb => ?_)
 clear cb
 have hfr := hfr.stp hs
 have hmk := hmk.stp hs
 have rp1 := rp1.stp hs
 have mq2 := mq2.stp hs
 have q1 := q1.stp hs
 have b6 := b6.stp hs rfl
 refine EL_nil (thn_n (E_seq (E_region (EL_do .plain rfl (D_loadO (α := Fv) (g := g8) Try.isAgg101 Try.sizeOf101 rfl b8 fun v9 r9 => ?_)))))
 have e9 : v9 = v6 := RV_fv.1 r9
 clear r9
 subst v9
 obtain ⟨xE, nC, h⟩ := bsome h
 refine EL_pur (v := ePtr v6 (0 : Int) 1) (P_indexAddrM (α := Bool) Try.underlying101 Try.sizeOf4 rfl b6 rfl nC) .plain rfl ?_
 refine EL_do .plain rfl (D_storeM (g := g8) (α := Bool) (a' := true) Try.sizeOf4 rfl b6 nC rfl (RV_bool.2 rfl) fun tG uG hs b11 => ?_)
 have hfr := hfr.stp hs
 have hmk := hmk.stp hs
 have rp1 := rp1.stp hs
 have mq2 := mq2.stp hs
 have q1 := q1.stp hs
 have b8 := b8.stp hs rfl
 refine EL_nil (thn_n ?_)
 obtain ⟨y6, hx, h⟩ := bsome h
 refine E_joinD (fun e ds w => ∃ (g : Gh) , Fr gI wI g w ∧ MkF g w ds ∧ e 7 = p7 ∧ OB 2007 g w 101 (y6 : List Bool) p7) (fun Q' hQ => ?_) (fun aF pE kF hR => ?_)
 ·replace h := hx
  clear hx
  refine E_seq (E_region (EL_mw up1 rfl rfl ?_))
  refine EL_pur (v := .int .i64 ((x1).length : Int)) (P_len Try.underlying22 rfl rp1) .plain rfl ?_
  refine EL_mw (.int .i64 (0)) rfl rfl ?_
  refine EL_nil (thn_n (E_block ?_))
  obtain ⟨gp2345, hs, rp2345⟩ := OM.pub b11
  have hfr := hfr.stp hs
  have hmk := hmk.stp hs
  have rp1 := rp1.stp hs
  have mq2 := mq2.stp hs
  have q1 := q1.stp hs
  have b8 := b8.stp hs rfl
  have ub2345 := OB.ofRV b8 rp2345
  refine E_lpD h (fun (s : (List Bool) × Int) e ds w => ∃ (g : Gh) , Fr gI wI g w ∧ MkF g w ds ∧ e 2 = up2 ∧ MQ (Value.int .i64) wI.heap.size g w (x2 : List (Int × LoomRun)) up2 ∧ e 3 = p1 ∧ PT g.m w (x0 : LoomLoomMill) p1 ∧ e 7 = p7 ∧ OB 2007 g w 101 (s.1 : List Bool) p7 ∧ e 21 = up1 ∧ RV g.m w (x1 : List Int) up1 ∧ e 22 = .int .i64 (((x1).length : Int)) ∧ e 23 = .int .i64 (s.2)) ⟨gp2345, hfr, hmk, rfl, mq2, rfl, q1, rfl, ub2345, rfl, rp1, rfl, rfl⟩ (fun X2346 rA oC => ?_)
  rintro ⟨c5, c4⟩ bF qE tA ⟨e7, hfr, hmk, m8, q5, n8, t5, a7, o5, o7, d5, q7, q6⟩ h
  refine E_seq (E_region (EL_in (.bool ((decide (c4 < ((x1).length : Int))))) q6 q7 rfl rfl ?_))
  refine EL_nil (thn_n (E_seq ?_))
  rcases csome h with ⟨t7, h⟩ | ⟨t7, h⟩
  ·refine E_ct t7 rfl ?_
   refine E_skip (thn_n ?_)
   obtain ⟨o6, hx, h⟩ := bsome h
   refine E_joinD (fun e ds w => ∃ (g : Gh) , Fr gI wI g w ∧ MkF g w ds ∧ e 2 = up2 ∧ MQ (Value.int .i64) wI.heap.size g w (x2 : List (Int × LoomRun)) up2 ∧ e 3 = p1 ∧ PT g.m w (x0 : LoomLoomMill) p1 ∧ e 7 = p7 ∧ OB 2007 g w 101 (o6 : List Bool) p7 ∧ e 21 = up1 ∧ RV g.m w (x1 : List Int) up1 ∧ e 22 = .int .i64 (((x1).length : Int)) ∧ e 23 = .int .i64 (c4)) (fun Q' hQ => ?_) (fun cF rE lF hR => ?_)
   ·replace h := hx
    clear hx
    refine E_block ?_
    refine E_seq (E_region ?_)
    obtain ⟨u6, y8, h⟩ := bsome h
    refine EL_pur (v := ePtr up1 c4 1) (P_indexAddr (α := Int) Try.underlying22 Try.sizeOf3 o7 d5 q6 y8) .plain rfl ?_
    have cD := PT_idx d5 y8
    refine EL_do .plain rfl (D_load (g := e7) Try.isAgg3 Try.sizeOf3 rfl cD fun mF dD => ?_)
    obtain rfl := RV_int.1 dD
    refine EL_at (.int .i64 (u6)) rfl rfl ?_
    refine EL_nil (thn_n (E_seq (L_load (x := .tmp 3) Try.isAgg96 Try.sizeOf96 t5 fun uA eD pC => ?_)))
    obtain ⟨j4, qC, h⟩ := bsome h
    refine L_loadO0 (x := .tmp 7) Try.isAgg101 Try.sizeOf101 o5 fun gD iD rC => ?_
    obtain ⟨p5, sC, h⟩ := bsome h
    have z3523 : OA 4011 e7 tA 4 ([] : List Bool) (.slice none 0 0) := OA.nil
    refine E_drawV (g := e7) (w := tA) (i := 2010) (t2 := 101) (a0 := ([] : List Bool)) (a1 := (j4 : List Bool)) (n := 10) [(3, (fun _ v g w => RV g.m w j4 v)), (6, (fun _ v g w => OM 9033 g w 4 p5 v)), (7, (fun _ v => varA 2010 101 ([] : List Bool) (j4 : List Bool) v)), (8, (fun _ v g w => OB 2011 g w 101 (⟨.slice none 0 0, rfl⟩ : Fv) v)), (9, (fun e _ g w => OB 2010 g w 101 (j4 : List Bool) (ev e (.tmp 10))))] [0, 1, 2, 3, 4, 5, 6, 7, 8, 9] rfl mixed (by kernel_rfl) (⟨fun _ _ => upV_rv, fun _ _ => upV_om, fun _ _ => up_var0, fun _ _ => upV_ob, fun _ _ => up_var1, trivial⟩) (⟨fun _ _ _ _ _ _ => rfl, fun _ _ _ _ _ _ => rfl, fun _ _ _ _ _ _ => rfl, fun _ _ _ _ _ _ => rfl, wok_store (A := fun p g w => OB 2010 g w 101 (j4 : List Bool) p) rfl, trivial⟩) ?_
    refine L_ld (c := uA) rfl rfl .plain (fun _ _ h => h.ch) pC n8 ?_
    refine L_pur (c := .int .i64 (u6)) rfl rfl .plain (fun _ _ hd => P_move rfl) ?_
    refine L_pur (c := up2) rfl rfl .plain (fun _ _ hd => P_move m8) ?_
    refine L_do (φ := fun v g w => RV g.m w j4 v) rfl rfl .plain (fun g w hd => D_call (g := g) (vs := [uA, .int .i64 (u6), up2]) en83 (.cons rfl (.cons rfl (.cons rfl .nil))) (wk83 (eD.stp hd.1) (q5.stp hd.1).r qC) fun g' w' v hs hr => ⟨g', var_ext hs, hr⟩) (fun vA hv => ?_)
    obtain ⟨_, _, _, rq3517⟩ := hv
    refine L_ld (c := gD) rfl rfl .plain (fun _ _ h => ⟨h.ch, fun b hb ho => h.block b hb (by rw [ho]; decide)⟩) rC a7 ?_
    refine L_pur (c := .int .i64 ((c5).length : Int)) rfl rfl .plain (fun _ _ hd => P_len Try.underlying101 rfl iD) ?_
    refine L_do (φ := fun v g w => OM 9033 g w 4 p5 v) rfl rfl .plain (fun g w hd => D_makeSliceX (g := g) 9033 (false : Bool) rfl Try.underlying101 info_4 rfl (fun _ _ => rfl) rfl rfl sC fun g' w' v hs b => ⟨g', var_ext hs, b⟩) (fun i7 hv => ?_)
    clear hv
    refine L_do (φ := fun v => varA 2010 101 ([] : List Bool) (j4 : List Bool) v) rfl rfl .plain (fun g w hd => D_allocX (g := g) 2010 ([] : List Bool) Try.zeroValue101 (fun m w => ⟨_, rep_nil, rfl⟩) fun g' w' v hs b => ⟨g', var_ext hs, .inl b⟩) (fun c6 hv => ?_)
    clear hv
    refine L_do (φ := fun v g w => OB 2011 g w 101 (⟨.slice none 0 0, rfl⟩ : Fv) v) rfl rfl .plain (fun g w hd => D_allocX (g := g) 2011 (⟨.slice none 0 0, rfl⟩ : Fv) Try.zeroValue101 (fun _ _ => fv0_rep) fun g' w' v hs b => ⟨g', var_ext hs, b⟩) (fun d6 hv => ?_)
    clear hv
    refine L_do (φ := fun _ g w => OB 2010 g w 101 (j4 : List Bool) c6) rfl rfl .plain (fun g w hd => D_storeV (g := g) Try.sizeOf101 rfl (word (A := varA 2010 101 ([] : List Bool) (j4 : List Bool) c6) 7 rfl rfl (deps_of hd)) rfl (word (A := fun g w => RV g.m w j4 vA) 3 rfl rfl (deps_of hd))) (fun nF hv => ?_)
    clear hv
    refine L_nil fun jD oF hall => ?_
    have hs := hall.1
    have hfr := hfr.stp hs
    have hmk := hmk.stp hs
    have q5 := q5.stp hs
    have t5 := t5.stp hs
    have o5 := o5.stp hs rfl
    have d5 := d5.stp hs
    have pF := (word_all (A := fun g w => RV g.m w j4 vA) 3 rfl hall)
    have b3542 := (word_all (A := fun g w => OM 9033 g w 4 p5 i7) 6 rfl hall)
    have b3543 := (word_all (A := fun g w => OB 2010 g w 101 (j4 : List Bool) c6) 9 rfl hall)
    have b3544 := (word_all (A := fun g w => OB 2011 g w 101 (⟨.slice none 0 0, rfl⟩ : Fv) d6) 8 rfl hall)
    clear hs hall
    have on3546 := om_one b3542
    refine EL_do .plain rfl (D_storeOc (g := jD) (v := i7) (a' := (⟨i7, on3546⟩ : Fv)) Try.sizeOf101 rfl b3544 rfl (RV_fv.2 rfl) fun xA qF hs b3546 cb => ?_)
    clear cb
    have hfr := hfr.stp hs
    have hmk := hmk.stp hs
    have q5 := q5.stp hs
    have t5 := t5.stp hs
    have o5 := o5.stp hs rfl
    have d5 := d5.stp hs
    have b3542 := b3542.stp hs rfl
    have b3543 := b3543.stp hs rfl
    refine EL_nil (thn_n ?_)
    obtain ⟨p6, hx, h⟩ := bsome h
    refine E_joinD (fun e ds w => ∃ (g : Gh) , Fr gI wI g w ∧ MkF g w ds ∧ e 2 = up2 ∧ MQ (Value.int .i64) wI.heap.size g w (x2 : List (Int × LoomRun)) up2 ∧ e 3 = p1 ∧ PT g.m w (x0 : LoomLoomMill) p1 ∧ e 7 = p7 ∧ OB 2007 g w 101 (c5 : List Bool) p7 ∧ e 11 = d6 ∧ BX 2011 9033 g w 4 101 (p6 : List Bool) d6 ∧ e 21 = up1 ∧ RV g.m w (x1 : List Int) up1 ∧ e 22 = .int .i64 (((x1).length : Int)) ∧ e 23 = .int .i64 (c4)) (fun Q' hQ => ?_) (fun dF sE rF hR => ?_)
    ·replace h := hx
     clear hx
     refine E_seq (E_region (EL_do .plain rfl (D_loadO (α := Fv) (g := xA) Try.isAgg101 Try.sizeOf101 rfl b3546 fun yA zA => ?_)))
     have e4110 : yA = i7 := RV_fv.1 zA
     clear zA
     subst yA
     refine EL_pur (v := .int .i64 ((p5).length : Int)) (P_lenM Try.underlying101 rfl b3542) .plain rfl ?_
     refine EL_mw (.int .i64 (0)) rfl rfl ?_
     refine EL_nil (thn_n (E_block ?_))
     refine E_lpD h (fun (s : (List Bool) × Int) e ds w => ∃ (g : Gh) , Fr gI wI g w ∧ MkF g w ds ∧ e 2 = up2 ∧ MQ (Value.int .i64) wI.heap.size g w (x2 : List (Int × LoomRun)) up2 ∧ e 3 = p1 ∧ PT g.m w (x0 : LoomLoomMill) p1 ∧ e 7 = p7 ∧ OB 2007 g w 101 (c5 : List Bool) p7 ∧ e 10 = c6 ∧ OB 2010 g w 101 (j4 : List Bool) c6 ∧ e 11 = d6 ∧ BX 2011 9033 g w 4 101 (s.1 : List Bool) d6 ∧ e 21 = up1 ∧ RV g.m w (x1 : List Int) up1 ∧ e 22 = .int .i64 (((x1).length : Int)) ∧ e 23 = .int .i64 (c4) ∧ e 35 = .int .i64 (((p5).length : Int)) ∧ e 36 = .int .i64 (s.2)) ⟨xA, hfr, hmk, m8, q5, n8, t5, a7, o5, rfl, b3543, rfl, ⟨_, b3546, b3542⟩, o7, d5, q7, q6, rfl, rfl⟩ (fun X4111 sA tC => ?_)
     rintro ⟨k6, j0⟩ eF o8 sF ⟨aB, hfr, hmk, p8, j5, q8, l5, c7, m5, r6, i5, o4, ⟨kE, p4, u4⟩, u7, x4, v7, x7, y7, t6⟩ h
     refine E_seq (E_region (EL_in (.bool ((decide (j0 < ((p5).length : Int))))) t6 y7 rfl rfl ?_))
     refine EL_nil (thn_n (E_seq ?_))
     rcases csome h with ⟨a8, h⟩ | ⟨a8, h⟩
     ·refine E_ct a8 rfl ?_
      refine E_skip (thn_n ?_)
      obtain ⟨l6, hx, h⟩ := bsome h
      refine E_joinD (fun e ds w => ∃ (g : Gh) , Fr gI wI g w ∧ MkF g w ds ∧ e 2 = up2 ∧ MQ (Value.int .i64) wI.heap.size g w (x2 : List (Int × LoomRun)) up2 ∧ e 3 = p1 ∧ PT g.m w (x0 : LoomLoomMill) p1 ∧ e 7 = p7 ∧ OB 2007 g w 101 (c5 : List Bool) p7 ∧ e 10 = c6 ∧ OB 2010 g w 101 (j4 : List Bool) c6 ∧ e 11 = d6 ∧ BX 2011 9033 g w 4 101 (l6 : List Bool) d6 ∧ e 21 = up1 ∧ RV g.m w (x1 : List Int) up1 ∧ e 22 = .int .i64 (((x1).length : Int)) ∧ e 23 = .int .i64 (c4) ∧ e 35 = .int .i64 (((p5).length : Int)) ∧ e 36 = .int .i64 (j0)) (fun Q' hQ => ?_) (fun gF tE tF hR => ?_)
      ·replace h := hx
       clear hx
       refine E_block ?_
       refine E_seq (E_region (EL_mv t6 rfl ?_))
       refine EL_do .plain rfl (D_allocOc (g := aB) 2012 (0 : Int) Try.zeroValue3 (fun m w => ⟨_, rep_int, rfl⟩) fun kD uF lD hs b4393 cb => ?_)
       have hfr := hfr.stp hs
       have hmk := hmk.stp hs
       have j5 := j5.stp hs
       have l5 := l5.stp hs
       have m5 := m5.stp hs rfl
       have i5 := i5.stp hs rfl
       have p4 := p4.stp hs rfl
       have u4 := u4.stp hs rfl
       have x4 := x4.stp hs
       clear cb
       refine EL_do .plain rfl (D_storeOc (g := kD) (v := .int .i64 (j0)) Try.sizeOf3 rfl b4393 rfl (RV_int.2 rfl) fun bB vF hs b4394 cb => ?_)
       clear cb
       have hfr := hfr.stp hs
       have hmk := hmk.stp hs
       have j5 := j5.stp hs
       have l5 := l5.stp hs
       have m5 := m5.stp hs rfl
       have i5 := i5.stp hs rfl
       have p4 := p4.stp hs rfl
       have u4 := u4.stp hs rfl
       have x4 := x4.stp hs
       refine EL_nil (thn_n (E_seq (E_region (EL_do .plain rfl (D_loadO (g := bB) Try.isAgg3 Try.sizeOf3 rfl b4394 fun xF mD => ?_)))))
       obtain rfl := RV_int.1 mD
       obtain ⟨t8, uC, h⟩ := bsome h
       refine EL_do .plain rfl (D_call (g := bB) (vs := [.int .i64 (j0)]) en84 (.cons rfl .nil) (wk84  uC) fun yF iF nD hs hr => ?_)
       have hfr := hfr.ext hs
       have hmk := hmk.ext hs
       have j5 := j5.ext hs
       have l5 := l5.ext hs
       have m5 := m5.ext hs
       have i5 := i5.ext hs
       have p4 := p4.ext hs
       have u4 := u4.ext hs
       have x4 := x4.ext hs
       have b4394 := b4394.ext hs
       have cB := hr
       refine EL_nil (thn_n (E_block ?_))
       have hB0 := hfr.size
       have hmk0 := hmk
       obtain ⟨n7, hφ, h⟩ := bsome h
       refine E_rangeFunc (σ := ((List Bool))) (s0 := (k6)) 10 rfl (fun _ => 0) [] (fun (s : (List Bool)) (g : Gh) (w : World) => Fr gI wI g w ∧ MkF g w o8 ∧ MQ (Value.int .i64) wI.heap.size g w (x2 : List (Int × LoomRun)) up2 ∧ PT g.m w (x0 : LoomLoomMill) p1 ∧ OB 2007 g w 101 (c5 : List Bool) p7 ∧ OB 2010 g w 101 (j4 : List Bool) c6 ∧ BX 2011 9033 g w 4 101 (s : List Bool) d6 ∧ OB 2012 g w 3 (j0 : Int) lD ∧ RV g.m w (x1 : List Int) up1 ∧ ItV Try.prog (RA1 (α := Int)) t8 nD g.m w) rfl cB hφ (fun _ _ _ _ => rfl) rfl ra1_size rfl (fun _ _ _ _ _ hx hR => by obtain ⟨hfr, hmk, z2, z3, z4, z5, z6, z7, z8, z9⟩ := hR; exact ⟨hfr.ist hx hB0, hmk.ist hx, z2.ist hx hB0, z3.ist hx, z4.ist hx, z5.ist hx, z6.ist hx, z7.ist hx, z8.ist hx, z9.ist hx⟩) (fun _ _ _ _ _ hx hR => by obtain ⟨hfr, hmk, z2, z3, z4, z5, z6, z7, z8, z9⟩ := hR; exact ⟨hfr.stp hx, hmk.stp hx, z2.stp hx, z3.stp hx, z4.stp hx rfl, z5.stp hx rfl, z6.stp hx rfl, z7.stp hx rfl, z8.stp hx, z9.stp hx⟩) ⟨hfr, hmk, j5, l5, m5, i5, ⟨_, p4, u4⟩, b4394, x4, cB⟩ (fun _ h => by cases h) ?_ ?_
       ·intro jF uE s x b s2 j7 oD vs hsz h hR hrec_0 j9 hrd
        obtain ⟨n4, hse⟩ : ∃ y, y = s := ⟨s, rfl⟩
        subst hse
        obtain ⟨hfr, hmk, o3, p3, j3, j1, ⟨u3, u0, z1⟩, o0, j2, d3⟩ := hR
        obtain ⟨i4, hxe⟩ : ∃ y, y = x := ⟨x, rfl⟩
        subst hxe
        obtain ⟨pB, rfl, k9⟩ := ra1_get hrd
        obtain rfl : pB = .int .i64 (i4) := RV_int.1 k9
        have m4 := RFr.refl j7 oD
        refine E_region (EL_at (.int .i64 (i4)) rfl rfl ?_)
        refine EL_nil (thn_n ?_)
        obtain ⟨pD, hbr, hs, hrN⟩ := begin_round hrec_0 j9
        refine ⟨pD, hbr, ?_⟩
        have hfr := hfr.stp hs
        have hmk := hmk.stp hs
        have m4 := m4.stp hs
        have o3 := o3.stp hs
        have p3 := p3.stp hs
        have j3 := j3.stp hs rfl
        have j1 := j1.stp hs rfl
        have u0 := u0.stp hs rfl
        have z1 := z1.stp hs rfl
        have o0 := o0.stp hs rfl
        have j2 := j2.stp hs
        have d3 := d3.stp hs
        have hrec_0 := hrN
        clear hbr hs hrN
        refine E_block ?_
        refine L_loadO0 (α := Fv) (x := .tmp 11) Try.isAgg101 Try.sizeOf101 u0 fun dB eB c8 => ?_
        have e4536 : dB = u3.v := RV_fv.1 eB
        clear eB
        subst dB
        refine L_loadO0 (x := .tmp 12) Try.isAgg3 Try.sizeOf3 o0 fun zF qD d8 => ?_
        obtain rfl := RV_int.1 qD
        refine L_loadO0 (α := Fv) (x := .tmp 11) Try.isAgg101 Try.sizeOf101 u0 fun iB jB e8 => ?_
        have e4538 : iB = u3.v := RV_fv.1 jB
        clear jB
        subst iB
        refine L_loadO0 (x := .tmp 12) Try.isAgg3 Try.sizeOf3 o0 fun aG rD i8 => ?_
        obtain rfl := RV_int.1 rD
        obtain ⟨n5, x6, h⟩ := bsome h
        refine L_loadM (x := .tmp 46) Try.isAgg4 Try.sizeOf4 z1 x6 fun bG sD j8 => ?_
        obtain rfl := RV_bool.1 sD
        rcases csome h with ⟨i3, h⟩ | ⟨i3, h⟩
        ·obtain ⟨zC, a9, h⟩ := bsome h
         refine E_drawL (g := j7) (n := 21) [] [0, 1, 2, 3, 4, 5, 6, 7, 8, 9, 10, 11, 12, 13, 14, 15, 16, 17, 18, 19, 20] rfl mixed (by kernel_rfl) trivial ?_
         refine L_ld (c := u3.v) rfl rfl .plain (fun _ _ h => ⟨h.ch, fun b hb _ => h.below.block b hb⟩) c8 o4 ?_
         refine L_ld (c := .int .i64 (j0)) rfl rfl .plain (fun _ _ h => ⟨h.ch, fun b hb _ => h.below.block b hb⟩) d8 rfl ?_
         refine L_ld (c := u3.v) rfl rfl .plain (fun _ _ h => ⟨h.ch, fun b hb _ => h.below.block b hb⟩) e8 o4 ?_
         refine L_ld (c := .int .i64 (j0)) rfl rfl .plain (fun _ _ h => ⟨h.ch, fun b hb _ => h.below.block b hb⟩) i8 rfl ?_
         refine L_pur (c := ePtr (u3.v) j0 1) rfl rfl .plain (fun _ _ hd => P_indexAddrM (α := Bool) Try.underlying101 Try.sizeOf4 rfl z1 rfl x6) ?_
         refine L_ld (c := .bool (n5)) rfl rfl .plain (fun _ _ h => ⟨h.ch, fun b hb _ => h.below.block b hb⟩) j8 rfl ?_
         refine L_pur (c := .bool (n5)) rfl rfl .plain (fun _ _ hd => P_move rfl) ?_
         refine L_skip rfl (.no2 rfl rfl i3 rfl) ?_
         refine L_skip rfl (.no2 rfl rfl i3 rfl) ?_
         refine L_skip rfl (.no2 rfl rfl i3 rfl) ?_
         refine L_skip rfl (.no2 rfl rfl i3 rfl) ?_
         refine L_skip rfl (.no2 rfl rfl i3 rfl) ?_
         refine L_dead (fun _ => rfl) 6 rfl ?_
         refine L_skip rfl (.no2 rfl rfl i3 rfl) ?_
         refine L_pur (c := .bool true) rfl rfl .plain (fun _ _ hd => P_pick (b := n5) rfl (pick_t i3 rfl)) ?_
         refine L_pur (c := ePtr (u3.v) j0 1) rfl rfl .plain (fun _ _ hd => P_indexAddrM (α := Bool) Try.underlying101 Try.sizeOf4 rfl z1 rfl a9) ?_
         refine L_nil fun tD cG hall => ?_
         have hs := hall.1
         have hfr := hfr.ext hs
         have hmk := hmk.ext hs
         have m4 := m4.ext hs
         have hrec_0 := hrec_0.ext hs
         have o3 := o3.ext hs
         have p3 := p3.ext hs
         have j3 := j3.ext hs
         have j1 := j1.ext hs
         have u0 := u0.ext hs
         have z1 := z1.ext hs
         have o0 := o0.ext hs
         have j2 := j2.ext hs
         have d3 := d3.ext hs
         clear hs hall
         refine EL_do .plain rfl (D_storeM (g := tD) (α := Bool) (a' := true) Try.sizeOf4 rfl z1 a9 rfl (RV_bool.2 rfl) fun dG eG hs b4581 => ?_)
         have hfr := hfr.stp hs
         have hmk := hmk.stp hs
         have m4 := m4.stp hs
         have hrec_0 := hrec_0.stp hs rfl
         have o3 := o3.stp hs
         have p3 := p3.stp hs
         have j3 := j3.stp hs rfl
         have j1 := j1.stp hs rfl
         have u0 := u0.stp hs rfl
         have o0 := o0.stp hs rfl
         have j2 := j2.stp hs
         have d3 := d3.stp hs
         refine EL_nil (blk_n ?_)
         obtain ⟨rfl, rfl⟩ := pairs2 h
         exact ⟨_, m4, ⟨hfr, hmk, o3, p3, j3, j1, ⟨_, u0, b4581⟩, o0, j2, d3⟩, hrec_0, rfl, rfl⟩
        ·refine L_loadO0 (x := .tmp 10) Try.isAgg101 Try.sizeOf101 j1 fun m7 v8 b9 => ?_
         obtain ⟨x5, k8, h⟩ := bsome h
         have uD := PT_idx v8 k8
         refine L_load (x := .tmp 51) Try.isAgg4 Try.sizeOf4 uD fun gG vD c9 => ?_
         obtain rfl := RV_bool.1 vD
         rcases csome h with ⟨d4, h⟩ | ⟨d4, h⟩
         ·refine L_loadO0 (x := .tmp 7) Try.isAgg101 Try.sizeOf101 j3 fun kB lB vC => ?_
          refine L_loadO0 (x := .tmp 12) Try.isAgg3 Try.sizeOf3 o0 fun hG xD xC => ?_
          obtain rfl := RV_int.1 xD
          obtain ⟨n6, d9, h⟩ := bsome h
          have yD := PT_idx lB d9
          refine L_load (x := .tmp 58) Try.isAgg4 Try.sizeOf4 yD fun iG zD yC => ?_
          obtain rfl := RV_bool.1 zD
          obtain ⟨aD, g9, h⟩ := bsome h
          refine E_drawL (g := j7) (n := 21) [] [0, 1, 2, 3, 4, 5, 6, 7, 8, 9, 10, 11, 12, 13, 14, 15, 16, 17, 18, 19, 20] rfl mixed (by kernel_rfl) trivial ?_
          refine L_ld (c := u3.v) rfl rfl .plain (fun _ _ h => ⟨h.ch, fun b hb _ => h.below.block b hb⟩) c8 o4 ?_
          refine L_ld (c := .int .i64 (j0)) rfl rfl .plain (fun _ _ h => ⟨h.ch, fun b hb _ => h.below.block b hb⟩) d8 rfl ?_
          refine L_ld (c := u3.v) rfl rfl .plain (fun _ _ h => ⟨h.ch, fun b hb _ => h.below.block b hb⟩) e8 o4 ?_
          refine L_ld (c := .int .i64 (j0)) rfl rfl .plain (fun _ _ h => ⟨h.ch, fun b hb _ => h.below.block b hb⟩) i8 rfl ?_
          refine L_pur (c := ePtr (u3.v) j0 1) rfl rfl .plain (fun _ _ hd => P_indexAddrM (α := Bool) Try.underlying101 Try.sizeOf4 rfl z1 rfl x6) ?_
          refine L_ld (c := .bool (n5)) rfl rfl .plain (fun _ _ h => ⟨h.ch, fun b hb _ => h.below.block b hb⟩) j8 rfl ?_
          refine L_pur (c := .bool (n5)) rfl rfl .plain (fun _ _ hd => P_move rfl) ?_
          refine L_ld (c := m7) rfl rfl (.yes2 rfl rfl i3) (fun _ _ h => ⟨h.ch, fun b hb _ => h.below.block b hb⟩) b9 r6 ?_
          refine L_pur (c := .int .i64 (i4)) rfl rfl (.yes2 rfl rfl i3) (fun _ _ hd => P_move rfl) ?_
          refine L_pur (c := ePtr m7 i4 1) rfl rfl (.yes2 rfl rfl i3) (fun _ _ hd => P_indexAddr (α := Bool) Try.underlying101 Try.sizeOf4 rfl v8 rfl k8) ?_
          refine L_ld (c := .bool (x5)) rfl rfl (.yes2 rfl rfl i3) (fun _ _ h => h.ch) c9 rfl ?_
          refine L_pur (c := .bool (x5)) rfl rfl (.yes2 rfl rfl i3) (fun _ _ hd => P_move rfl) ?_
          refine L_ld (c := kB) rfl rfl (.yes2 rfl rfl d4) (fun _ _ h => ⟨h.ch, fun b hb _ => h.below.block b hb⟩) vC c7 ?_
          refine L_ld (c := .int .i64 (j0)) rfl rfl (.yes2 rfl rfl d4) (fun _ _ h => ⟨h.ch, fun b hb _ => h.below.block b hb⟩) xC rfl ?_
          refine L_pur (c := .int .i64 (i4)) rfl rfl (.yes2 rfl rfl d4) (fun _ _ hd => P_move rfl) ?_
          refine L_pur (c := .int .i64 ((bit64 .andNot j0 i4))) rfl rfl (.yes2 rfl rfl d4) (fun _ _ hd => P_int rfl rfl rfl) ?_
          refine L_pur (c := ePtr kB (bit64 .andNot j0 i4) 1) rfl rfl (.yes2 rfl rfl d4) (fun _ _ hd => P_indexAddr (α := Bool) Try.underlying101 Try.sizeOf4 rfl lB rfl d9) ?_
          refine L_ld (c := .bool (n6)) rfl rfl (.yes2 rfl rfl d4) (fun _ _ h => h.ch) yC rfl ?_
          refine L_pur (c := .bool (n6)) rfl rfl (.yes2 rfl rfl i3) (fun _ _ hd => P_pick (b := x5) rfl (pick_t d4 rfl)) ?_
          refine L_pur (c := .bool (n6)) rfl rfl .plain (fun _ _ hd => P_pick (b := n5) rfl (pick_f i3 rfl)) ?_
          refine L_pur (c := ePtr (u3.v) j0 1) rfl rfl .plain (fun _ _ hd => P_indexAddrM (α := Bool) Try.underlying101 Try.sizeOf4 rfl z1 rfl g9) ?_
          refine L_nil fun aE jG hall => ?_
          have hs := hall.1
          have hfr := hfr.ext hs
          have hmk := hmk.ext hs
          have m4 := m4.ext hs
          have hrec_0 := hrec_0.ext hs
          have o3 := o3.ext hs
          have p3 := p3.ext hs
          have j3 := j3.ext hs
          have j1 := j1.ext hs
          have u0 := u0.ext hs
          have z1 := z1.ext hs
          have o0 := o0.ext hs
          have j2 := j2.ext hs
          have d3 := d3.ext hs
          clear hs hall
          refine EL_do .plain rfl (D_storeM (g := aE) (α := Bool) (a' := n6) Try.sizeOf4 rfl z1 g9 rfl (RV_bool.2 rfl) fun kG lG hs b4630 => ?_)
          have hfr := hfr.stp hs
          have hmk := hmk.stp hs
          have m4 := m4.stp hs
          have hrec_0 := hrec_0.stp hs rfl
          have o3 := o3.stp hs
          have p3 := p3.stp hs
          have j3 := j3.stp hs rfl
          have j1 := j1.stp hs rfl
          have u0 := u0.stp hs rfl
          have o0 := o0.stp hs rfl
          have j2 := j2.stp hs
          have d3 := d3.stp hs
          refine EL_nil (blk_n ?_)
          obtain ⟨rfl, rfl⟩ := pairs2 h
          exact ⟨_, m4, ⟨hfr, hmk, o3, p3, j3, j1, ⟨_, u0, b4630⟩, o0, j2, d3⟩, hrec_0, rfl, rfl⟩
         ·obtain ⟨bD, i9, h⟩ := bsome h
          refine E_drawL (g := j7) (n := 21) [] [0, 1, 2, 3, 4, 5, 6, 7, 8, 9, 10, 11, 12, 13, 14, 15, 16, 17, 18, 19, 20] rfl mixed (by kernel_rfl) trivial ?_
          refine L_ld (c := u3.v) rfl rfl .plain (fun _ _ h => ⟨h.ch, fun b hb _ => h.below.block b hb⟩) c8 o4 ?_
          refine L_ld (c := .int .i64 (j0)) rfl rfl .plain (fun _ _ h => ⟨h.ch, fun b hb _ => h.below.block b hb⟩) d8 rfl ?_
          refine L_ld (c := u3.v) rfl rfl .plain (fun _ _ h => ⟨h.ch, fun b hb _ => h.below.block b hb⟩) e8 o4 ?_
          refine L_ld (c := .int .i64 (j0)) rfl rfl .plain (fun _ _ h => ⟨h.ch, fun b hb _ => h.below.block b hb⟩) i8 rfl ?_
          refine L_pur (c := ePtr (u3.v) j0 1) rfl rfl .plain (fun _ _ hd => P_indexAddrM (α := Bool) Try.underlying101 Try.sizeOf4 rfl z1 rfl x6) ?_
          refine L_ld (c := .bool (n5)) rfl rfl .plain (fun _ _ h => ⟨h.ch, fun b hb _ => h.below.block b hb⟩) j8 rfl ?_
          refine L_pur (c := .bool (n5)) rfl rfl .plain (fun _ _ hd => P_move rfl) ?_
          refine L_ld (c := m7) rfl rfl (.yes2 rfl rfl i3) (fun _ _ h => ⟨h.ch, fun b hb _ => h.below.block b hb⟩) b9 r6 ?_
          refine L_pur (c := .int .i64 (i4)) rfl rfl (.yes2 rfl rfl i3) (fun _ _ hd => P_move rfl) ?_
          refine L_pur (c := ePtr m7 i4 1) rfl rfl (.yes2 rfl rfl i3) (fun _ _ hd => P_indexAddr (α := Bool) Try.underlying101 Try.sizeOf4 rfl v8 rfl k8) ?_
          refine L_ld (c := .bool (x5)) rfl rfl (.yes2 rfl rfl i3) (fun _ _ h => h.ch) c9 rfl ?_
          refine L_pur (c := .bool (x5)) rfl rfl (.yes2 rfl rfl i3) (fun _ _ hd => P_move rfl) ?_
          refine L_skip rfl (.no2 rfl rfl d4 rfl) ?_
          refine L_skip rfl (.no2 rfl rfl d4 rfl) ?_
          refine L_skip rfl (.no2 rfl rfl d4 rfl) ?_
          refine L_skip rfl (.no2 rfl rfl d4 rfl) ?_
          refine L_skip rfl (.no2 rfl rfl d4 rfl) ?_
          refine L_skip rfl (.no2 rfl rfl d4 rfl) ?_
          refine L_pur (c := .bool false) rfl rfl (.yes2 rfl rfl i3) (fun _ _ hd => P_pick (b := x5) rfl (pick_f d4 rfl)) ?_
          refine L_pur (c := .bool false) rfl rfl .plain (fun _ _ hd => P_pick (b := n5) rfl (pick_f i3 rfl)) ?_
          refine L_pur (c := ePtr (u3.v) j0 1) rfl rfl .plain (fun _ _ hd => P_indexAddrM (α := Bool) Try.underlying101 Try.sizeOf4 rfl z1 rfl i9) ?_
          refine L_nil fun bE mG hall => ?_
          have hs := hall.1
          have hfr := hfr.ext hs
          have hmk := hmk.ext hs
          have m4 := m4.ext hs
          have hrec_0 := hrec_0.ext hs
          have o3 := o3.ext hs
          have p3 := p3.ext hs
          have j3 := j3.ext hs
          have j1 := j1.ext hs
          have u0 := u0.ext hs
          have z1 := z1.ext hs
          have o0 := o0.ext hs
          have j2 := j2.ext hs
          have d3 := d3.ext hs
          clear hs hall
          refine EL_do .plain rfl (D_storeM (g := bE) (α := Bool) (a' := false) Try.sizeOf4 rfl z1 i9 rfl (RV_bool.2 rfl) fun nG oG hs b4669 => ?_)
          have hfr := hfr.stp hs
          have hmk := hmk.stp hs
          have m4 := m4.stp hs
          have hrec_0 := hrec_0.stp hs rfl
          have o3 := o3.stp hs
          have p3 := p3.stp hs
          have j3 := j3.stp hs rfl
          have j1 := j1.stp hs rfl
          have u0 := u0.stp hs rfl
          have o0 := o0.stp hs rfl
          have j2 := j2.stp hs
          have d3 := d3.stp hs
          refine EL_nil (blk_n ?_)
          obtain ⟨rfl, rfl⟩ := pairs2 h
          exact ⟨_, m4, ⟨hfr, hmk, o3, p3, j3, j1, ⟨_, u0, b4669⟩, o0, j2, d3⟩, hrec_0, rfl, rfl⟩
       ·intro cE pG ds4671 hsz hR hds
        obtain ⟨hfr, hmk, qB, rB, sB, l9, ⟨lE, m9, n9⟩, mE, o9, nE⟩ := hR
        obtain ⟨D, hdse, hD, hDb⟩ := hds.1 rfl
        subst hdse
        replace hmk := MkF.push hmk0 hmk hD hDb
        clear hD hDb hds
        revert hmk
        generalize ({ target := .collected D, args := #[] } :: o8 : List Deferred) = vE
        intro hmk
        refine ⟨fun _ => ?_, fun k c hs _ => absurd hs (Nat.succ_ne_zero k).symm⟩
        refine blk_n (blk_n ?_)
        obtain rfl := sinj h
        exact hQ _ _ _ ⟨cE, hfr, hmk, p8, qB, q8, rB, c7, sB, r6, l9, o4, ⟨_, m9, n9⟩, u7, o9, v7, x7, y7, t6⟩
      ·clear hx
       obtain ⟨dE, hfr, hmk, tB, uB, vB, xB, yB, zB, p9, q9, t9, ⟨oE, u9, x9⟩, y9, bA, cA, dA, eA, gA⟩ := hR
       refine E_region (EL_in (.int .i64 ((w64 (j0 + (1 : Int))))) gA rfl rfl rfl ?_)
       refine EL_mw (.int .i64 ((w64 (j0 + (1 : Int))))) rfl rfl ?_
       exact EL_nil (thn_n (tC (l6, (w64 (j0 + (1 : Int)))) _ _ _ ⟨dE, hfr, hmk, tB, uB, vB, xB, yB, zB, p9, q9, t9, ⟨_, u9, x9⟩, y9, bA, cA, dA, eA, rfl⟩ h))
     ·refine E_cf a8 rfl ?_
      refine E_exit ?_
      refine thn_e ?_
      refine thn_e ?_
      refine blk_hit ?_
      obtain rfl := sinj h
      exact hQ _ _ _ ⟨aB, hfr, hmk, p8, j5, q8, l5, c7, m5, o4, ⟨_, p4, u4⟩, u7, x4, v7, x7⟩
    ·clear hx
     obtain ⟨eE, hfr, hmk, aC, i6, bC, j6, r8, d7, iA, ⟨l8, m6, jA⟩, kA, u5, lA, mA⟩ := hR
     refine E_region (EL_do .plain rfl (D_loadO (α := Fv) (g := eE) Try.isAgg101 Try.sizeOf101 iA m6 fun mB nB => ?_))
     have e4674 : mB = l8.v := RV_fv.1 nB
     clear nB
     subst mB
     obtain ⟨gp4676, hs, rp4676⟩ := OM.pub jA
     have hfr := hfr.stp hs
     have hmk := hmk.stp hs
     have i6 := i6.stp hs
     have j6 := j6.stp hs
     have d7 := d7.stp hs rfl
     have m6 := m6.stp hs rfl
     have u5 := u5.stp hs
     have ub4676 := OB.ofRV m6 rp4676
     refine EL_do .plain rfl (D_storeOc (g := gp4676) (v := l8.v) Try.sizeOf101 r8 d7 rfl rp4676 fun gE qG hs b4675 cb => ?_)
     clear cb
     have hfr := hfr.stp hs
     have hmk := hmk.stp hs
     have i6 := i6.stp hs
     have j6 := j6.stp hs
     have u5 := u5.stp hs
     refine EL_nil (blk_n ?_)
     obtain rfl := sinj h
     exact hQ _ _ _ ⟨gE, hfr, hmk, aC, i6, bC, j6, r8, b4675, kA, u5, lA, mA⟩
   ·clear hx
    obtain ⟨iE, hfr, hmk, cC, dC, eC, iC, jC, kC, nA, oA, pA, qA⟩ := hR
    refine E_region (EL_in (.int .i64 ((w64 (c4 + (1 : Int))))) qA rfl rfl rfl ?_)
    refine EL_mw (.int .i64 ((w64 (c4 + (1 : Int))))) rfl rfl ?_
    exact EL_nil (thn_n (oC (o6, (w64 (c4 + (1 : Int)))) _ _ _ ⟨iE, hfr, hmk, cC, dC, eC, iC, jC, kC, nA, oA, pA, rfl⟩ h))
  ·refine E_cf t7 rfl ?_
   refine E_exit ?_
   refine thn_e ?_
   refine thn_e ?_
   refine blk_hit ?_
   obtain rfl := sinj h
   exact hQ _ _ _ ⟨e7, hfr, hmk, a7, o5⟩
 ·clear hx
  obtain ⟨jE, hfr, hmk, lC, mC⟩ := hR
  refine E_seq (E_region (EL_do .plain rfl (D_loadO (g := jE) Try.isAgg101 Try.sizeOf101 lC mC fun oB x8 => ?_)))
  refine EL_at oB rfl rfl ?_
  refine EL_nil (thn_n (E_ret (endM (.inr rfl) hmk fun rG sG hs => ?_)))
  have hfr := hfr.stp hs
  have x8 := x8.stp hs
  obtain rfl := sinj h
  exact end1 rfl rfl (show _ = oB from rfl) ⟨_, hfr, x8⟩
/-- (griffe/loom.mill).next -/
def f54 (x0 : LoomLoomMill) (x1 : Int) (x2 : List (Int × LoomRun)) : Option (Bool × (List (Int × LoomRun))) :=
 (idx ((x0).orders) x1).bind fun y4 =>
 jn (σ := (List (Int × LoomRun))) (fun u5 =>
  some (false, u5)
  ) fun p6 =>
 lp (σ := (List (Int × LoomRun)) × Int) (fun q6 (i3, j0) =>
  jn (σ := Unit) (fun (_ : Unit) =>
   jn (σ := (List (Int × LoomRun))) (fun j4 =>
    q6 (j4, (w64 (j0 + (1 : Int))))
    ) fun t6 =>
   (f52 x0).bind fun d3 =>
   lp (σ := (List (Int × LoomRun)) × Int) (fun u6 (z1, o0) =>
    bif (decide (o0 < ((d3).length : Int))) then
     jn (σ := (List (Int × LoomRun))) (fun m4 =>
      u6 (m4, (w64 (o0 + (1 : Int))))
      ) fun x6 =>
     (idx d3 o0).bind fun j2 =>
     (f52 x0).bind fun d4 =>
     (f51 x0 d4 ((mset z1 x1 ((⟨x1, j2, j0⟩ : LoomRun))))).bind fun j3 =>
     (f53 x0).bind fun n4 =>
     (idx j3 n4).bind fun j5 =>
     bif j5 then
      some (true, (mset z1 x1 ((⟨x1, j2, j0⟩ : LoomRun))))
     else
      x6 ((mset z1 x1 ((⟨x1, j2, j0⟩ : LoomRun))))
    else
     t6 (z1)
    ) big (i3, (0 : Int))
   ) fun y6 =>
  bif (decide ((w64 (j0 + (y4).Woven)) ≤ (y4).Late)) then
   y6 ()
  else
   p6 (i3)
  ) big (x2, (y4).Early)
theorem en54 : Enters Try.prog 54 := enters_of Try.func54 (by kernel_rfl) rfl
theorem wk54 {iI : Nat} {gI : Gh} {wI : World} {x0 : LoomLoomMill} {x1 : Int} {x2 : List (Int × LoomRun)} {up0 : Value} (rp0 : RV gI.m wI x0 up0) {up2 : Value} (mp2 : MP (Value.int .i64) iI gI wI x2 up2) {r : Bool × (List (Int × LoomRun))} (h : f54 x0 x1 x2 = some r) : FnM Try.prog 54 #[up0, .int .i64 (x1), up2] iI gI wI (fun g w v => v = .bool (r.1) ∧ MP (Value.int .i64) iI g w r.2 up2) := by
 unfold f54 at h
 refine fnM_of_E Try.func54 rfl (Nat.le_of_ble_eq_true rfl) fun g0 hm hfr => ?_
 have j6 := mp2
 replace mp2 := mp2.enter
 rw [← hm] at mp2
 replace hm : g0.m = gI.m := by rw [hm]
 have rp0 : RV g0.m wI x0 up0 := hm ▸ rp0
 show E _ 50 none _ _ _ _ _
 refine E_seq (E_region (EL_do .plain rfl (D_box (g := g0) rfl rp0 fun g1 w1 p1 hs q1 => ?_)))
 have hfr := hfr.ext hs
 have mp2 := mp2.ext hs
 refine EL_at (.bool false) rfl rfl ?_
 refine EL_nil (thn_n (E_seq (E_region (EL_pur (v := fPtr p1 2) (P_fieldAddr at_96_1 rfl (PT.ptr q1)) .plain rfl ?_))))
 have q2 := PT_field (part_LoomLoomMill_1).1 q1
 refine EL_do .plain rfl (D_load (g := g1) Try.isAgg25 Try.sizeOf25 rfl q2 fun v3 r3 => ?_)
 refine EL_mw (.int .i64 (x1)) rfl rfl ?_
 obtain ⟨y4, l9, h⟩ := bsome h
 refine EL_pur (v := ePtr v3 x1 5) (P_indexAddr (α := LoomOrder) Try.underlying25 Try.sizeOf82 rfl r3 rfl l9) .plain rfl ?_
 have q5 := PT_idx r3 l9
 refine EL_do .plain rfl (D_load (g := g1) Try.isAgg82 Try.sizeOf82 rfl q5 fun v6 r6 => ?_)
 refine EL_do .plain rfl (D_allocOc (g := g1) 2007 (⟨0, 0, 0, 0, 0⟩ : LoomOrder) Try.zeroValue82 (fun m w => ⟨_, (rep_two rep_int (rep_two rep_int (rep_two rep_int (rep_two rep_int rep_int)))), rfl⟩) fun g7 w7 p7 hs b7 cb => ?_)
 have hfr := hfr.stp hs
 have mp2 := mp2.stp hs rfl
 have q1 := q1.stp hs
 have r6 := r6.stp hs
 clear cb
 refine EL_do .plain rfl (D_storeOc (g := g7) (v := v6) Try.sizeOf82 rfl b7 rfl r6 fun g8 w8 hs b8 cb => ?_)
 clear cb
 have hfr := hfr.stp hs
 have mp2 := mp2.stp hs rfl
 have q1 := q1.stp hs
 refine EL_nil (thn_n (E_joinC h (fun (s : (List (Int × LoomRun))) e w => ∃ (g : Gh) , FrM iI gI wI g w ∧ e 2 = up2 ∧ MP (Value.int .i64) 1 g w (s : List (Int × LoomRun)) up2) (fun X227 p6 t8 h => ?_) ?_))
 ·refine E_seq (E_region (EL_pur (v := fPtr p7 3) (P_fieldAddr at_82_3 rfl (OB.ptr b8)) .plain rfl ?_))
  refine EL_do .plain rfl (D_loadF (g := g8) part_LoomOrder_3.1 Try.isAgg3 Try.sizeOf3 rfl b8 fun qA m9 => ?_)
  obtain rfl := RV_int.1 m9
  refine EL_at (.int .i64 ((y4).Early)) rfl rfl ?_
  refine EL_nil (thn_n (E_block ?_))
  refine E_lp h (fun (s : (List (Int × LoomRun)) × Int) e w => ∃ (g : Gh) , FrM iI gI wI g w ∧ e 1 = .int .i64 (x1) ∧ e 2 = up2 ∧ MP (Value.int .i64) 1 g w (s.1 : List (Int × LoomRun)) up2 ∧ e 3 = p1 ∧ PT g.m w (x0 : LoomLoomMill) p1 ∧ e 7 = p7 ∧ OB 2007 g w 82 (y4 : LoomOrder) p7 ∧ e 8 = .int .i64 (s.2)) ⟨g8, hfr, rfl, rfl, mp2, rfl, q1, rfl, b8, rfl⟩ (fun X230 q6 v8 => ?_)
  rintro ⟨i3, j0⟩ jA rA ⟨l5, hfr, z6, x5, y5, a7, c7, o4, o3, z5⟩ h
  refine E_joinC h (fun (s : Unit) e w => ∃ (g : Gh) , FrM iI gI wI g w ∧ e 1 = .int .i64 (x1) ∧ e 2 = up2 ∧ MP (Value.int .i64) 1 g w (i3 : List (Int × LoomRun)) up2 ∧ e 3 = p1 ∧ PT g.m w (x0 : LoomLoomMill) p1 ∧ e 7 = p7 ∧ OB 2007 g w 82 (y4 : LoomOrder) p7 ∧ e 8 = .int .i64 (j0)) (fun X237 y6 x8 h => ?_) ?_
  ·refine E_seq (E_region (EL_mv z5 rfl ?_))
   refine EL_pur (v := fPtr p7 2) (P_fieldAddr at_82_2 o4 (OB.ptr o3)) .plain rfl ?_
   refine EL_do .plain rfl (D_loadF (g := l5) part_LoomOrder_2.1 Try.isAgg3 Try.sizeOf3 rfl o3 fun sA n9 => ?_)
   obtain rfl := RV_int.1 n9
   refine EL_in (.int .i64 ((w64 (j0 + (y4).Woven)))) rfl rfl rfl rfl ?_
   refine EL_pur (v := fPtr p7 4) (P_fieldAddr at_82_4 o4 (OB.ptr o3)) .plain rfl ?_
   refine EL_do .plain rfl (D_loadF (g := l5) part_LoomOrder_4.1 Try.isAgg3 Try.sizeOf3 rfl o3 fun tA o9 => ?_)
   obtain rfl := RV_int.1 o9
   refine EL_pur (v := .bool ((decide ((w64 (j0 + (y4).Woven)) ≤ (y4).Late)))) (P_int rfl rfl rfl) .plain rfl ?_
   refine EL_nil (thn_n ?_)
   rcases csome h with ⟨m5, h⟩ | ⟨m5, h⟩
   ·refine E_ct m5 rfl ?_
    exact E_skip (thn_n (x8 () _ _ ⟨l5, hfr, z6, x5, y5, a7, c7, o4, o3, z5⟩ h))
   ·refine E_cf m5 rfl ?_
    refine E_exit ?_
    refine thn_e ?_
    refine thn_e ?_
    refine blk_hit ?_
    exact thn_n (t8 (i3) _ _ ⟨l5, hfr, x5, y5⟩ h)
  ·rintro _ kA uA ⟨d7, hfr, e7, i7, p4, b6, u3, j7, u4, m7⟩ h
   refine E_joinC h (fun (s : (List (Int × LoomRun))) e w => ∃ (g : Gh) , FrM iI gI wI g w ∧ e 1 = .int .i64 (x1) ∧ e 2 = up2 ∧ MP (Value.int .i64) 1 g w (s : List (Int × LoomRun)) up2 ∧ e 3 = p1 ∧ PT g.m w (x0 : LoomLoomMill) p1 ∧ e 7 = p7 ∧ OB 2007 g w 82 (y4 : LoomOrder) p7 ∧ e 8 = .int .i64 (j0)) (fun X344 t6 y8 h => ?_) ?_
   ·refine E_block ?_
    refine E_seq (E_region (EL_do .plain rfl (D_load (g := d7) Try.isAgg96 Try.sizeOf96 b6 u3 fun p9 q9 => ?_)))
    obtain ⟨d3, z8, h⟩ := bsome h
    refine EL_do .plain rfl (D_call (g := d7) (vs := [p9]) en52 (.cons rfl .nil) (wk52 q9 z8) fun r9 lA x4 hs hr => ?_)
    have hfr := hfr.ext hs
    have p4 := p4.ext hs
    have u3 := u3.ext hs
    have u4 := u4.ext hs
    have n7 := hr
    refine EL_pur (v := .int .i64 ((d3).length : Int)) (P_len Try.underlying22 rfl n7) .plain rfl ?_
    refine EL_mw (.int .i64 (0)) rfl rfl ?_
    refine EL_nil (thn_n (E_block ?_))
    refine E_lp h (fun (s : (List (Int × LoomRun)) × Int) e w => ∃ (g : Gh) , FrM iI gI wI g w ∧ e 1 = .int .i64 (x1) ∧ e 2 = up2 ∧ MP (Value.int .i64) 1 g w (s.1 : List (Int × LoomRun)) up2 ∧ e 3 = p1 ∧ PT g.m w (x0 : LoomLoomMill) p1 ∧ e 7 = p7 ∧ OB 2007 g w 82 (y4 : LoomOrder) p7 ∧ e 8 = .int .i64 (j0) ∧ e 28 = x4 ∧ RV g.m w (d3 : List Int) x4 ∧ e 29 = .int .i64 (((d3).length : Int)) ∧ e 30 = .int .i64 (s.2)) ⟨r9, hfr, e7, i7, p4, b6, u3, j7, u4, m7, rfl, n7, rfl, rfl⟩ (fun X348 u6 a9 => ?_)
    rintro ⟨z1, o0⟩ mA t9 ⟨n5, hfr, z3, c4, c6, p3, u0, d6, z2, z4, d5, j1, i5, i4⟩ h
    refine E_seq (E_region (EL_in (.bool ((decide (o0 < ((d3).length : Int))))) i4 i5 rfl rfl ?_))
    refine EL_nil (thn_n (E_seq ?_))
    rcases csome h with ⟨o5, h⟩ | ⟨o5, h⟩
    ·refine E_ct o5 rfl ?_
     refine E_skip (thn_n (E_joinC h (fun (s : (List (Int × LoomRun))) e w => ∃ (g : Gh) , FrM iI gI wI g w ∧ e 1 = .int .i64 (x1) ∧ e 2 = up2 ∧ MP (Value.int .i64) 1 g w (s : List (Int × LoomRun)) up2 ∧ e 3 = p1 ∧ PT g.m w (x0 : LoomLoomMill) p1 ∧ e 7 = p7 ∧ OB 2007 g w 82 (y4 : LoomOrder) p7 ∧ e 8 = .int .i64 (j0) ∧ e 28 = x4 ∧ RV g.m w (d3 : List Int) x4 ∧ e 29 = .int .i64 (((d3).length : Int)) ∧ e 30 = .int .i64 (o0)) (fun X397 x6 b9 h => ?_) ?_))
     ·refine E_block ?_
      refine E_seq (E_region ?_)
      obtain ⟨j2, k6, h⟩ := bsome h
      refine EL_pur (v := ePtr x4 o0 1) (P_indexAddr (α := Int) Try.underlying22 Try.sizeOf3 d5 j1 i4 k6) .plain rfl ?_
      have u9 := PT_idx j1 k6
      refine EL_do .plain rfl (D_load (g := n5) Try.isAgg3 Try.sizeOf3 rfl u9 fun vA v9 => ?_)
      obtain rfl := RV_int.1 v9
      refine EL_at (.int .i64 (j2)) rfl rfl ?_
      refine EL_nil (thn_n (E_seq (E_region (EL_mv c4 rfl ?_))))
      refine EL_mv z3 rfl ?_
      refine EL_mv z3 rfl ?_
      refine EL_mw (.int .i64 (j2)) rfl rfl ?_
      refine EL_mv z4 rfl ?_
      have o7 : RV n5.m t9 (⟨x1, j2, j0⟩ : LoomRun) (.agg (setCh [[.int .i64 0], [.int .i64 0], [.int .i64 0]] [(0, .int .i64 (x1)), (1, .int .i64 (j2)), (2, .int .i64 (j0))]).flatten.toArray) := RV_build rfl (rep_pair (rfl) (rep_pair (rfl) (rep_last (rfl))))
      generalize c9 : (Value.agg (setCh [[.int .i64 0], [.int .i64 0], [.int .i64 0]] [(0, .int .i64 (x1)), (1, .int .i64 (j2)), (2, .int .i64 (j0))]).flatten.toArray) = x9 at o7
      refine EL_pur (v := x9) (c9 ▸ P_build (vs := [(0, .int .i64 (x1)), (1, .int .i64 (j2)), (2, .int .i64 (j0))]) [[.int .i64 0], [.int .i64 0], [.int .i64 0]] lay_76 rfl rfl (.cons rfl (.cons rfl (.cons rfl .nil))) ⟨⟨_, rfl, rfl⟩, ⟨⟨_, rfl, rfl⟩, ⟨⟨_, rfl, rfl⟩, trivial⟩⟩⟩) .plain rfl ?_
      refine EL_do .plain rfl (D_mapUpdate (g := n5) Try.underlying100 key_3 rfl c6 rfl rfl o7 fun y9 xA hs m402 => ?_)
      have hfr := hfr.stp hs
      have u0 := u0.stp hs
      have z2 := z2.stp hs rfl
      have j1 := j1.stp hs
      refine EL_nil (thn_n (E_seq (L_load (x := .tmp 3) Try.isAgg96 Try.sizeOf96 u0 fun q7 z9 d9 => ?_)))
      refine L_load (x := .tmp 3) Try.isAgg96 Try.sizeOf96 u0 fun t7 bA e9 => ?_
      obtain ⟨d4, g9, h⟩ := bsome h
      obtain ⟨j3, i9, h⟩ := bsome h
      refine L_load (x := .tmp 3) Try.isAgg96 Try.sizeOf96 u0 fun u7 cA j9 => ?_
      obtain ⟨n4, k9, h⟩ := bsome h
      obtain ⟨j5, p5, h⟩ := bsome h
      refine E_drawL (g := y9) (n := 9) [(2, (fun v g w => RV g.m w d4 v)), (4, (fun v g w => RV g.m w j3 v)), (6, (fun v g w => v = .int .i64 (n4))), (8, (fun v _ _ => v = .bool (j5)))] [0, 1, 2, 3, 4, 5, 6, 7, 8] rfl mixed (by kernel_rfl) (⟨fun _ => up_rv, fun _ => up_rv, fun _ => up_eq _, fun _ => up_eq _, trivial⟩) ?_
      refine L_ld (c := q7) rfl rfl .plain (fun _ _ h => h.ch) d9 p3 ?_
      refine L_ld (c := t7) rfl rfl .plain (fun _ _ h => h.ch) e9 p3 ?_
      refine L_do (φ := fun v g w => RV g.m w d4 v) rfl rfl .plain (fun g w hd => D_call (g := g) (vs := [t7]) en52 (.cons rfl .nil) (wk52 (bA.ext hd.1) g9) fun g' w' v hs hr => ⟨g', hs, hr⟩) (fun i6 hv => ?_)
      obtain ⟨_, _, _, rq405⟩ := hv
      refine L_pur (c := up2) rfl rfl .plain (fun _ _ hd => P_move c4) ?_
      refine L_do (φ := fun v g w => RV g.m w j3 v) rfl rfl .plain (fun g w hd => D_call (g := g) (vs := [q7, i6, up2]) en51 (.cons rfl (.cons rfl (.cons rfl .nil))) (wk51 (z9.ext hd.1) (word (A := fun g w => RV g.m w d4 i6) 2 rfl rfl (deps_of hd)) (m402.ext hd.1).r i9) fun g' w' v hs hr => ⟨g', hs, hr⟩) (fun c5 hv => ?_)
      obtain ⟨_, _, _, rq407⟩ := hv
      refine L_ld (c := u7) rfl rfl .plain (fun _ _ h => h.ch) j9 p3 ?_
      refine L_do (φ := fun v g w => v = .int .i64 (n4)) rfl rfl .plain (fun g w hd => D_call (g := g) (vs := [u7]) en53 (.cons rfl .nil) (wk53 (cA.ext hd.1) k9) fun g' w' v hs hr => ⟨g', hs, hr⟩) (fun yA hv => ?_)
      obtain ⟨_, _, _, rfl⟩ := hv
      refine L_pur (c := ePtr c5 n4 1) rfl rfl .plain (fun _ _ hd => P_indexAddr (α := Bool) Try.underlying101 Try.sizeOf4 rfl (word (A := fun g w => RV g.m w j3 c5) 4 rfl rfl (deps_of hd)) rfl p5) ?_
      refine L_do (φ := (fun v _ _ => v = .bool (j5))) rfl rfl .plain (fun g w hd => D_load (g := g) Try.isAgg4 Try.sizeOf4 rfl (PT_idx (word (A := fun g w => RV g.m w j3 c5) 4 rfl rfl (hop 7 rfl rfl (deps_of hd))) p5) fun v r => ⟨g, Ext.refl g w, RV_bool.1 r⟩) (fun zA hv => ?_)
      obtain ⟨_, _, _, rfl⟩ := hv
      refine L_nil fun dA aB hall => ?_
      have hs := hall.1
      have hfr := hfr.ext hs
      have m402 := m402.ext hs
      have u0 := u0.ext hs
      have z2 := z2.ext hs
      have j1 := j1.ext hs
      have bB := (word_all (A := fun g w => RV g.m w d4 i6) 2 rfl hall)
      have cB := (word_all (A := fun g w => RV g.m w j3 c5) 4 rfl hall)
      have dB := (PT_idx (word_all (A := fun g w => RV g.m w j3 c5) 4 rfl hall) p5)
      clear hs hall
      refine EL_nil (thn_n ?_)
      rcases csome h with ⟨t5, h⟩ | ⟨t5, h⟩
      ·refine E_ct t5 rfl ?_
       refine E_seq (E_region (EL_at (.bool true) rfl rfl ?_))
       refine EL_nil (thn_n (E_ret (blk_r ?_)))
       refine thn_r ?_
       refine thn_r ?_
       refine blk_r ?_
       refine blk_r ?_
       refine thn_r ?_
       refine thn_r ?_
       refine blk_r ?_
       refine thn_r ?_
       obtain rfl := sinj h
       exact end1 rfl rfl (show _ = .bool true from rfl) ⟨_, hfr, rfl, j6.back m402⟩
      ·refine E_cf t5 rfl ?_
       exact E_skip (blk_n (thn_n (b9 ((mset z1 x1 ((⟨x1, j2, j0⟩ : LoomRun)))) _ _ ⟨dA, hfr, z3, c4, m402, p3, u0, d6, z2, z4, d5, j1, i5, i4⟩ h)))
     ·rintro m4 nA eB ⟨eA, hfr, v7, x7, y7, a8, c8, d8, e8, i8, l6, m6, n6, o6⟩ h
      refine E_region (EL_in (.int .i64 ((w64 (o0 + (1 : Int))))) o6 rfl rfl rfl ?_)
      refine EL_mw (.int .i64 ((w64 (o0 + (1 : Int))))) rfl rfl ?_
      exact EL_nil (thn_n (a9 (m4, (w64 (o0 + (1 : Int)))) _ _ ⟨eA, hfr, v7, x7, y7, a8, c8, d8, e8, i8, l6, m6, n6, rfl⟩ h))
    ·refine E_cf o5 rfl ?_
     refine E_exit ?_
     refine thn_e ?_
     refine thn_e ?_
     refine blk_hit ?_
     exact blk_n (thn_n (y8 (z1) _ _ ⟨n5, hfr, z3, c4, c6, p3, u0, d6, z2, z4⟩ h))
   ·rintro j4 oA iB ⟨gA, hfr, j8, k8, l8, m8, n8, o8, p8, q8⟩ h
    refine E_region (EL_mv q8 rfl ?_)
    refine EL_in (.int .i64 ((w64 (j0 + (1 : Int))))) rfl rfl rfl rfl ?_
    refine EL_at (.int .i64 ((w64 (j0 + (1 : Int))))) rfl rfl ?_
    exact EL_nil (thn_n (v8 (j4, (w64 (j0 + (1 : Int)))) _ _ ⟨gA, hfr, j8, k8, l8, m8, n8, o8, p8, rfl⟩ h))
 ·rintro u5 pA jB ⟨kB, hfr, iA, r8⟩ h
  refine E_seq (E_region (EL_at (.bool false) rfl rfl ?_))
  refine EL_nil (thn_n (E_ret ?_))
  obtain rfl := sinj h
  exact end1 rfl rfl (show _ = .bool false from rfl) ⟨_, hfr, rfl, j6.back r8⟩
/-- griffe/loom.smallest -/
def f55 (x0 : Int) (x1 : Int → Option Bool) : Option ((List Int) × Bool) :=
 Option.bind (α := (List Int) × Bool) (
  (shl64 (1 : Int) x0).bind fun n4 =>
  lp (σ := (List Int) × Bool × Int) (fun x5 (u0, d3, j0) =>
   bif (decide (j0 < n4)) then
    Option.bind (α := (List Int) × Bool) (
     (f59 j0).bind fun j2 =>
     jn (σ := Unit) (fun (_ : Unit) =>
      some (j2, true)
      ) fun y5 =>
     Option.bind (α := Bool) (
      bif d3 then
       bif (decide (((j2).length : Int) > ((u0).length : Int))) then
        some (true)
       else
        bif (((j2).length : Int) == ((u0).length : Int)) then
         (f85 j2 u0).bind fun m4 =>
         bif (decide (m4 > (0 : Int))) then
          some (true)
         else
          (x1 j0).bind fun d5 =>
          some ((!d5))
        else
         (x1 j0).bind fun i5 =>
         some ((!i5))
      else
       (x1 j0).bind fun j5 =>
       some ((!j5))
      ) fun i4 =>
     bif i4 then
      some (u0, d3)
     else
      y5 ()
     ) fun (p4, u4) =>
    x5 (p4, u4, (w64 (j0 + (1 : Int))))
   else
    some (u0, d3)
   ) big ([], false, (0 : Int))
  ) fun (x4, o4) =>
 some (x4, o4)
theorem en55 : Enters Try.prog 55 := enters_of Try.func55 (by kernel_rfl) rfl
theorem wk55 {gI : Gh} {wI : World} {x0 : Int} {x1 : Int → Option Bool} {up1 : Value} (rp1 : FnV1 Try.prog x1 up1 gI wI) {r : (List Int) × Bool} (h : f55 x0 x1 = some r) : Fn Try.prog 55 #[.int .i64 (x0), up1] gI wI (fun m w v => ∃ y0 y1, v = .tuple #[y0, y1] ∧ RV m w (r.1) y0 ∧ y1 = .bool (r.2)) := by
 unfold f55 at h
 refine fn_of_E Try.func55 rfl (Nat.le_of_ble_eq_true rfl) fun g0 hm hfr => ?_
 obtain ⟨ff1, fa1, fc1, rfl, fen1, fcl1⟩ := rp1
 show E _ 46 none _ _ _ _ _
 refine E_seq (E_region (EL_at (.slice none 0 0) rfl rfl ?_))
 refine EL_at (.bool false) rfl rfl ?_
 refine EL_nil (thn_n ?_)
 obtain ⟨⟨x4, o4⟩, hx, h⟩ := bsome h
 refine E_join (fun e w => ∃ (g : Gh) (v4 : Value), Fr gI wI g w ∧ e 4 = v4 ∧ RV g.m w (x4 : List Int) v4 ∧ e 5 = .bool (o4)) (fun Q' hQ => ?_) (fun u7 d8 hR => ?_)
 ·replace h := hx
  clear hx
  refine E_seq (E_region (EL_mw (.int .i64 (x0)) rfl rfl ?_))
  obtain ⟨n4, b7, h⟩ := bsome h
  refine EL_pur (v := .int .i64 (n4)) (P_int rfl rfl (congrArg (Option.map (Value.int .i64)) b7)) .plain rfl ?_
  refine EL_mw (.int .i64 (0)) rfl rfl ?_
  refine EL_nil (thn_n (E_block ?_))
  refine E_lp h (fun (s : (List Int) × Bool × Int) e w => ∃ (g : Gh) (v4 : Value), Fr gI wI g w ∧ e 1 = (.func (.func ff1) fa1 fc1) ∧ e 4 = v4 ∧ RV g.m w (s.1 : List Int) v4 ∧ e 5 = .bool (s.2.1) ∧ e 9 = .int .i64 (n4) ∧ e 10 = .int .i64 (s.2.2)) ⟨g0, (.slice none 0 0), hfr, rfl, rfl, RV_nil, rfl, rfl, rfl⟩ (fun X351 x5 c7 => ?_)
  rintro ⟨u0, d3, j0⟩ v7 e8 ⟨z5, u3, hfr, z3, i3, o0, c4, j4, p3⟩ h
  refine E_seq (E_region (EL_in (.bool ((decide (j0 < n4)))) p3 j4 rfl rfl ?_))
  refine EL_nil (thn_n (E_seq ?_))
  rcases csome h with ⟨l5, h⟩ | ⟨l5, h⟩
  ·refine E_ct l5 rfl ?_
   refine E_skip (thn_n ?_)
   obtain ⟨⟨p4, u4⟩, hx, h⟩ := bsome h
   refine E_join (fun e w => ∃ (g : Gh) (v4 : Value), Fr gI wI g w ∧ e 1 = (.func (.func ff1) fa1 fc1) ∧ e 4 = v4 ∧ RV g.m w (p4 : List Int) v4 ∧ e 5 = .bool (u4) ∧ e 9 = .int .i64 (n4) ∧ e 10 = .int .i64 (j0)) (fun Q' hQ => ?_) (fun x7 g8 hR => ?_)
   ·replace h := hx
    clear hx
    refine E_block ?_
    refine E_seq (E_region (EL_mv p3 rfl ?_))
    refine EL_at (.int .i64 (j0)) rfl rfl ?_
    refine EL_nil (thn_n (E_seq (E_region (EL_mw (.int .i64 (j0)) rfl rfl ?_))))
    obtain ⟨j2, d7, h⟩ := bsome h
    refine EL_do .plain rfl (D_call (g := z5) (vs := [.int .i64 (j0)]) en59 (.cons rfl .nil) (wk59  d7) fun m5 y7 d4 hs hr => ?_)
    have hfr := hfr.ext hs
    have o0 := o0.ext hs
    have z2 := hr
    refine EL_at d4 rfl rfl ?_
    refine EL_nil (thn_n (E_joinC h (fun (s : Unit) e w => ∃ (g : Gh) , Fr gI wI g w ∧ e 1 = (.func (.func ff1) fa1 fc1) ∧ e 7 = d4 ∧ RV g.m w (j2 : List Int) d4 ∧ e 9 = .int .i64 (n4) ∧ e 10 = .int .i64 (j0)) (fun X438 y5 e7 h => ?_) ?_))
    ·obtain ⟨i4, hx, h⟩ := bsome h
     refine E_join (fun e w => ∃ (g : Gh) , Fr gI wI g w ∧ e 1 = (.func (.func ff1) fa1 fc1) ∧ e 4 = u3 ∧ RV g.m w (u0 : List Int) u3 ∧ e 5 = .bool (d3) ∧ e 7 = d4 ∧ RV g.m w (j2 : List Int) d4 ∧ e 9 = .int .i64 (n4) ∧ e 10 = .int .i64 (j0) ∧ e 41 = .bool (i4)) (fun Q' hQ => ?_) (fun a8 i8 hR => ?_)
     ·replace h := hx
      clear hx
      refine E_region (EL_mv c4 rfl ?_)
      refine EL_mw (.bool (d3)) rfl rfl ?_
      rcases csome h with ⟨j1, h⟩ | ⟨j1, h⟩
      ·refine EL_pur (v := d4) (P_move rfl) (.yes2 rfl rfl j1) rfl ?_
       refine EL_pur (v := .int .i64 ((j2).length : Int)) (P_len Try.underlying22 rfl z2) (.yes2 rfl rfl j1) rfl ?_
       refine EL_pur (v := u3) (P_move i3) (.yes2 rfl rfl j1) rfl ?_
       refine EL_pur (v := .int .i64 ((u0).length : Int)) (P_len Try.underlying22 rfl o0) (.yes2 rfl rfl j1) rfl ?_
       refine EL_pur (v := .bool ((decide (((j2).length : Int) > ((u0).length : Int))))) (P_int rfl rfl rfl) (.yes2 rfl rfl j1) rfl ?_
       refine EL_pur (v := .bool ((decide (((j2).length : Int) > ((u0).length : Int))))) (P_move rfl) (.yes2 rfl rfl j1) rfl ?_
       rcases csome h with ⟨z1, h⟩ | ⟨z1, h⟩
       ·refine EL_skip (.no2 rfl rfl z1 rfl) rfl ?_
        refine EL_skip (.no2 rfl rfl z1 rfl) rfl ?_
        refine EL_skip (.no2 rfl rfl z1 rfl) rfl ?_
        refine EL_skip (.no2 rfl rfl z1 rfl) rfl ?_
        refine EL_skip (.no2 rfl rfl z1 rfl) rfl ?_
        refine EL_skip (.no2 rfl rfl z1 rfl) rfl ?_
        refine EL_dead 4 rfl ?_
        refine EL_skip (.no2 rfl rfl z1 rfl) rfl ?_
        refine EL_pur (v := .bool true) (P_pick (b := (decide (((j2).length : Int) > ((u0).length : Int)))) rfl (pick_t z1 rfl)) (.yes2 rfl rfl j1) rfl ?_
        refine EL_pur (v := .bool true) (P_pick (b := d3) rfl (pick_t j1 rfl)) .plain rfl ?_
        refine EL_dead 6 rfl ?_
        refine EL_nil ?_
        obtain rfl := sinj h
        exact hQ _ _ ⟨m5, hfr, z3, i3, o0, c4, rfl, z2, j4, p3, rfl⟩
       ·refine EL_pur (v := d4) (P_move rfl) (.yes2 rfl rfl z1) rfl ?_
        refine EL_pur (v := .int .i64 ((j2).length : Int)) (P_len Try.underlying22 rfl z2) (.yes2 rfl rfl z1) rfl ?_
        refine EL_pur (v := u3) (P_move i3) (.yes2 rfl rfl z1) rfl ?_
        refine EL_pur (v := .int .i64 ((u0).length : Int)) (P_len Try.underlying22 rfl o0) (.yes2 rfl rfl z1) rfl ?_
        refine EL_pur (v := .bool ((((j2).length : Int) == ((u0).length : Int)))) (P_int rfl rfl rfl) (.yes2 rfl rfl z1) rfl ?_
        refine EL_pur (v := .bool ((((j2).length : Int) == ((u0).length : Int)))) (P_move rfl) (.yes2 rfl rfl z1) rfl ?_
        rcases csome h with ⟨j3, h⟩ | ⟨j3, h⟩
        ·refine EL_pur (v := d4) (P_move rfl) (.yes2 rfl rfl j3) rfl ?_
         refine EL_pur (v := u3) (P_move i3) (.yes2 rfl rfl j3) rfl ?_
         obtain ⟨m4, g7, h⟩ := bsome h
         refine EL_do (.yes2 rfl rfl j3) rfl (D_call (g := m5) (vs := [d4, u3]) en85 (.cons rfl (.cons rfl .nil)) (wk85 z2 o0 g7) fun b6 b8 j8 hs hr => ?_)
         have hfr := hfr.ext hs
         have o0 := o0.ext hs
         have z2 := z2.ext hs
         subst hr
         refine EL_pur (v := .bool ((decide (m4 > (0 : Int))))) (P_int rfl rfl rfl) (.yes2 rfl rfl j3) rfl ?_
         refine EL_pur (v := .bool ((decide (m4 > (0 : Int))))) (P_pick (b := (((j2).length : Int) == ((u0).length : Int))) rfl (pick_t j3 rfl)) (.yes2 rfl rfl z1) rfl ?_
         refine EL_pur (v := .bool ((decide (m4 > (0 : Int))))) (P_pick (b := (decide (((j2).length : Int) > ((u0).length : Int)))) rfl (pick_f z1 rfl)) (.yes2 rfl rfl j1) rfl ?_
         refine EL_pur (v := .bool ((decide (m4 > (0 : Int))))) (P_pick (b := d3) rfl (pick_t j1 rfl)) .plain rfl ?_
         refine EL_mw (.bool ((decide (m4 > (0 : Int))))) rfl rfl ?_
         rcases csome h with ⟨o3, h⟩ | ⟨o3, h⟩
         ·refine EL_skip (.no2 rfl rfl o3 rfl) rfl ?_
          refine EL_skip (.no2 rfl rfl o3 rfl) rfl ?_
          refine EL_skip (.no2 rfl rfl o3 rfl) rfl ?_
          refine EL_skip (.no2 rfl rfl o3 rfl) rfl ?_
          refine EL_pur (v := .bool true) (P_pick (b := (decide (m4 > (0 : Int)))) rfl (pick_t o3 rfl)) .plain rfl ?_
          refine EL_nil ?_
          obtain rfl := sinj h
          exact hQ _ _ ⟨b6, hfr, z3, i3, o0, c4, rfl, z2, j4, p3, rfl⟩
         ·refine EL_pur (v := (.func (.func ff1) fa1 fc1)) (P_move z3) (.yes2 rfl rfl o3) rfl ?_
          refine EL_pur (v := .int .i64 (j0)) (P_move rfl) (.yes2 rfl rfl o3) rfl ?_
          obtain ⟨d5, i7, h⟩ := bsome h
          refine EL_do (.yes2 rfl rfl o3) rfl (D_callv (g := b6) (vs := [.int .i64 (j0)]) rfl fen1 (.cons rfl .nil) (fcl1 _ _ hfr.ch _ _ _  (RV_int.2 rfl) i7) fun n7 k8 l8 hs hr => ?_)
          have hfr := hfr.ext hs
          have o0 := o0.ext hs
          have z2 := z2.ext hs
          obtain rfl := RV_bool.1 hr
          refine EL_pur (v := .bool (!d5)) (P_not rfl) (.yes2 rfl rfl o3) rfl ?_
          refine EL_pur (v := .bool (!d5)) (P_pick (b := (decide (m4 > (0 : Int)))) rfl (pick_f o3 rfl)) .plain rfl ?_
          refine EL_nil ?_
          obtain rfl := sinj h
          exact hQ _ _ ⟨n7, hfr, z3, i3, o0, c4, rfl, z2, j4, p3, rfl⟩
        ·refine EL_skip (.no2 rfl rfl j3 rfl) rfl ?_
         refine EL_skip (.no2 rfl rfl j3 rfl) rfl ?_
         refine EL_skip (.no2 rfl rfl j3 rfl) rfl ?_
         refine EL_skip (.no2 rfl rfl j3 rfl) rfl ?_
         refine EL_pur (v := .bool false) (P_pick (b := (((j2).length : Int) == ((u0).length : Int))) rfl (pick_f j3 rfl)) (.yes2 rfl rfl z1) rfl ?_
         refine EL_pur (v := .bool false) (P_pick (b := (decide (((j2).length : Int) > ((u0).length : Int)))) rfl (pick_f z1 rfl)) (.yes2 rfl rfl j1) rfl ?_
         refine EL_pur (v := .bool false) (P_pick (b := d3) rfl (pick_t j1 rfl)) .plain rfl ?_
         refine EL_mw (.bool false) rfl rfl ?_
         refine EL_pur (v := (.func (.func ff1) fa1 fc1)) (P_move z3) (.yes2 rfl rfl rfl) rfl ?_
         refine EL_pur (v := .int .i64 (j0)) (P_move rfl) (.yes2 rfl rfl rfl) rfl ?_
         obtain ⟨i5, j7, h⟩ := bsome h
         refine EL_do (.yes2 rfl rfl rfl) rfl (D_callv (g := m5) (vs := [.int .i64 (j0)]) rfl fen1 (.cons rfl .nil) (fcl1 _ _ hfr.ch _ _ _  (RV_int.2 rfl) j7) fun o7 m8 n8 hs hr => ?_)
         have hfr := hfr.ext hs
         have o0 := o0.ext hs
         have z2 := z2.ext hs
         obtain rfl := RV_bool.1 hr
         refine EL_pur (v := .bool (!i5)) (P_not rfl) (.yes2 rfl rfl rfl) rfl ?_
         refine EL_pur (v := .bool (!i5)) (P_pick (b := false) rfl (pick_f rfl rfl)) .plain rfl ?_
         refine EL_nil ?_
         obtain rfl := sinj h
         exact hQ _ _ ⟨o7, hfr, z3, i3, o0, c4, rfl, z2, j4, p3, rfl⟩
      ·refine EL_skip (.no2 rfl rfl j1 rfl) rfl ?_
       refine EL_skip (.no2 rfl rfl j1 rfl) rfl ?_
       refine EL_skip (.no2 rfl rfl j1 rfl) rfl ?_
       refine EL_skip (.no2 rfl rfl j1 rfl) rfl ?_
       refine EL_skip (.no2 rfl rfl j1 rfl) rfl ?_
       refine EL_skip (.no2 rfl rfl j1 rfl) rfl ?_
       refine EL_dead 11 rfl ?_
       refine EL_skip (.no2 rfl rfl j1 rfl) rfl ?_
       refine EL_pur (v := .bool false) (P_pick (b := d3) rfl (pick_f j1 rfl)) .plain rfl ?_
       refine EL_mw (.bool false) rfl rfl ?_
       refine EL_pur (v := (.func (.func ff1) fa1 fc1)) (P_move z3) (.yes2 rfl rfl rfl) rfl ?_
       refine EL_pur (v := .int .i64 (j0)) (P_move rfl) (.yes2 rfl rfl rfl) rfl ?_
       obtain ⟨j5, m7, h⟩ := bsome h
       refine EL_do (.yes2 rfl rfl rfl) rfl (D_callv (g := m5) (vs := [.int .i64 (j0)]) rfl fen1 (.cons rfl .nil) (fcl1 _ _ hfr.ch _ _ _  (RV_int.2 rfl) m7) fun p7 o8 p8 hs hr => ?_)
       have hfr := hfr.ext hs
       have o0 := o0.ext hs
       have z2 := z2.ext hs
       obtain rfl := RV_bool.1 hr
       refine EL_pur (v := .bool (!j5)) (P_not rfl) (.yes2 rfl rfl rfl) rfl ?_
       refine EL_pur (v := .bool (!j5)) (P_pick (b := false) rfl (pick_f rfl rfl)) .plain rfl ?_
       refine EL_nil ?_
       obtain rfl := sinj h
       exact hQ _ _ ⟨p7, hfr, z3, i3, o0, c4, rfl, z2, j4, p3, rfl⟩
     ·clear hx
      obtain ⟨c6, hfr, o5, d6, i6, j6, k6, l6, p5, z4, c5⟩ := hR
      rcases csome h with ⟨n5, h⟩ | ⟨n5, h⟩
      ·refine E_cond_true (Eq.trans (show ev _ _ = .bool (i4) from c5) (congrArg Value.bool n5)) ?_
       refine E_exit ?_
       refine thn_e ?_
       refine blk_hit ?_
       obtain ⟨rfl, rfl⟩ := pairs2 h
       exact hQ _ _ ⟨c6, (u3), hfr, o5, d6, i6, j6, p5, z4⟩
      ·refine E_cond_false (Eq.trans (show ev _ _ = .bool (i4) from c5) (congrArg Value.bool n5)) ?_
       exact E_skip (thn_n (e7 () _ _ ⟨c6, hfr, o5, k6, l6, p5, z4⟩ h))
    ·rintro _ c8 q8 ⟨q7, hfr, m6, n6, o6, p6, t5⟩ h
     refine E_region (EL_mv n6 rfl ?_)
     refine EL_at d4 rfl rfl ?_
     refine EL_at (.bool true) rfl rfl ?_
     refine EL_nil (blk_n ?_)
     obtain ⟨rfl, rfl⟩ := pairs2 h
     exact hQ _ _ ⟨q7, (d4), hfr, m6, rfl, o6, rfl, p6, t5⟩
   ·clear hx
    obtain ⟨t7, q6, hfr, r6, t6, u6, v6, x6, u5⟩ := hR
    refine E_region (EL_in (.int .i64 ((w64 (j0 + (1 : Int))))) u5 rfl rfl rfl ?_)
    refine EL_mw (.int .i64 ((w64 (j0 + (1 : Int))))) rfl rfl ?_
    exact EL_nil (thn_n (c7 (p4, u4, (w64 (j0 + (1 : Int)))) _ _ ⟨t7, (q6), hfr, r6, t6, u6, v6, x6, rfl⟩ h))
  ·refine E_cf l5 rfl ?_
   refine E_exit ?_
   refine thn_e ?_
   refine thn_e ?_
   refine blk_hit ?_
   obtain ⟨rfl, rfl⟩ := pairs2 h
   exact hQ _ _ ⟨z5, (u3), hfr, i3, o0, c4⟩
 ·clear hx
  obtain ⟨r8, q5, hfr, y6, z6, a7⟩ := hR
  refine E_seq (E_region (EL_mv y6 rfl ?_))
  refine EL_mv a7 rfl ?_
  refine EL_at q5 rfl rfl ?_
  refine EL_at (.bool (o4)) rfl rfl ?_
  refine EL_nil (thn_n (E_ret ?_))
  obtain rfl := sinj h
  exact end2 rfl rfl (show _ = q5 from rfl) (show _ = .bool (o4) from rfl) ⟨_, hfr, _, _, rfl, z6, rfl⟩
/-- griffe/loom.Fewest$1 -/
def f58 (x0 : Int) (z0 : LoomLoomMill) : Option (Bool) :=
 (f59 x0).bind fun y3 =>
 (f51 z0 y3 ([])).bind fun y5 =>
 (f53 z0).bind fun y8 =>
 (idx y5 y8).bind fun y9 =>
 some (y9)
theorem en58 : Enters Try.prog 58 := enters_of Try.func58 (by kernel_rfl) rfl
theorem wk58 {gI : Gh} {wI : World} {x0 : Int} {z0 : LoomLoomMill} {pf0 : Value} (qf0 : PT gI.m wI z0 pf0) {r : Bool} (h : f58 x0 z0 = some r) : Fn Try.prog 58 #[.int .i64 (x0), pf0] gI wI (fun _ _ v => v = .bool (r)) := by
 unfold f58 at h
 refine fn_of_E Try.func58 rfl (Nat.le_of_ble_eq_true rfl) fun g0 hm hfr => ?_
 have qf0 : PT g0.m wI z0 pf0 := hm ▸ qf0
 show E _ 12 none _ _ _ _ _
 refine E_seq (E_region (EL_at (.bool false) rfl rfl ?_))
 refine EL_nil (thn_n (E_seq (L_load (x := .tmp 1) Try.isAgg96 Try.sizeOf96 qf0 fun v1 r1 hl1 => ?_)))
 obtain ⟨y3, hy3, h⟩ := bsome h
 obtain ⟨y5, o0, h⟩ := bsome h
 refine L_load (x := .tmp 1) Try.isAgg96 Try.sizeOf96 qf0 fun v6 r6 u0 => ?_
 obtain ⟨y8, j1, h⟩ := bsome h
 obtain ⟨y9, j0, h⟩ := bsome h
 refine E_drawL (g := g0) (n := 9) [(2, (fun v g w => RV g.m w y3 v)), (3, (fun v g w => RV g.m w y5 v)), (5, (fun v g w => v = .int .i64 (y8))), (7, (fun v _ _ => v = .bool (y9)))] [0, 1, 2, 3, 4, 5, 6, 7, 8] rfl mixed (by kernel_rfl) (⟨fun _ => up_rv, fun _ => up_rv, fun _ => up_eq _, fun _ => up_eq _, trivial⟩) ?_
 refine L_ld (c := v1) rfl rfl .plain (fun _ _ h => h.ch) hl1 rfl ?_
 refine L_pur (c := .int .i64 (x0)) rfl rfl .plain (fun _ _ hd => P_move rfl) ?_
 refine L_do (φ := fun v g w => RV g.m w y3 v) rfl rfl .plain (fun g w hd => D_call (g := g) (vs := [.int .i64 (x0)]) en59 (.cons rfl .nil) (wk59  hy3) fun g' w' v hs hr => ⟨g', hs, hr⟩) (fun v2 hv => ?_)
 obtain ⟨_, _, _, rq2⟩ := hv
 refine L_do (φ := fun v g w => RV g.m w y5 v) rfl rfl .plain (fun g w hd => D_call (g := g) (vs := [v1, v2, .map none]) en51 (.cons rfl (.cons rfl (.cons rfl .nil))) (wk51 (r1.ext hd.1) (word (A := fun g w => RV g.m w y3 v2) 2 rfl rfl (deps_of hd)) MR.nil o0) fun g' w' v hs hr => ⟨g', hs, hr⟩) (fun v4 hv => ?_)
 obtain ⟨_, _, _, rq4⟩ := hv
 refine L_ld (c := v6) rfl rfl .plain (fun _ _ h => h.ch) u0 rfl ?_
 refine L_do (φ := fun v g w => v = .int .i64 (y8)) rfl rfl .plain (fun g w hd => D_call (g := g) (vs := [v6]) en53 (.cons rfl .nil) (wk53 (r6.ext hd.1) j1) fun g' w' v hs hr => ⟨g', hs, hr⟩) (fun v7 hv => ?_)
 obtain ⟨_, _, _, rfl⟩ := hv
 refine L_pur (c := ePtr v4 y8 1) rfl rfl .plain (fun _ _ hd => P_indexAddr (α := Bool) Try.underlying101 Try.sizeOf4 rfl (word (A := fun g w => RV g.m w y5 v4) 3 rfl rfl (deps_of hd)) rfl j0) ?_
 refine L_do (φ := (fun v _ _ => v = .bool (y9))) rfl rfl .plain (fun g w hd => D_load (g := g) Try.isAgg4 Try.sizeOf4 rfl (PT_idx (word (A := fun g w => RV g.m w y5 v4) 3 rfl rfl (hop 6 rfl rfl (deps_of hd))) j0) fun v r => ⟨g, Ext.refl g w, RV_bool.1 r⟩) (fun z1 hv => ?_)
 obtain ⟨_, _, _, rfl⟩ := hv
 refine L_pur (c := .bool (y9)) rfl rfl .plain (fun _ _ hd => P_assign rfl) ?_
 refine L_nil fun j2 z2 hall => ?_
 have hs := hall.1
 have hfr := hfr.ext hs
 have d3 := (word_all (A := fun g w => RV g.m w y3 v2) 2 rfl hall)
 have i3 := (word_all (A := fun g w => RV g.m w y5 v4) 3 rfl hall)
 have j3 := (PT_idx (word_all (A := fun g w => RV g.m w y5 v4) 3 rfl hall) j0)
 clear hs hall
 refine EL_nil (thn_n (E_ret ?_))
 obtain rfl := sinj h
 exact end1 rfl rfl (show _ = .bool (y9) from rfl) ⟨_, hfr, rfl⟩
/-- griffe/loom.row -/
def f68 (x0 : List LoomRun) (x1 : Int) : Option ((List Int)) :=
 Option.bind (α := (List Int)) (
  lp (σ := (List Int) × Int) (fun x5 (j2, j0) =>
   bif (decide (j0 < ((x0).length : Int))) then
    Option.bind (α := (List Int)) (
     (idx x0 j0).bind fun n4 =>
     bif ((n4).Loom == x1) then
      (apnd 8 j2 (([j0] : List Int))).bind fun y55 =>
      some (y55)
     else
      some (j2)
     ) fun z2 =>
    x5 (z2, (w64 (j0 + (1 : Int))))
   else
    some (j2)
   ) big (([] : List Int), (0 : Int))
  ) fun d3 =>
 (f87 d3 ((fun a0 a1 => f88 a0 a1 x0))).bind fun y5 =>
 some (y5)
theorem en68 : Enters Try.prog 68 := enters_of Try.func68 (by kernel_rfl) rfl
theorem wk68 {gI : Gh} {wI : World} {x0 : List LoomRun} {x1 : Int} {up0 : Value} (rp0 : RV gI.m wI x0 up0) {r : (List Int)} (h : f68 x0 x1 = some r) : Fn Try.prog 68 #[up0, .int .i64 (x1)] gI wI (fun m w v => RV m w (r) v) := by
 unfold f68 at h
 refine fn_of_E Try.func68 rfl (Nat.le_of_ble_eq_true rfl) fun g0 hm hfr => ?_
 have rp0 : RV g0.m wI x0 up0 := hm ▸ rp0
 show E _ 27 none _ _ _ _ _
 refine E_seq (E_region (EL_do .plain rfl (D_box (g := g0) rfl rp0 fun g1 w1 p1 hs q1 => ?_)))
 have hfr := hfr.ext hs
 refine EL_at (.slice none 0 0) rfl rfl ?_
 have b2 : OA 4004 g1 w1 3 ([] : List Int) (.slice none 0 0) := OA.nil
 refine EL_nil (thn_n ?_)
 obtain ⟨d3, hx, h⟩ := bsome h
 refine E_join (fun e w => ∃ (g : Gh) (v4 : Value), Fr gI wI g w ∧ e 2 = p1 ∧ PT g.m w (x0 : List LoomRun) p1 ∧ e 4 = v4 ∧ OA 4004 g w 3 (d3 : List Int) v4) (fun Q' hQ => ?_) (fun u6 z6 hR => ?_)
 ·replace h := hx
  clear hx
  refine E_seq (E_region (EL_do .plain rfl (D_load (g := g1) Try.isAgg31 Try.sizeOf31 rfl q1 fun c4 z5 => ?_)))
  refine EL_pur (v := .int .i64 ((x0).length : Int)) (P_len Try.underlying31 rfl z5) .plain rfl ?_
  refine EL_mw (.int .i64 (0)) rfl rfl ?_
  refine EL_nil (thn_n (E_block ?_))
  refine E_lp h (fun (s : (List Int) × Int) e w => ∃ (g : Gh) (v4 : Value), Fr gI wI g w ∧ e 1 = .int .i64 (x1) ∧ e 2 = p1 ∧ PT g.m w (x0 : List LoomRun) p1 ∧ e 4 = v4 ∧ OA 4004 g w 3 (s.1 : List Int) v4 ∧ e 7 = c4 ∧ RV g.m w (x0 : List LoomRun) c4 ∧ e 8 = .int .i64 (((x0).length : Int)) ∧ e 9 = .int .i64 (s.2)) ⟨g1, (.slice none 0 0), hfr, rfl, rfl, q1, rfl, b2, rfl, z5, rfl, rfl⟩ (fun X31 x5 c6 => ?_)
  rintro ⟨j2, j0⟩ v6 a7 ⟨o4, j4, hfr, i3, j3, u0, o3, j1, p3, o0, u3, z1⟩ h
  refine E_seq (E_region (EL_in (.bool ((decide (j0 < ((x0).length : Int))))) z1 u3 rfl rfl ?_))
  refine EL_nil (thn_n (E_seq ?_))
  rcases csome h with ⟨d4, h⟩ | ⟨d4, h⟩
  ·refine E_ct d4 rfl ?_
   refine E_skip (thn_n ?_)
   obtain ⟨z2, hx, h⟩ := bsome h
   refine E_join (fun e w => ∃ (g : Gh) (v4 : Value), Fr gI wI g w ∧ e 1 = .int .i64 (x1) ∧ e 2 = p1 ∧ PT g.m w (x0 : List LoomRun) p1 ∧ e 4 = v4 ∧ OA 4004 g w 3 (z2 : List Int) v4 ∧ e 7 = c4 ∧ RV g.m w (x0 : List LoomRun) c4 ∧ e 8 = .int .i64 (((x0).length : Int)) ∧ e 9 = .int .i64 (j0)) (fun Q' hQ => ?_) (fun x6 b7 hR => ?_)
   ·replace h := hx
    clear hx
    refine E_block ?_
    refine E_seq (E_region (EL_mv z1 rfl ?_))
    obtain ⟨n4, p4, h⟩ := bsome h
    refine EL_pur (v := ePtr c4 j0 3) (P_indexAddr (α := LoomRun) Try.underlying31 Try.sizeOf76 p3 o0 z1 p4) .plain rfl ?_
    have j6 := PT_idx o0 p4
    refine EL_do .plain rfl (D_load (g := o4) Try.isAgg76 Try.sizeOf76 rfl j6 fun k6 u4 => ?_)
    refine EL_do .plain rfl (D_allocOc (g := o4) 2006 (⟨0, 0, 0⟩ : LoomRun) Try.zeroValue76 (fun m w => ⟨_, (rep_two rep_int (rep_two rep_int rep_int)), rfl⟩) fun l6 c7 m6 hs b48 cb => ?_)
    have hfr := hfr.stp hs
    have u0 := u0.stp hs
    have j1 := j1.stp hs rfl
    have o0 := o0.stp hs
    have u4 := u4.stp hs
    clear cb
    refine EL_at (.int .i64 (j0)) rfl rfl ?_
    refine EL_do .plain rfl (D_storeOc (g := l6) (v := k6) Try.sizeOf76 rfl b48 rfl u4 fun x4 d7 hs b49 cb => ?_)
    clear cb
    have hfr := hfr.stp hs
    have u0 := u0.stp hs
    have j1 := j1.stp hs rfl
    have o0 := o0.stp hs
    refine EL_nil (thn_n (E_seq (E_region (EL_pur (v := fPtr m6 1) (P_fieldAddr at_76_1 rfl (OB.ptr b49)) .plain rfl ?_))))
    refine EL_do .plain rfl (D_loadF (g := x4) part_LoomRun_1.1 Try.isAgg3 Try.sizeOf3 rfl b49 fun e7 n6 => ?_)
    obtain rfl := RV_int.1 n6
    refine EL_mv i3 rfl ?_
    refine EL_in (.bool (((n4).Loom == x1))) rfl rfl rfl rfl ?_
    refine EL_nil (thn_n ?_)
    rcases csome h with ⟨i4, h⟩ | ⟨i4, h⟩
    ·refine E_ct i4 rfl ?_
     refine E_region (EL_mv o3 rfl ?_)
     refine EL_mw (.int .i64 (j0)) rfl rfl ?_
     refine EL_do .plain rfl (D_buildSlice (g := x4) 3020 (xs := ([j0] : List Int)) (vs := [.int .i64 (j0)]) Try.underlying22 Try.sizeOf3 Try.zeroValue3 rfl rfl (.cons rfl .nil) (RVs.cons (RV_int.2 rfl) RVs.nil) rfl rfl fun o6 g7 i7 hs o53 p6 hxt hfl => ?_)
     have hfr := hfr.stp hs
     have u0 := u0.stp hs
     have j1 := j1.stp hs rfl
     have o0 := o0.stp hs
     obtain ⟨y55, d6, h⟩ := bsome h
     refine EL_do .plain rfl (D_appendA (g := o6) plain_int (i := 4004) Try.underlying22 info_3 rfl rfl j1 rfl p6 d6 fun q6 j7 b6 hs b54 => ?_)
     have hfr := hfr.stp hs
     have u0 := u0.stp hs
     have o0 := o0.stp hs
     refine EL_at b6 rfl rfl ?_
     refine EL_nil (blk_n ?_)
     obtain rfl := sinj h
     exact hQ _ _ ⟨q6, (b6), hfr, i3, j3, u0, rfl, b54, p3, o0, u3, z1⟩
    ·refine E_cf i4 rfl ?_
     refine E_skip (blk_n ?_)
     obtain rfl := sinj h
     exact hQ _ _ ⟨x4, (j4), hfr, i3, j3, u0, o3, j1, p3, o0, u3, z1⟩
   ·clear hx
    obtain ⟨r6, z4, hfr, c5, d5, i5, j5, l5, m5, n5, o5, p5⟩ := hR
    refine E_region (EL_in (.int .i64 ((w64 (j0 + (1 : Int))))) p5 rfl rfl rfl ?_)
    refine EL_mw (.int .i64 ((w64 (j0 + (1 : Int))))) rfl rfl ?_
    exact EL_nil (thn_n (c6 (z2, (w64 (j0 + (1 : Int)))) _ _ ⟨r6, (z4), hfr, c5, d5, i5, j5, l5, m5, n5, o5, rfl⟩ h))
  ·refine E_cf d4 rfl ?_
   refine E_exit ?_
   refine thn_e ?_
   refine thn_e ?_
   refine blk_hit ?_
   obtain rfl := sinj h
   exact hQ _ _ ⟨o4, (j4), hfr, j3, u0, o3, j1⟩
 ·clear hx
  obtain ⟨t6, z3, hfr, q5, t5, m4, u5⟩ := hR
  refine E_seq (E_region (EL_mv m4 rfl ?_))
  refine EL_pur (v := (.func (.func 88) #[] #[p1])) (P_makeFunc (capf_0_1 (show ev _ _ = p1 from q5))) .plain rfl ?_
  obtain ⟨y5, i6, h⟩ := bsome h
  refine EL_do .plain rfl (D_callM (g := t6) (i := 4004) (vs := [z3, (.func (.func 88) #[] #[p1])]) en87 (.cons rfl (.cons rfl .nil)) (wk87 (u5.toM) ⟨88, #[], #[p1], rfl, en88, fun g' w' hch a0 a1 b0 b1 r hu0 hu1 hr => by obtain rfl := RV_int.1 hu0; obtain rfl := RV_int.1 hu1; exact Fn.mono (wk88  (t5.ch hch) hr) fun _ _ _ h => RV_int.2 h⟩ i6) fun m7 y6 n7 hs hr => ?_)
  obtain ⟨hrv, b58⟩ := hr
  have hfr := hfr.stp hs
  subst hrv
  refine EL_nil (thn_n (E_seq (E_region (EL_mv m4 rfl ?_))))
  refine EL_at z3 rfl rfl ?_
  refine EL_nil (thn_n (E_ret ?_))
  obtain ⟨gp60, hs, rp60⟩ := OM.pub b58
  have hfr := hfr.stp hs
  obtain rfl := sinj h
  exact end1 rfl rfl (show _ = z3 from rfl) ⟨_, hfr, rp60⟩
/-- griffe/loom.areDays -/
def f71 (x0 : List Int) : Option (Bool) :=
 (f81 ((0 : Int)) ((300 : Int)) x0).bind fun y2 =>
 some (y2)
theorem en71 : Enters Try.prog 71 := enters_of Try.func71 (by kernel_rfl) rfl
theorem wk71 {gI : Gh} {wI : World} {x0 : List Int} {up0 : Value} (rp0 : RV gI.m wI x0 up0) {r : Bool} (h : f71 x0 = some r) : Fn Try.prog 71 #[up0] gI wI (fun _ _ v => v = .bool (r)) := by
 unfold f71 at h
 refine fn_of_E Try.func71 rfl (Nat.le_of_ble_eq_true rfl) fun g0 hm hfr => ?_
 have rp0 : RV g0.m wI x0 up0 := hm ▸ rp0
 show E _ 5 none _ _ _ _ _
 refine E_seq (E_region (EL_at (.bool false) rfl rfl ?_))
 refine EL_nil (thn_n (E_seq (E_region (EL_mw up0 rfl rfl ?_))))
 obtain ⟨y2, hy2, h⟩ := bsome h
 refine EL_do .plain rfl (D_call (g := g0) (vs := [.int .i64 (0), .int .i64 (300), up0]) en81 (.cons rfl (.cons rfl (.cons rfl .nil))) (wk81 rp0 hy2) fun g1 w1_ v1 hs hr => ?_)
 have hfr := hfr.ext hs
 subst hr
 refine EL_at (.bool (y2)) rfl rfl ?_
 refine EL_nil (thn_n (E_ret ?_))
 obtain rfl := sinj h
 exact end1 rfl rfl (show _ = .bool (y2) from rfl) ⟨_, hfr, rfl⟩
/-- griffe/loom.isOrder -/
def f80 (x0 : LoomOrder) : Option (Bool) :=
 Option.bind (α := Bool) (
  (f81 ((1 : Int)) ((100 : Int)) (([(x0).Width] : List Int))).bind fun j2 =>
  bif j2 then
   (f81 ((0 : Int)) ((100 : Int)) (([(x0).Chain] : List Int))).bind fun z1 =>
   bif z1 then
    (f81 ((1 : Int)) ((100 : Int)) (([(x0).Woven] : List Int))).bind fun y43 =>
    bif y43 then
     (f71 (([(x0).Early, (x0).Late] : List Int))).bind fun z2 =>
     some (z2)
    else
     some (false)
   else
    some (false)
  else
   some (false)
  ) fun j1 =>
 some (j1)
theorem en80 : Enters Try.prog 80 := enters_of Try.func80 (by kernel_rfl) rfl
theorem wk80 {gI : Gh} {wI : World} {x0 : LoomOrder} {up0 : Value} (rp0 : RV gI.m wI x0 up0) {r : Bool} (h : f80 x0 = some r) : Fn Try.prog 80 #[up0] gI wI (fun _ _ v => v = .bool (r)) := by
 unfold f80 at h
 refine fn_of_E Try.func80 rfl (Nat.le_of_ble_eq_true rfl) fun g0 hm hfr => ?_
 have rp0 : RV g0.m wI x0 up0 := hm ▸ rp0
 show E _ 27 none _ _ _ _ _
 refine E_seq (E_region (EL_do .plain rfl (D_box (g := g0) rfl rp0 fun g1 w1 p1 hs q1 => ?_)))
 have hfr := hfr.ext hs
 refine EL_at (.bool false) rfl rfl ?_
 refine EL_nil (thn_n ?_)
 obtain ⟨j1, hx, h⟩ := bsome h
 refine E_join (fun e w => ∃ (g : Gh) , Fr gI wI g w ∧ e 2 = .bool (j1)) (fun Q' hQ => ?_) (fun y5 i6 hR => ?_)
 ·replace h := hx
  clear hx
  refine E_region (EL_pur (v := fPtr p1 0) (P_fieldAddr at_82_0 rfl (PT.ptr q1)) .plain rfl ?_)
  have d4 := PT_field (part_LoomOrder_0).1 q1
  refine EL_do .plain rfl (D_load (g := g1) Try.isAgg3 Try.sizeOf3 rfl d4 fun j6 i4 => ?_)
  obtain rfl := RV_int.1 i4
  refine EL_do .plain rfl (D_buildSlice (g := g1) 3005 (xs := ([(x0).Width] : List Int)) (vs := [.int .i64 ((x0).Width)]) Try.underlying22 Try.sizeOf3 Try.zeroValue3 rfl rfl (.cons rfl .nil) (RVs.cons (RV_int.2 rfl) RVs.nil) rfl rfl fun j4 k6 m4 hs o29 n4 hxt hfl => ?_)
  have hfr := hfr.stp hs
  have q1 := q1.stp hs
  obtain ⟨j2, p3, h⟩ := bsome h
  refine EL_do .plain rfl (D_call (g := j4) (vs := [.int .i64 (1), .int .i64 (100), m4]) en81 (.cons rfl (.cons rfl (.cons rfl .nil))) (wk81 n4 p3) fun i3 z5 l6 hs hr => ?_)
  have hfr := hfr.ext hs
  have q1 := q1.ext hs
  subst hr
  refine EL_mw (.bool (j2)) rfl rfl ?_
  rcases csome h with ⟨o0, h⟩ | ⟨o0, h⟩
  ·refine EL_pur (v := fPtr p1 1) (P_fieldAddr at_82_1 rfl (PT.ptr q1)) (.yes2 rfl rfl o0) rfl ?_
   have o4 := PT_field (part_LoomOrder_1).1 q1
   refine EL_do (.yes2 rfl rfl o0) rfl (D_load (g := i3) Try.isAgg3 Try.sizeOf3 rfl o4 fun m6 p4 => ?_)
   obtain rfl := RV_int.1 p4
   refine EL_do (.yes2 rfl rfl o0) rfl (D_buildSlice (g := i3) 3010 (xs := ([(x0).Chain] : List Int)) (vs := [.int .i64 ((x0).Chain)]) Try.underlying22 Try.sizeOf3 Try.zeroValue3 rfl rfl (.cons rfl .nil) (RVs.cons (RV_int.2 rfl) RVs.nil) rfl rfl fun u4 n6 x4 hs o35 z4 hxt hfl => ?_)
   have hfr := hfr.stp hs
   have q1 := q1.stp hs
   obtain ⟨z1, u3, h⟩ := bsome h
   refine EL_do (.yes2 rfl rfl o0) rfl (D_call (g := u4) (vs := [.int .i64 (0), .int .i64 (100), x4]) en81 (.cons rfl (.cons rfl (.cons rfl .nil))) (wk81 z4 u3) fun j3 b6 o6 hs hr => ?_)
   have hfr := hfr.ext hs
   have q1 := q1.ext hs
   subst hr
   refine EL_pur (v := .bool (z1)) (P_pick (b := j2) rfl (pick_t o0 rfl)) .plain rfl ?_
   refine EL_mw (.bool (z1)) rfl rfl ?_
   rcases csome h with ⟨u0, h⟩ | ⟨u0, h⟩
   ·refine EL_pur (v := fPtr p1 2) (P_fieldAddr at_82_2 rfl (PT.ptr q1)) (.yes2 rfl rfl u0) rfl ?_
    have c5 := PT_field (part_LoomOrder_2).1 q1
    refine EL_do (.yes2 rfl rfl u0) rfl (D_load (g := j3) Try.isAgg3 Try.sizeOf3 rfl c5 fun p6 d5 => ?_)
    obtain rfl := RV_int.1 d5
    refine EL_do (.yes2 rfl rfl u0) rfl (D_buildSlice (g := j3) 3016 (xs := ([(x0).Woven] : List Int)) (vs := [.int .i64 ((x0).Woven)]) Try.underlying22 Try.sizeOf3 Try.zeroValue3 rfl rfl (.cons rfl .nil) (RVs.cons (RV_int.2 rfl) RVs.nil) rfl rfl fun i5 q6 j5 hs o41 l5 hxt hfl => ?_)
    have hfr := hfr.stp hs
    have q1 := q1.stp hs
    obtain ⟨y43, z3, h⟩ := bsome h
    refine EL_do (.yes2 rfl rfl u0) rfl (D_call (g := i5) (vs := [.int .i64 (1), .int .i64 (100), j5]) en81 (.cons rfl (.cons rfl (.cons rfl .nil))) (wk81 l5 z3) fun d3 c6 r6 hs hr => ?_)
    have hfr := hfr.ext hs
    have q1 := q1.ext hs
    subst hr
    refine EL_pur (v := .bool (y43)) (P_pick (b := z1) rfl (pick_t u0 rfl)) .plain rfl ?_
    refine EL_mw (.bool (y43)) rfl rfl ?_
    rcases csome h with ⟨j0, h⟩ | ⟨j0, h⟩
    ·refine EL_pur (v := fPtr p1 3) (P_fieldAddr at_82_3 rfl (PT.ptr q1)) (.yes2 rfl rfl j0) rfl ?_
     have m5 := PT_field (part_LoomOrder_3).1 q1
     refine EL_do (.yes2 rfl rfl j0) rfl (D_load (g := d3) Try.isAgg3 Try.sizeOf3 rfl m5 fun t6 n5 => ?_)
     obtain rfl := RV_int.1 n5
     refine EL_pur (v := fPtr p1 4) (P_fieldAddr at_82_4 rfl (PT.ptr q1)) (.yes2 rfl rfl j0) rfl ?_
     have o5 := PT_field (part_LoomOrder_4).1 q1
     refine EL_do (.yes2 rfl rfl j0) rfl (D_load (g := d3) Try.isAgg3 Try.sizeOf3 rfl o5 fun u6 p5 => ?_)
     obtain rfl := RV_int.1 p5
     refine EL_do (.yes2 rfl rfl j0) rfl (D_buildSlice (g := d3) 3024 (xs := ([(x0).Early, (x0).Late] : List Int)) (vs := [.int .i64 ((x0).Early), .int .i64 ((x0).Late)]) Try.underlying22 Try.sizeOf3 Try.zeroValue3 rfl rfl (.cons rfl (.cons rfl .nil)) (RVs.cons (RV_int.2 rfl) (RVs.cons (RV_int.2 rfl) RVs.nil)) rfl rfl fun q5 v6 t5 hs o49 u5 hxt hfl => ?_)
     have hfr := hfr.stp hs
     obtain ⟨z2, c4, h⟩ := bsome h
     refine EL_do (.yes2 rfl rfl j0) rfl (D_call (g := q5) (vs := [t5]) en71 (.cons rfl .nil) (wk71 u5 c4) fun x5 d6 x6 hs hr => ?_)
     have hfr := hfr.ext hs
     subst hr
     refine EL_pur (v := .bool (z2)) (P_pick (b := y43) rfl (pick_t j0 rfl)) .plain rfl ?_
     refine EL_at (.bool (z2)) rfl rfl ?_
     refine EL_nil ?_
     obtain rfl := sinj h
     exact hQ _ _ ⟨x5, hfr, rfl⟩
    ·refine EL_skip (.no2 rfl rfl j0 rfl) rfl ?_
     refine EL_skip (.no2 rfl rfl j0 rfl) rfl ?_
     refine EL_skip (.no2 rfl rfl j0 rfl) rfl ?_
     refine EL_skip (.no2 rfl rfl j0 rfl) rfl ?_
     refine EL_skip (.no2 rfl rfl j0 rfl) rfl ?_
     refine EL_skip (.no2 rfl rfl j0 rfl) rfl ?_
     refine EL_pur (v := .bool false) (P_pick (b := y43) rfl (pick_f j0 rfl)) .plain rfl ?_
     refine EL_at (.bool false) rfl rfl ?_
     refine EL_nil ?_
     obtain rfl := sinj h
     exact hQ _ _ ⟨d3, hfr, rfl⟩
   ·refine EL_skip (.no2 rfl rfl u0 rfl) rfl ?_
    refine EL_skip (.no2 rfl rfl u0 rfl) rfl ?_
    refine EL_skip (.no2 rfl rfl u0 rfl) rfl ?_
    refine EL_skip (.no2 rfl rfl u0 rfl) rfl ?_
    refine EL_pur (v := .bool false) (P_pick (b := z1) rfl (pick_f u0 rfl)) .plain rfl ?_
    refine EL_dead 8 rfl ?_
    refine EL_at (.bool false) rfl rfl ?_
    refine EL_nil ?_
    obtain rfl := sinj h
    exact hQ _ _ ⟨j3, hfr, rfl⟩
  ·refine EL_skip (.no2 rfl rfl o0 rfl) rfl ?_
   refine EL_skip (.no2 rfl rfl o0 rfl) rfl ?_
   refine EL_skip (.no2 rfl rfl o0 rfl) rfl ?_
   refine EL_skip (.no2 rfl rfl o0 rfl) rfl ?_
   refine EL_pur (v := .bool false) (P_pick (b := j2) rfl (pick_f o0 rfl)) .plain rfl ?_
   refine EL_dead 14 rfl ?_
   refine EL_at (.bool false) rfl rfl ?_
   refine EL_nil ?_
   obtain rfl := sinj h
   exact hQ _ _ ⟨i3, hfr, rfl⟩
 ·clear hx
  obtain ⟨y6, hfr, o3⟩ := hR
  refine E_ret ?_
  obtain rfl := sinj h
  exact end1 rfl rfl (show _ = .bool (j1) from o3) ⟨_, hfr, rfl⟩
end Go.Proofs.Ytnfjhdagbknlbaa
