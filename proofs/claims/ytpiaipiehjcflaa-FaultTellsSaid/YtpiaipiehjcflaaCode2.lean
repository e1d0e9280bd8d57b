import Derived.Test.YtpiaipiehjcflaaCode1
set_option maxRecDepth 8000
set_option maxHeartbeats 4000000
namespace Go.Proofs.Ytpiaipiehjcflaa
open Go.RowKit
/-- griffe/grifferef01.Same -/
def f58 (x0 : Design) (x1 : Design) : Option (Bool) :=
 jn (σ := Unit) (fun (_ : Unit) =>
  jn (σ := Unit) (fun (_ : Unit) =>
   some (true)
   ) fun d5 =>
  lp (σ := Int) (fun e5 j0 =>
   jn (σ := Unit) (fun (_ : Unit) =>
    jn (σ := Unit) (fun (_ : Unit) =>
     e5 ((w64 (j0 + (1 : Int))))
     ) fun r3 =>
    (idx ((x0).Rows) j0).bind fun u0 =>
    (idx ((x1).Rows) j0).bind fun y0 =>
    bif (u0 != y0) then
     some (false)
    else
     r3 ()
    ) fun i5 =>
   bif (decide (j0 < (((x0).Rows).length : Int))) then
    i5 ()
   else
    d5 ()
   ) big ((0 : Int))
  ) fun k8 =>
 (f84 x0 x1).bind fun i2 =>
 bif (!i2) then
  some (false)
 else
  k8 ()
theorem en58 : Enters Try.prog 58 := enters_of Try.func58 (by kernel_rfl) rfl
theorem wk58 {gI : Gh} {wI : World} {x0 : Design} {x1 : Design} {up0 : Value} (rp0 : RV gI.m wI x0 up0) {up1 : Value} (rp1 : RV gI.m wI x1 up1) {r : Bool} (h : f58 x0 x1 = some r) : Fn Try.prog 58 #[up0, up1] gI wI (fun _ _ v => v = .bool (r)) := by
 unfold f58 at h
 refine fn_of_E Try.func58 rfl (Nat.le_of_ble_eq_true rfl) fun g0 hm hfr => ?_
 have rp0 : RV g0.m wI x0 up0 := hm ▸ rp0
 have rp1 : RV g0.m wI x1 up1 := hm ▸ rp1
 show E _ 28 none _ _ _ _ _
 refine E_seq (E_region (EL_do .plain rfl (D_box (g := g0) rfl rp0 fun g1 w1 p1 hs q1 => ?_)))
 have hfr := hfr.ext hs
 have rp0 := rp0.ext hs
 have rp1 := rp1.ext hs
 refine EL_do .plain rfl (D_box (g := g1) rfl rp1 fun g2 w2 p2 hs q2 => ?_)
 have hfr := hfr.ext hs
 have rp0 := rp0.ext hs
 have rp1 := rp1.ext hs
 have q1 := q1.ext hs
 refine EL_pur (v := .bool false) (P_assign rfl) .plain rfl ?_
 refine EL_nil (thn_n (E_joinC h (fun (s : Unit) e w => ∃ (g : Gh) , Fr gI wI g w ∧ e 2 = p1 ∧ PT g.m w (x0 : Design) p1 ∧ e 3 = p2 ∧ PT g.m w (x1 : Design) p2) (fun X8 k8 t5 h => ?_) ?_))
 ·refine E_seq (E_region (EL_do .plain rfl (D_load (g := g2) Try.isAgg26 Try.sizeOf26 rfl q1 fun v9 r9 => ?_)))
  refine EL_do .plain rfl (D_load (g := g2) Try.isAgg26 Try.sizeOf26 rfl q2 fun u5 s3 => ?_)
  obtain ⟨i2, j5, h⟩ := bsome h
  refine EL_do .plain rfl (D_call (g := g2) (vs := [v9, u5]) en84 (.cons rfl (.cons rfl .nil)) (wk84 r9 s3 j5) fun x5 e6 r6 hs hr => ?_)
  have hfr := hfr.ext hs
  have rp0 := rp0.ext hs
  have rp1 := rp1.ext hs
  have q1 := q1.ext hs
  have q2 := q2.ext hs
  have r9 := r9.ext hs
  have s3 := s3.ext hs
  subst hr
  refine EL_pur (v := .bool (!i2)) (P_not rfl) .plain rfl ?_
  refine EL_nil (thn_n ?_)
  rcases csome h with ⟨j2, h⟩ | ⟨j2, h⟩
  ·refine E_cond_true (Eq.trans (show ev _ _ = .bool ((!i2)) from rfl) (congrArg Value.bool j2)) ?_
   refine E_seq (E_region (EL_pur (v := .bool false) (P_assign rfl) .plain rfl ?_))
   refine EL_nil (thn_n (E_ret (thn_r ?_)))
   obtain rfl := Option.some.inj h
   exact end1 rfl rfl (show _ = .bool false from rfl) ⟨_, hfr, rfl⟩
  ·refine E_cond_false (Eq.trans (show ev _ _ = .bool ((!i2)) from rfl) (congrArg Value.bool j2)) ?_
   exact E_skip (thn_n (t5 () _ _ ⟨x5, hfr, rfl, q1, rfl, q2⟩ h))
 ·rintro _ i6 s6 ⟨y5, hfr, n4, o4, p4, q4⟩ h
  refine E_joinC h (fun (s : Unit) e w => ∃ (g : Gh) , Fr gI wI g w) (fun X79 d5 l5 h => ?_) ?_
  ·refine E_seq (E_region (EL_pur (v := .int .i64 (0)) (P_assign rfl) .plain rfl ?_))
   refine EL_nil (thn_n (E_block ?_))
   refine E_lp h (fun (s : Int) e w => ∃ (g : Gh) , Fr gI wI g w ∧ e 2 = p1 ∧ PT g.m w (x0 : Design) p1 ∧ e 3 = p2 ∧ PT g.m w (x1 : Design) p2 ∧ e 5 = .int .i64 (s)) ⟨y5, hfr, n4, o4, p4, q4, rfl⟩ (fun X80 e5 m5 => ?_)
   rintro j0 j6 t6 ⟨u3, hfr, i3, i1, r4, s4, j3⟩ h
   refine E_joinC h (fun (s : Unit) e w => ∃ (g : Gh) , Fr gI wI g w ∧ e 2 = p1 ∧ PT g.m w (x0 : Design) p1 ∧ e 3 = p2 ∧ PT g.m w (x1 : Design) p2 ∧ e 5 = .int .i64 (j0)) (fun X85 i5 n5 h => ?_) ?_
   ·refine E_seq (E_region (EL_pur (v := .int .i64 (j0)) (P_move j3) .plain rfl ?_))
    refine EL_pur (v := fPtr p1 1) (P_fieldAddr at_26_1 i3 (PT.ptr i1)) .plain rfl ?_
    have z5 := PT_field (part_Design_1).1 i1
    refine EL_do .plain rfl (D_load (g := u3) Try.isAgg22 Try.sizeOf22 rfl z5 fun u6 a6 => ?_)
    refine EL_pur (v := .int .i64 (((x0).Rows).length : Int)) (P_len Try.underlying22 rfl a6) .plain rfl ?_
    refine EL_pur (v := .bool ((decide (j0 < (((x0).Rows).length : Int))))) (P_int rfl rfl rfl) .plain rfl ?_
    refine EL_nil (thn_n ?_)
    rcases csome h with ⟨m2, h⟩ | ⟨m2, h⟩
    ·refine E_cond_true (Eq.trans (show ev _ _ = .bool ((decide (j0 < (((x0).Rows).length : Int)))) from rfl) (congrArg Value.bool m2)) ?_
     exact E_skip (thn_n (n5 () _ _ ⟨u3, hfr, i3, i1, r4, s4, j3⟩ h))
    ·refine E_cond_false (Eq.trans (show ev _ _ = .bool ((decide (j0 < (((x0).Rows).length : Int)))) from rfl) (congrArg Value.bool m2)) ?_
     refine E_exit ?_
     refine thn_e ?_
     refine thn_e ?_
     refine blk_hit ?_
     exact thn_n (l5 () _ _ ⟨u3, hfr⟩ h)
   ·rintro _ k6 v6 ⟨b6, hfr, m3, n0, o3, o0, j1⟩ h
    refine E_joinC h (fun (s : Unit) e w => ∃ (g : Gh) , Fr gI wI g w ∧ e 2 = p1 ∧ PT g.m w (x0 : Design) p1 ∧ e 3 = p2 ∧ PT g.m w (x1 : Design) p2 ∧ e 5 = .int .i64 (j0)) (fun X116 r3 u4 h => ?_) ?_
    ·refine E_block ?_
     refine E_seq ?_
     have s2 := PT_field (part_Design_1).1 n0
     refine L_load (x := .tmp 17) Try.isAgg22 Try.sizeOf22 s2 fun z3 m1 x4 => ?_
     obtain ⟨u0, p3, h⟩ := bsome h
     have z2 := PT_idx m1 p3
     refine L_load (x := .tmp 20) Try.isAgg3 Try.sizeOf3 z2 fun l6 o5 z4 => ?_
     obtain rfl := RV_int.1 o5
     have d3 := PT_field (part_Design_1).1 o0
     refine L_load (x := .tmp 22) Try.isAgg22 Try.sizeOf22 d3 fun c4 z1 b5 => ?_
     obtain ⟨y0, q3, h⟩ := bsome h
     have e3 := PT_idx z1 q3
     refine L_load (x := .tmp 25) Try.isAgg3 Try.sizeOf3 e3 fun m6 p5 c5 => ?_
     obtain rfl := RV_int.1 p5
     refine E_drawL (g := b6) (n := 11) [] [0, 1, 2, 3, 4, 5, 6, 7, 8, 9, 10] rfl mixed (by kernel_rfl) trivial ?_
     refine L_pur (c := fPtr p1 1) rfl rfl .plain (fun _ _ hd => P_fieldAddr at_26_1 m3 (PT.ptr n0)) ?_
     refine L_ld (c := z3) rfl rfl .plain (fun _ _ h => h.ch) x4 rfl ?_
     refine L_pur (c := .int .i64 (j0)) rfl rfl .plain (fun _ _ hd => P_move j1) ?_
     refine L_pur (c := ePtr z3 j0 1) rfl rfl .plain (fun _ _ hd => P_indexAddr (α := Int) Try.underlying22 Try.sizeOf3 rfl m1 rfl p3) ?_
     refine L_ld (c := .int .i64 (u0)) rfl rfl .plain (fun _ _ h => h.ch) z4 rfl ?_
     refine L_pur (c := fPtr p2 1) rfl rfl .plain (fun _ _ hd => P_fieldAddr at_26_1 o3 (PT.ptr o0)) ?_
     refine L_ld (c := c4) rfl rfl .plain (fun _ _ h => h.ch) b5 rfl ?_
     refine L_pur (c := .int .i64 (j0)) rfl rfl .plain (fun _ _ hd => P_move j1) ?_
     refine L_pur (c := ePtr c4 j0 1) rfl rfl .plain (fun _ _ hd => P_indexAddr (α := Int) Try.underlying22 Try.sizeOf3 rfl z1 rfl q3) ?_
     refine L_ld (c := .int .i64 (y0)) rfl rfl .plain (fun _ _ h => h.ch) c5 rfl ?_
     refine L_pur (c := .bool ((u0 != y0))) rfl rfl .plain (fun _ _ hd => P_int rfl rfl rfl) ?_
     refine L_nil fun q5 n6 hall => ?_
     have hs := hall.1
     have hfr := hfr.ext hs
     have n0 := n0.ext hs
     have o0 := o0.ext hs
     have s2 := s2.ext hs
     have m1 := m1.ext hs
     have z2 := z2.ext hs
     have d3 := d3.ext hs
     have z1 := z1.ext hs
     have e3 := e3.ext hs
     clear hs hall
     refine EL_nil (thn_n ?_)
     rcases csome h with ⟨d2, h⟩ | ⟨d2, h⟩
     ·refine E_cond_true (Eq.trans (show ev _ _ = .bool ((u0 != y0)) from rfl) (congrArg Value.bool d2)) ?_
      refine E_seq (E_region (EL_pur (v := .bool false) (P_assign rfl) .plain rfl ?_))
      refine EL_nil (thn_n (E_ret (blk_r ?_)))
      refine thn_r ?_
      refine thn_r ?_
      refine blk_r ?_
      refine thn_r ?_
      obtain rfl := Option.some.inj h
      exact end1 rfl rfl (show _ = .bool false from rfl) ⟨_, hfr, rfl⟩
     ·refine E_cond_false (Eq.trans (show ev _ _ = .bool ((u0 != y0)) from rfl) (congrArg Value.bool d2)) ?_
      exact E_skip (blk_n (thn_n (u4 () _ _ ⟨q5, hfr, m3, n0, o3, o0, j1⟩ h)))
    ·rintro _ c6 o6 ⟨r5, hfr, d4, e4, i4, j4, m4⟩ h
     refine E_region (EL_pur (v := .int .i64 (j0)) (P_move m4) .plain rfl ?_)
     refine EL_pur (v := .int .i64 ((w64 (j0 + (1 : Int))))) (P_int rfl rfl rfl) .plain rfl ?_
     refine EL_pur (v := .int .i64 ((w64 (j0 + (1 : Int))))) (P_assign rfl) .plain rfl ?_
     exact EL_nil (thn_n (m5 ((w64 (j0 + (1 : Int)))) _ _ ⟨r5, hfr, d4, e4, i4, j4, rfl⟩ h))
  ·rintro _ d6 p6 ⟨q6, hfr⟩ h
   refine E_seq (E_region (EL_pur (v := .bool true) (P_assign rfl) .plain rfl ?_))
   refine EL_nil (thn_n (E_ret ?_))
   obtain rfl := Option.some.inj h
   exact end1 rfl rfl (show _ = .bool true from rfl) ⟨_, hfr, rfl⟩
/-- slices.ContainsFunc[[]griffe/api.FaultSight,griffe/api.FaultSight] -/
def f63 (x0 : List FaultSight) (x1 : FaultSight → Option Bool) : Option (Bool) :=
 (f89 x0 x1).bind fun y2 =>
 some ((decide (y2 ≥ (0 : Int))))
theorem en63 : Enters Try.prog 63 := enters_of Try.func63 (by kernel_rfl) rfl
theorem wk63 {gI : Gh} {wI : World} {x0 : List FaultSight} {x1 : FaultSight → Option Bool} {up0 : Value} (rp0 : RV gI.m wI x0 up0) {up1 : Value} (rp1 : FnV1 Try.prog x1 up1 gI wI) {r : Bool} (h : f63 x0 x1 = some r) : Fn Try.prog 63 #[up0, up1] gI wI (fun _ _ v => v = .bool (r)) := by
 unfold f63 at h
 refine fn_of_E Try.func63 rfl (Nat.le_of_ble_eq_true rfl) fun g0 hm hfr => ?_
 have rp0 : RV g0.m wI x0 up0 := hm ▸ rp0
 obtain ⟨ff1, fa1, fc1, rfl, fen1, fcl1⟩ := rp1
 show E _ 9 none _ _ _ _ _
 refine E_seq (E_region (EL_pur (v := .bool false) (P_assign rfl) .plain rfl ?_))
 refine EL_nil (thn_n (E_seq (E_region (EL_pur (v := up0) (P_move rfl) .plain rfl ?_))))
 refine EL_pur (v := (.func (.func ff1) fa1 fc1)) (P_move rfl) .plain rfl ?_
 obtain ⟨y2, j0, h⟩ := bsome h
 refine EL_do .plain rfl (D_call (g := g0) (vs := [up0, (.func (.func ff1) fa1 fc1)]) en89 (.cons rfl (.cons rfl .nil)) (wk89 rp0 (FnV1.ch ⟨_, _, _, rfl, fen1, fcl1⟩ hfr.ch) j0) fun g1 w1_ v1 hs hr => ?_)
 have hfr := hfr.ext hs
 have rp0 := rp0.ext hs
 subst hr
 refine EL_pur (v := .bool ((decide (y2 ≥ (0 : Int))))) (P_int rfl rfl rfl) .plain rfl ?_
 refine EL_pur (v := .bool ((decide (y2 ≥ (0 : Int))))) (P_assign rfl) .plain rfl ?_
 refine EL_nil (thn_n (E_ret ?_))
 obtain rfl := Option.some.inj h
 exact end1 rfl rfl (show _ = .bool ((decide (y2 ≥ (0 : Int)))) from rfl) ⟨_, hfr, rfl⟩
/-- griffe/fault.fits -/
def f65 (x0 : List Str) (x1 : List FaultSight) : Option (Bool) :=
 (f63 x1 ((fun a0 => f91 a0 x0))).bind fun y3 =>
 some ((!y3))
theorem en65 : Enters Try.prog 65 := enters_of Try.func65 (by kernel_rfl) rfl
theorem wk65 {gI : Gh} {wI : World} {x0 : List Str} {x1 : List FaultSight} {up0 : Value} (rp0 : RV gI.m wI x0 up0) {up1 : Value} (rp1 : RV gI.m wI x1 up1) {r : Bool} (h : f65 x0 x1 = some r) : Fn Try.prog 65 #[up0, up1] gI wI (fun _ _ v => v = .bool (r)) := by
 unfold f65 at h
 refine fn_of_E Try.func65 rfl (Nat.le_of_ble_eq_true rfl) fun g0 hm hfr => ?_
 have rp0 : RV g0.m wI x0 up0 := hm ▸ rp0
 have rp1 : RV g0.m wI x1 up1 := hm ▸ rp1
 show E _ 9 none _ _ _ _ _
 refine E_seq (E_region (EL_do .plain rfl (D_box (g := g0) rfl rp0 fun g1 w1 p1 hs q1 => ?_)))
 have hfr := hfr.ext hs
 have rp0 := rp0.ext hs
 have rp1 := rp1.ext hs
 refine EL_pur (v := .bool false) (P_assign rfl) .plain rfl ?_
 refine EL_nil (thn_n (E_seq (E_region (EL_pur (v := up1) (P_move rfl) .plain rfl ?_))))
 refine EL_pur (v := (.func (.func 91) #[] #[p1])) (P_makeFunc (capf_0_1 (show ev _ _ = p1 from rfl))) .plain rfl ?_
 obtain ⟨y3, j0, h⟩ := bsome h
 refine EL_do .plain rfl (D_call (g := g1) (vs := [up1, (.func (.func 91) #[] #[p1])]) en63 (.cons rfl (.cons rfl .nil)) (wk63 rp1 ⟨91, #[], #[p1], rfl, en91, fun g' w' hch a0 b0 r hu0 hr => by exact Fn.mono (wk91 hu0 (q1.ch hch) hr) fun _ _ _ h => RV_bool.2 h⟩ j0) fun g2 w2_ v2 hs hr => ?_)
 have hfr := hfr.ext hs
 have rp0 := rp0.ext hs
 have rp1 := rp1.ext hs
 have q1 := q1.ext hs
 subst hr
 refine EL_pur (v := .bool (!y3)) (P_not rfl) .plain rfl ?_
 refine EL_pur (v := .bool (!y3)) (P_assign rfl) .plain rfl ?_
 refine EL_nil (thn_n (E_ret ?_))
 obtain rfl := Option.some.inj h
 exact end1 rfl rfl (show _ = .bool (!y3) from rfl) ⟨_, hfr, rfl⟩
/-- griffe/grifferef03.Check -/
def f66 (x0 : TieHarness) : Option (Int) :=
 jn (σ := Unit) (fun (_ : Unit) =>
  jn (σ := Unit) (fun (_ : Unit) =>
   jn (σ := Unit) (fun (_ : Unit) =>
    jn (σ := Unit) (fun (_ : Unit) =>
     some ((0 : Int))
     ) fun o4 =>
    lp (σ := Int) (fun p4 j0 =>
     jn (σ := Unit) (fun (_ : Unit) =>
      jn (σ := Unit) (fun (_ : Unit) =>
       p4 ((w64 (j0 + (1 : Int))))
       ) fun p3 =>
      (idx ((x0).Warps) j0).bind fun u0 =>
      (f92 u0 ((0 : Int)) ((w64 ((x0).Hooks - (1 : Int))))).bind fun o0 =>
      bif (!o0) then
       some ((2 : Int))
      else
       p3 ()
      ) fun q4 =>
     bif (decide (j0 < (((x0).Warps).length : Int))) then
      q4 ()
     else
      o4 ()
     ) big ((0 : Int))
    ) fun r4 =>
   bif ((((x0).Warps).length : Int) == (0 : Int)) then
    some ((7 : Int))
   else
    r4 ()
   ) fun s4 =>
  bif (decide ((((x0).Warps).length : Int) > (96 : Int))) then
   some ((5 : Int))
  else
   s4 ()
  ) fun k7 =>
 (f92 ((x0).Hooks) ((1 : Int)) ((24 : Int))).bind fun y11 =>
 bif (!y11) then
  some ((2 : Int))
 else
  k7 ()
theorem en66 : Enters Try.prog 66 := enters_of Try.func66 (by kernel_rfl) rfl
theorem wk66 {gI : Gh} {wI : World} {x0 : TieHarness} {up0 : Value} (rp0 : RV gI.m wI x0 up0) {r : Int} (h : f66 x0 = some r) : Fn Try.prog 66 #[up0] gI wI (fun _ _ v => v = .int .i64 (r)) := by
 unfold f66 at h
 refine fn_of_E Try.func66 rfl (Nat.le_of_ble_eq_true rfl) fun g0 hm hfr => ?_
 have rp0 : RV g0.m wI x0 up0 := hm ▸ rp0
 show E _ 33 none _ _ _ _ _
 refine E_seq (E_region (EL_do .plain rfl (D_box (g := g0) rfl rp0 fun g1 w1 p1 hs q1 => ?_)))
 have hfr := hfr.ext hs
 have rp0 := rp0.ext hs
 refine EL_pur (v := .int .i64 (0)) (P_assign rfl) .plain rfl ?_
 refine EL_nil (thn_n (E_joinC h (fun (s : Unit) e w => ∃ (g : Gh) , Fr gI wI g w ∧ e 1 = p1 ∧ PT g.m w (x0 : TieHarness) p1) (fun X7 k7 o5 h => ?_) ?_))
 ·refine E_seq (E_region (EL_pur (v := fPtr p1 0) (P_fieldAddr at_24_0 rfl (PT.ptr q1)) .plain rfl ?_))
  have q8 := PT_field (part_TieHarness_0).1 q1
  refine EL_do .plain rfl (D_load (g := g1) Try.isAgg3 Try.sizeOf3 rfl q8 fun v9 r9 => ?_)
  obtain rfl := RV_int.1 r9
  obtain ⟨y11, z4, h⟩ := bsome h
  refine EL_do .plain rfl (D_call (g := g1) (vs := [.int .i64 ((x0).Hooks), .int .i64 (1), .int .i64 (24)]) en92 (.cons rfl (.cons rfl (.cons rfl .nil))) (wk92  z4) fun p5 d6 t6 hs hr => ?_)
  have hfr := hfr.ext hs
  have rp0 := rp0.ext hs
  have q1 := q1.ext hs
  have q8 := q8.ext hs
  subst hr
  refine EL_pur (v := .bool (!y11)) (P_not rfl) .plain rfl ?_
  refine EL_nil (thn_n ?_)
  rcases csome h with ⟨i2, h⟩ | ⟨i2, h⟩
  ·refine E_cond_true (Eq.trans (show ev _ _ = .bool ((!y11)) from rfl) (congrArg Value.bool i2)) ?_
   refine E_seq (E_region (EL_pur (v := .int .i64 (2)) (P_assign rfl) .plain rfl ?_))
   refine EL_nil (thn_n (E_ret (thn_r ?_)))
   obtain rfl := Option.some.inj h
   exact end1 rfl rfl (show _ = .int .i64 (2) from rfl) ⟨_, hfr, rfl⟩
  ·refine E_cond_false (Eq.trans (show ev _ _ = .bool ((!y11)) from rfl) (congrArg Value.bool i2)) ?_
   exact E_skip (thn_n (o5 () _ _ ⟨p5, hfr, rfl, q1⟩ h))
 ·rintro _ e6 u6 ⟨u4, hfr, d3, y0⟩ h
  refine E_joinC h (fun (s : Unit) e w => ∃ (g : Gh) , Fr gI wI g w ∧ e 1 = p1 ∧ PT g.m w (x0 : TieHarness) p1) (fun X17 s4 b5 h => ?_) ?_
  ·refine E_seq (E_region (EL_pur (v := fPtr p1 1) (P_fieldAddr at_24_1 d3 (PT.ptr y0)) .plain rfl ?_))
   have q5 := PT_field (part_TieHarness_1).1 y0
   refine EL_do .plain rfl (D_load (g := u4) Try.isAgg22 Try.sizeOf22 rfl q5 fun v6 r5 => ?_)
   refine EL_pur (v := .int .i64 (((x0).Warps).length : Int)) (P_len Try.underlying22 rfl r5) .plain rfl ?_
   refine EL_pur (v := .bool ((decide ((((x0).Warps).length : Int) > (96 : Int))))) (P_int rfl rfl rfl) .plain rfl ?_
   refine EL_nil (thn_n ?_)
   rcases csome h with ⟨j2, h⟩ | ⟨j2, h⟩
   ·refine E_cond_true (Eq.trans (show ev _ _ = .bool ((decide ((((x0).Warps).length : Int) > (96 : Int)))) from rfl) (congrArg Value.bool j2)) ?_
    refine E_seq (E_region (EL_pur (v := .int .i64 (5)) (P_assign rfl) .plain rfl ?_))
    refine EL_nil (thn_n (E_ret (thn_r ?_)))
    obtain rfl := Option.some.inj h
    exact end1 rfl rfl (show _ = .int .i64 (5) from rfl) ⟨_, hfr, rfl⟩
   ·refine E_cond_false (Eq.trans (show ev _ _ = .bool ((decide ((((x0).Warps).length : Int) > (96 : Int)))) from rfl) (congrArg Value.bool j2)) ?_
    exact E_skip (thn_n (b5 () _ _ ⟨u4, hfr, d3, y0⟩ h))
  ·rintro _ i6 x6 ⟨x4, hfr, e3, i1⟩ h
   refine E_joinC h (fun (s : Unit) e w => ∃ (g : Gh) , Fr gI wI g w ∧ e 1 = p1 ∧ PT g.m w (x0 : TieHarness) p1) (fun X25 r4 c5 h => ?_) ?_
   ·refine E_seq (E_region (EL_pur (v := fPtr p1 1) (P_fieldAddr at_24_1 e3 (PT.ptr i1)) .plain rfl ?_))
    have t5 := PT_field (part_TieHarness_1).1 i1
    refine EL_do .plain rfl (D_load (g := x4) Try.isAgg22 Try.sizeOf22 rfl t5 fun y6 u5 => ?_)
    refine EL_pur (v := .int .i64 (((x0).Warps).length : Int)) (P_len Try.underlying22 rfl u5) .plain rfl ?_
    refine EL_pur (v := .bool (((((x0).Warps).length : Int) == (0 : Int)))) (P_int rfl rfl rfl) .plain rfl ?_
    refine EL_nil (thn_n ?_)
    rcases csome h with ⟨m2, h⟩ | ⟨m2, h⟩
    ·refine E_cond_true (Eq.trans (show ev _ _ = .bool (((((x0).Warps).length : Int) == (0 : Int))) from rfl) (congrArg Value.bool m2)) ?_
     refine E_seq (E_region (EL_pur (v := .int .i64 (7)) (P_assign rfl) .plain rfl ?_))
     refine EL_nil (thn_n (E_ret (thn_r ?_)))
     obtain rfl := Option.some.inj h
     exact end1 rfl rfl (show _ = .int .i64 (7) from rfl) ⟨_, hfr, rfl⟩
    ·refine E_cond_false (Eq.trans (show ev _ _ = .bool (((((x0).Warps).length : Int) == (0 : Int))) from rfl) (congrArg Value.bool m2)) ?_
     exact E_skip (thn_n (c5 () _ _ ⟨x4, hfr, e3, i1⟩ h))
   ·rintro _ j6 z6 ⟨x5, hfr, c4, d4⟩ h
    refine E_joinC h (fun (s : Unit) e w => ∃ (g : Gh) , Fr gI wI g w) (fun X88 o4 d5 h => ?_) ?_
    ·refine E_seq (E_region (EL_pur (v := .int .i64 (0)) (P_assign rfl) .plain rfl ?_))
     refine EL_nil (thn_n (E_block ?_))
     refine E_lp h (fun (s : Int) e w => ∃ (g : Gh) , Fr gI wI g w ∧ e 1 = p1 ∧ PT g.m w (x0 : TieHarness) p1 ∧ e 3 = .int .i64 (s)) ⟨x5, hfr, c4, d4, rfl⟩ (fun X89 p4 e5 => ?_)
     rintro j0 k6 a7 ⟨q3, hfr, i3, j1, j3⟩ h
     refine E_joinC h (fun (s : Unit) e w => ∃ (g : Gh) , Fr gI wI g w ∧ e 1 = p1 ∧ PT g.m w (x0 : TieHarness) p1 ∧ e 3 = .int .i64 (j0)) (fun X94 q4 i5 h => ?_) ?_
     ·refine E_seq (E_region (EL_pur (v := .int .i64 (j0)) (P_move j3) .plain rfl ?_))
      refine EL_pur (v := fPtr p1 1) (P_fieldAddr at_24_1 i3 (PT.ptr j1)) .plain rfl ?_
      have y5 := PT_field (part_TieHarness_1).1 j1
      refine EL_do .plain rfl (D_load (g := q3) Try.isAgg22 Try.sizeOf22 rfl y5 fun b7 z5 => ?_)
      refine EL_pur (v := .int .i64 (((x0).Warps).length : Int)) (P_len Try.underlying22 rfl z5) .plain rfl ?_
      refine EL_pur (v := .bool ((decide (j0 < (((x0).Warps).length : Int))))) (P_int rfl rfl rfl) .plain rfl ?_
      refine EL_nil (thn_n ?_)
      rcases csome h with ⟨p2, h⟩ | ⟨p2, h⟩
      ·refine E_cond_true (Eq.trans (show ev _ _ = .bool ((decide (j0 < (((x0).Warps).length : Int)))) from rfl) (congrArg Value.bool p2)) ?_
       exact E_skip (thn_n (i5 () _ _ ⟨q3, hfr, i3, j1, j3⟩ h))
      ·refine E_cond_false (Eq.trans (show ev _ _ = .bool ((decide (j0 < (((x0).Warps).length : Int)))) from rfl) (congrArg Value.bool p2)) ?_
       refine E_exit ?_
       refine thn_e ?_
       refine thn_e ?_
       refine blk_hit ?_
       exact thn_n (d5 () _ _ ⟨q3, hfr⟩ h)
     ·rintro _ l6 c7 ⟨a6, hfr, m1, n0, m3⟩ h
      refine E_joinC h (fun (s : Unit) e w => ∃ (g : Gh) , Fr gI wI g w ∧ e 1 = p1 ∧ PT g.m w (x0 : TieHarness) p1 ∧ e 3 = .int .i64 (j0)) (fun X122 p3 e4 h => ?_) ?_
      ·refine E_block ?_
       refine E_seq ?_
       have q2 := PT_field (part_TieHarness_1).1 n0
       refine L_load (x := .tmp 23) Try.isAgg22 Try.sizeOf22 q2 fun r3 z1 i4 => ?_
       obtain ⟨u0, o3, h⟩ := bsome h
       have s2 := PT_idx z1 o3
       refine L_load (x := .tmp 26) Try.isAgg3 Try.sizeOf3 s2 fun m6 j5 j4 => ?_
       obtain rfl := RV_int.1 j5
       have z2 := PT_field (part_TieHarness_0).1 n0
       refine L_load (x := .tmp 28) Try.isAgg3 Try.sizeOf3 z2 fun n6 l5 m4 => ?_
       obtain rfl := RV_int.1 l5
       obtain ⟨o0, n4, h⟩ := bsome h
       refine E_drawL (g := a6) (n := 10) [(8, (fun v g w => v = .bool (o0)))] [0, 1, 2, 3, 4, 5, 6, 7, 8, 9] rfl mixed (by kernel_rfl) (⟨fun _ => up_eq _, trivial⟩) ?_
       refine L_pur (c := fPtr p1 1) rfl rfl .plain (fun _ _ hd => P_fieldAddr at_24_1 m1 (PT.ptr n0)) ?_
       refine L_ld (c := r3) rfl rfl .plain (fun _ _ h => h.ch) i4 rfl ?_
       refine L_pur (c := .int .i64 (j0)) rfl rfl .plain (fun _ _ hd => P_move m3) ?_
       refine L_pur (c := ePtr r3 j0 1) rfl rfl .plain (fun _ _ hd => P_indexAddr (α := Int) Try.underlying22 Try.sizeOf3 rfl z1 rfl o3) ?_
       refine L_ld (c := .int .i64 (u0)) rfl rfl .plain (fun _ _ h => h.ch) j4 rfl ?_
       refine L_pur (c := fPtr p1 0) rfl rfl .plain (fun _ _ hd => P_fieldAddr at_24_0 m1 (PT.ptr n0)) ?_
       refine L_ld (c := .int .i64 ((x0).Hooks)) rfl rfl .plain (fun _ _ h => h.ch) m4 rfl ?_
       refine L_pur (c := .int .i64 ((w64 ((x0).Hooks - (1 : Int))))) rfl rfl .plain (fun _ _ hd => P_int rfl rfl rfl) ?_
       refine L_do (φ := fun v g w => v = .bool (o0)) rfl rfl .plain (fun g w hd => D_call (g := g) (vs := [.int .i64 (u0), .int .i64 (0), .int .i64 ((w64 ((x0).Hooks - (1 : Int))))]) en92 (.cons rfl (.cons rfl (.cons rfl .nil))) (wk92  n4) fun g' w' v hs hr => ⟨g', hs, hr⟩) (fun o6 hv => ?_)
       obtain ⟨_, _, _, rfl⟩ := hv
       refine L_pur (c := .bool (!o0)) rfl rfl .plain (fun _ _ hd => P_not rfl) ?_
       refine L_nil fun m5 p6 hall => ?_
       have hs := hall.1
       have hfr := hfr.ext hs
       have n0 := n0.ext hs
       have q2 := q2.ext hs
       have z1 := z1.ext hs
       have s2 := s2.ext hs
       have z2 := z2.ext hs
       clear hs hall
       refine EL_nil (thn_n ?_)
       rcases csome h with ⟨d2, h⟩ | ⟨d2, h⟩
       ·refine E_cond_true (Eq.trans (show ev _ _ = .bool ((!o0)) from rfl) (congrArg Value.bool d2)) ?_
        refine E_seq (E_region (EL_pur (v := .int .i64 (2)) (P_assign rfl) .plain rfl ?_))
        refine EL_nil (thn_n (E_ret (blk_r ?_)))
        refine thn_r ?_
        refine thn_r ?_
        refine blk_r ?_
        refine thn_r ?_
        obtain rfl := Option.some.inj h
        exact end1 rfl rfl (show _ = .int .i64 (2) from rfl) ⟨_, hfr, rfl⟩
       ·refine E_cond_false (Eq.trans (show ev _ _ = .bool ((!o0)) from rfl) (congrArg Value.bool d2)) ?_
        exact E_skip (blk_n (thn_n (e4 () _ _ ⟨m5, hfr, m1, n0, m3⟩ h)))
      ·rintro _ b6 q6 ⟨n5, hfr, s3, u3, z3⟩ h
       refine E_region (EL_pur (v := .int .i64 (j0)) (P_move z3) .plain rfl ?_)
       refine EL_pur (v := .int .i64 ((w64 (j0 + (1 : Int))))) (P_int rfl rfl rfl) .plain rfl ?_
       refine EL_pur (v := .int .i64 ((w64 (j0 + (1 : Int))))) (P_assign rfl) .plain rfl ?_
       exact EL_nil (thn_n (e5 ((w64 (j0 + (1 : Int)))) _ _ ⟨n5, hfr, s3, u3, rfl⟩ h))
    ·rintro _ c6 r6 ⟨s6, hfr⟩ h
     refine E_seq (E_region (EL_pur (v := .int .i64 (0)) (P_assign rfl) .plain rfl ?_))
     refine EL_nil (thn_n (E_ret ?_))
     obtain rfl := Option.some.inj h
     exact end1 rfl rfl (show _ = .int .i64 (0) from rfl) ⟨_, hfr, rfl⟩
/-- griffe/grifferef01.Check -/
def f67 (x0 : Design) : Option (Int) :=
 jn (σ := Unit) (fun (_ : Unit) =>
  jn (σ := Unit) (fun (_ : Unit) =>
   jn (σ := Unit) (fun (_ : Unit) =>
    jn (σ := Unit) (fun (_ : Unit) =>
     some ((0 : Int))
     ) fun s4 =>
    lp (σ := Int) (fun u4 j0 =>
     jn (σ := Unit) (fun (_ : Unit) =>
      jn (σ := Unit) (fun (_ : Unit) =>
       u4 ((w64 (j0 + (1 : Int))))
       ) fun q3 =>
      (idx ((x0).Rows) j0).bind fun i1 =>
      (shl64 (1 : Int) (wu64 (x0).Hooks)).bind fun u0 =>
      (f93 i1 ((0 : Int)) ((w64 (u0 - (1 : Int))))).bind fun o0 =>
      bif (!o0) then
       some ((2 : Int))
      else
       q3 ()
      ) fun r3 =>
     bif (decide (j0 < (((x0).Rows).length : Int))) then
      r3 ()
     else
      s4 ()
     ) big ((0 : Int))
    ) fun x4 =>
   bif ((((x0).Rows).length : Int) == (0 : Int)) then
    some ((7 : Int))
   else
    x4 ()
   ) fun z4 =>
  bif (decide ((((x0).Rows).length : Int) > (60 : Int))) then
   some ((5 : Int))
  else
   z4 ()
  ) fun k7 =>
 (f93 ((x0).Hooks) ((1 : Int)) ((24 : Int))).bind fun y11 =>
 bif (!y11) then
  some ((2 : Int))
 else
  k7 ()
theorem en67 : Enters Try.prog 67 := enters_of Try.func67 (by kernel_rfl) rfl
theorem wk67 {gI : Gh} {wI : World} {x0 : Design} {up0 : Value} (rp0 : RV gI.m wI x0 up0) {r : Int} (h : f67 x0 = some r) : Fn Try.prog 67 #[up0] gI wI (fun _ _ v => v = .int .i64 (r)) := by
 unfold f67 at h
 refine fn_of_E Try.func67 rfl (Nat.le_of_ble_eq_true rfl) fun g0 hm hfr => ?_
 have rp0 : RV g0.m wI x0 up0 := hm ▸ rp0
 show E _ 35 none _ _ _ _ _
 refine E_seq (E_region (EL_do .plain rfl (D_box (g := g0) rfl rp0 fun g1 w1 p1 hs q1 => ?_)))
 have hfr := hfr.ext hs
 have rp0 := rp0.ext hs
 refine EL_pur (v := .int .i64 (0)) (P_assign rfl) .plain rfl ?_
 refine EL_nil (thn_n (E_joinC h (fun (s : Unit) e w => ∃ (g : Gh) , Fr gI wI g w ∧ e 1 = p1 ∧ PT g.m w (x0 : Design) p1) (fun X7 k7 u5 h => ?_) ?_))
 ·refine E_seq (E_region (EL_pur (v := fPtr p1 0) (P_fieldAddr at_26_0 rfl (PT.ptr q1)) .plain rfl ?_))
  have q8 := PT_field (part_Design_0).1 q1
  refine EL_do .plain rfl (D_load (g := g1) Try.isAgg3 Try.sizeOf3 rfl q8 fun v9 r9 => ?_)
  obtain rfl := RV_int.1 r9
  obtain ⟨y11, d5, h⟩ := bsome h
  refine EL_do .plain rfl (D_call (g := g1) (vs := [.int .i64 ((x0).Hooks), .int .i64 (1), .int .i64 (24)]) en93 (.cons rfl (.cons rfl (.cons rfl .nil))) (wk93  d5) fun x5 j6 y6 hs hr => ?_)
  have hfr := hfr.ext hs
  have rp0 := rp0.ext hs
  have q1 := q1.ext hs
  have q8 := q8.ext hs
  subst hr
  refine EL_pur (v := .bool (!y11)) (P_not rfl) .plain rfl ?_
  refine EL_nil (thn_n ?_)
  rcases csome h with ⟨p2, h⟩ | ⟨p2, h⟩
  ·refine E_cond_true (Eq.trans (show ev _ _ = .bool ((!y11)) from rfl) (congrArg Value.bool p2)) ?_
   refine E_seq (E_region (EL_pur (v := .int .i64 (2)) (P_assign rfl) .plain rfl ?_))
   refine EL_nil (thn_n (E_ret (thn_r ?_)))
   obtain rfl := Option.some.inj h
   exact end1 rfl rfl (show _ = .int .i64 (2) from rfl) ⟨_, hfr, rfl⟩
  ·refine E_cond_false (Eq.trans (show ev _ _ = .bool ((!y11)) from rfl) (congrArg Value.bool p2)) ?_
   exact E_skip (thn_n (u5 () _ _ ⟨x5, hfr, rfl, q1⟩ h))
 ·rintro _ k6 z6 ⟨b5, hfr, i3, j1⟩ h
  refine E_joinC h (fun (s : Unit) e w => ∃ (g : Gh) , Fr gI wI g w ∧ e 1 = p1 ∧ PT g.m w (x0 : Design) p1) (fun X17 z4 e5 h => ?_) ?_
  ·refine E_seq (E_region (EL_pur (v := fPtr p1 1) (P_fieldAddr at_26_1 i3 (PT.ptr j1)) .plain rfl ?_))
   have y5 := PT_field (part_Design_1).1 j1
   refine EL_do .plain rfl (D_load (g := b5) Try.isAgg22 Try.sizeOf22 rfl y5 fun a7 z5 => ?_)
   refine EL_pur (v := .int .i64 (((x0).Rows).length : Int)) (P_len Try.underlying22 rfl z5) .plain rfl ?_
   refine EL_pur (v := .bool ((decide ((((x0).Rows).length : Int) > (60 : Int))))) (P_int rfl rfl rfl) .plain rfl ?_
   refine EL_nil (thn_n ?_)
   rcases csome h with ⟨q2, h⟩ | ⟨q2, h⟩
   ·refine E_cond_true (Eq.trans (show ev _ _ = .bool ((decide ((((x0).Rows).length : Int) > (60 : Int)))) from rfl) (congrArg Value.bool q2)) ?_
    refine E_seq (E_region (EL_pur (v := .int .i64 (5)) (P_assign rfl) .plain rfl ?_))
    refine EL_nil (thn_n (E_ret (thn_r ?_)))
    obtain rfl := Option.some.inj h
    exact end1 rfl rfl (show _ = .int .i64 (5) from rfl) ⟨_, hfr, rfl⟩
   ·refine E_cond_false (Eq.trans (show ev _ _ = .bool ((decide ((((x0).Rows).length : Int) > (60 : Int)))) from rfl) (congrArg Value.bool q2)) ?_
    exact E_skip (thn_n (e5 () _ _ ⟨b5, hfr, i3, j1⟩ h))
  ·rintro _ l6 b7 ⟨c5, hfr, j3, m1⟩ h
   refine E_joinC h (fun (s : Unit) e w => ∃ (g : Gh) , Fr gI wI g w ∧ e 1 = p1 ∧ PT g.m w (x0 : Design) p1) (fun X25 x4 i5 h => ?_) ?_
   ·refine E_seq (E_region (EL_pur (v := fPtr p1 1) (P_fieldAddr at_26_1 j3 (PT.ptr m1)) .plain rfl ?_))
    have a6 := PT_field (part_Design_1).1 m1
    refine EL_do .plain rfl (D_load (g := c5) Try.isAgg22 Try.sizeOf22 rfl a6 fun c7 b6 => ?_)
    refine EL_pur (v := .int .i64 (((x0).Rows).length : Int)) (P_len Try.underlying22 rfl b6) .plain rfl ?_
    refine EL_pur (v := .bool (((((x0).Rows).length : Int) == (0 : Int)))) (P_int rfl rfl rfl) .plain rfl ?_
    refine EL_nil (thn_n ?_)
    rcases csome h with ⟨s2, h⟩ | ⟨s2, h⟩
    ·refine E_cond_true (Eq.trans (show ev _ _ = .bool (((((x0).Rows).length : Int) == (0 : Int))) from rfl) (congrArg Value.bool s2)) ?_
     refine E_seq (E_region (EL_pur (v := .int .i64 (7)) (P_assign rfl) .plain rfl ?_))
     refine EL_nil (thn_n (E_ret (thn_r ?_)))
     obtain rfl := Option.some.inj h
     exact end1 rfl rfl (show _ = .int .i64 (7) from rfl) ⟨_, hfr, rfl⟩
    ·refine E_cond_false (Eq.trans (show ev _ _ = .bool (((((x0).Rows).length : Int) == (0 : Int))) from rfl) (congrArg Value.bool s2)) ?_
     exact E_skip (thn_n (i5 () _ _ ⟨c5, hfr, j3, m1⟩ h))
   ·rintro _ m6 d7 ⟨c6, hfr, e4, i4⟩ h
    refine E_joinC h (fun (s : Unit) e w => ∃ (g : Gh) , Fr gI wI g w) (fun X94 s4 j5 h => ?_) ?_
    ·refine E_seq (E_region (EL_pur (v := .int .i64 (0)) (P_assign rfl) .plain rfl ?_))
     refine EL_nil (thn_n (E_block ?_))
     refine E_lp h (fun (s : Int) e w => ∃ (g : Gh) , Fr gI wI g w ∧ e 1 = p1 ∧ PT g.m w (x0 : Design) p1 ∧ e 3 = .int .i64 (s)) ⟨c6, hfr, e4, i4, rfl⟩ (fun X95 u4 l5 => ?_)
     rintro j0 n6 e7 ⟨s3, hfr, m3, z1, o3⟩ h
     refine E_joinC h (fun (s : Unit) e w => ∃ (g : Gh) , Fr gI wI g w ∧ e 1 = p1 ∧ PT g.m w (x0 : Design) p1 ∧ e 3 = .int .i64 (j0)) (fun X100 r3 j4 h => ?_) ?_
     ·refine E_seq (E_region (EL_pur (v := .int .i64 (j0)) (P_move o3) .plain rfl ?_))
      refine EL_pur (v := fPtr p1 1) (P_fieldAddr at_26_1 m3 (PT.ptr z1)) .plain rfl ?_
      have m5 := PT_field (part_Design_1).1 z1
      refine EL_do .plain rfl (D_load (g := s3) Try.isAgg22 Try.sizeOf22 rfl m5 fun o6 n5 => ?_)
      refine EL_pur (v := .int .i64 (((x0).Rows).length : Int)) (P_len Try.underlying22 rfl n5) .plain rfl ?_
      refine EL_pur (v := .bool ((decide (j0 < (((x0).Rows).length : Int))))) (P_int rfl rfl rfl) .plain rfl ?_
      refine EL_nil (thn_n ?_)
      rcases csome h with ⟨d2, h⟩ | ⟨d2, h⟩
      ·refine E_cond_true (Eq.trans (show ev _ _ = .bool ((decide (j0 < (((x0).Rows).length : Int)))) from rfl) (congrArg Value.bool d2)) ?_
       exact E_skip (thn_n (j4 () _ _ ⟨s3, hfr, m3, z1, o3⟩ h))
      ·refine E_cond_false (Eq.trans (show ev _ _ = .bool ((decide (j0 < (((x0).Rows).length : Int)))) from rfl) (congrArg Value.bool d2)) ?_
       refine E_exit ?_
       refine thn_e ?_
       refine thn_e ?_
       refine blk_hit ?_
       exact thn_n (j5 () _ _ ⟨s3, hfr⟩ h)
     ·rintro _ d6 p6 ⟨o5, hfr, y0, n0, m2⟩ h
      refine E_joinC h (fun (s : Unit) e w => ∃ (g : Gh) , Fr gI wI g w ∧ e 1 = p1 ∧ PT g.m w (x0 : Design) p1 ∧ e 3 = .int .i64 (j0)) (fun X131 q3 m4 h => ?_) ?_
      ·refine E_block ?_
       refine E_seq ?_
       have z2 := PT_field (part_Design_1).1 n0
       refine L_load (x := .tmp 23) Try.isAgg22 Try.sizeOf22 z2 fun u3 i2 n4 => ?_
       obtain ⟨i1, p3, h⟩ := bsome h
       have d3 := PT_idx i2 p3
       refine L_load (x := .tmp 26) Try.isAgg3 Try.sizeOf3 d3 fun q6 p5 o4 => ?_
       obtain rfl := RV_int.1 p5
       have e3 := PT_field (part_Design_0).1 n0
       refine L_load (x := .tmp 28) Try.isAgg3 Try.sizeOf3 e3 fun r6 q5 p4 => ?_
       obtain rfl := RV_int.1 q5
       obtain ⟨u0, q4, h⟩ := bsome h
       obtain ⟨o0, r4, h⟩ := bsome h
       refine E_drawL (g := o5) (n := 12) [(10, (fun v g w => v = .bool (o0)))] [0, 1, 2, 3, 4, 5, 6, 7, 8, 9, 10, 11] rfl mixed (by kernel_rfl) (⟨fun _ => up_eq _, trivial⟩) ?_
       refine L_pur (c := fPtr p1 1) rfl rfl .plain (fun _ _ hd => P_fieldAddr at_26_1 y0 (PT.ptr n0)) ?_
       refine L_ld (c := u3) rfl rfl .plain (fun _ _ h => h.ch) n4 rfl ?_
       refine L_pur (c := .int .i64 (j0)) rfl rfl .plain (fun _ _ hd => P_move m2) ?_
       refine L_pur (c := ePtr u3 j0 1) rfl rfl .plain (fun _ _ hd => P_indexAddr (α := Int) Try.underlying22 Try.sizeOf3 rfl i2 rfl p3) ?_
       refine L_ld (c := .int .i64 (i1)) rfl rfl .plain (fun _ _ h => h.ch) o4 rfl ?_
       refine L_pur (c := fPtr p1 0) rfl rfl .plain (fun _ _ hd => P_fieldAddr at_26_0 y0 (PT.ptr n0)) ?_
       refine L_ld (c := .int .i64 ((x0).Hooks)) rfl rfl .plain (fun _ _ h => h.ch) p4 rfl ?_
       refine L_pur (c := .int .u64 (wu64 (x0).Hooks)) rfl rfl .plain (fun _ _ hd => P_intu64 Try.underlying3 Try.underlying121 rfl) ?_
       refine L_pur (c := .int .i64 (u0)) rfl rfl .plain (fun _ _ hd => P_shlu rfl rfl q4) ?_
       refine L_pur (c := .int .i64 ((w64 (u0 - (1 : Int))))) rfl rfl .plain (fun _ _ hd => P_int rfl rfl rfl) ?_
       refine L_do (φ := fun v g w => v = .bool (o0)) rfl rfl .plain (fun g w hd => D_call (g := g) (vs := [.int .i64 (i1), .int .i64 (0), .int .i64 ((w64 (u0 - (1 : Int))))]) en93 (.cons rfl (.cons rfl (.cons rfl .nil))) (wk93  r4) fun g' w' v hs hr => ⟨g', hs, hr⟩) (fun s6 hv => ?_)
       obtain ⟨_, _, _, rfl⟩ := hv
       refine L_pur (c := .bool (!o0)) rfl rfl .plain (fun _ _ hd => P_not rfl) ?_
       refine L_nil fun r5 t6 hall => ?_
       have hs := hall.1
       have hfr := hfr.ext hs
       have n0 := n0.ext hs
       have z2 := z2.ext hs
       have i2 := i2.ext hs
       have d3 := d3.ext hs
       have e3 := e3.ext hs
       clear hs hall
       refine EL_nil (thn_n ?_)
       rcases csome h with ⟨j2, h⟩ | ⟨j2, h⟩
       ·refine E_cond_true (Eq.trans (show ev _ _ = .bool ((!o0)) from rfl) (congrArg Value.bool j2)) ?_
        refine E_seq (E_region (EL_pur (v := .int .i64 (2)) (P_assign rfl) .plain rfl ?_))
        refine EL_nil (thn_n (E_ret (blk_r ?_)))
        refine thn_r ?_
        refine thn_r ?_
        refine blk_r ?_
        refine thn_r ?_
        obtain rfl := Option.some.inj h
        exact end1 rfl rfl (show _ = .int .i64 (2) from rfl) ⟨_, hfr, rfl⟩
       ·refine E_cond_false (Eq.trans (show ev _ _ = .bool ((!o0)) from rfl) (congrArg Value.bool j2)) ?_
        exact E_skip (blk_n (thn_n (m4 () _ _ ⟨r5, hfr, y0, n0, m2⟩ h)))
      ·rintro _ e6 u6 ⟨t5, hfr, z3, c4, d4⟩ h
       refine E_region (EL_pur (v := .int .i64 (j0)) (P_move d4) .plain rfl ?_)
       refine EL_pur (v := .int .i64 ((w64 (j0 + (1 : Int))))) (P_int rfl rfl rfl) .plain rfl ?_
       refine EL_pur (v := .int .i64 ((w64 (j0 + (1 : Int))))) (P_assign rfl) .plain rfl ?_
       exact EL_nil (thn_n (l5 ((w64 (j0 + (1 : Int)))) _ _ ⟨t5, hfr, z3, c4, rfl⟩ h))
    ·rintro _ i6 v6 ⟨x6, hfr⟩ h
     refine E_seq (E_region (EL_pur (v := .int .i64 (0)) (P_assign rfl) .plain rfl ?_))
     refine EL_nil (thn_n (E_ret ?_))
     obtain rfl := Option.some.inj h
     exact end1 rfl rfl (show _ = .int .i64 (0) from rfl) ⟨_, hfr, rfl⟩
/-- griffe/fault.Groups$1 -/
def f70 (x0 : List Int) (z0 : List (List Str)) (z1 : List Str) : Option (Bool) :=
 (idx x0 (0 : Int)).bind fun y2 =>
 (idx z0 y2).bind fun y5 =>
 (f71 y5 z1).bind fun j0 =>
 some (j0)
theorem en70 : Enters Try.prog 70 := enters_of Try.func70 (by kernel_rfl) rfl
theorem wk70 {gI : Gh} {wI : World} {x0 : List Int} {z0 : List (List Str)} {z1 : List Str} {up0 : Value} (rp0 : RV gI.m wI x0 up0) {pf0 : Value} (qf0 : PT gI.m wI z0 pf0) {pf1 : Value} (qf1 : PT gI.m wI z1 pf1) {r : Bool} (h : f70 x0 z0 z1 = some r) : Fn Try.prog 70 #[up0, pf0, pf1] gI wI (fun _ _ v => v = .bool (r)) := by
 unfold f70 at h
 refine fn_of_E Try.func70 rfl (Nat.le_of_ble_eq_true rfl) fun g0 hm hfr => ?_
 have qf0 : PT g0.m wI z0 pf0 := hm ▸ qf0
 have qf1 : PT g0.m wI z1 pf1 := hm ▸ qf1
 have rp0 : RV g0.m wI x0 up0 := hm ▸ rp0
 show E _ 13 none _ _ _ _ _
 refine E_seq (E_region (EL_pur (v := .bool false) (P_assign rfl) .plain rfl ?_))
 refine EL_nil (thn_n (E_seq (L_load (x := .tmp 1) Try.isAgg78 Try.sizeOf78 qf0 fun v1 r1 hl1 => ?_)))
 obtain ⟨y2, n0, h⟩ := bsome h
 have q3 := PT_idx rp0 n0
 refine L_load (x := .tmp 7) Try.isAgg3 Try.sizeOf3 q3 fun v4 r4 y0 => ?_
 obtain rfl := RV_int.1 r4
 obtain ⟨y5, o0, h⟩ := bsome h
 have q6 := PT_idx r1 o0
 refine L_load (x := .tmp 9) Try.isAgg36 Try.sizeOf36 q6 fun v7 r7 i1 => ?_
 refine L_load (x := .tmp 2) Try.isAgg36 Try.sizeOf36 qf1 fun v8 r8 j1 => ?_
 obtain ⟨j0, u0, h⟩ := bsome h
 refine E_drawL (g := g0) (n := 9) [(7, (fun v g w => v = .bool (j0)))] [0, 1, 2, 3, 4, 5, 6, 7, 8] rfl mixed (by kernel_rfl) (⟨fun _ => up_eq _, trivial⟩) ?_
 refine L_ld (c := v1) rfl rfl .plain (fun _ _ h => h.ch) hl1 rfl ?_
 refine L_pur (c := up0) rfl rfl .plain (fun _ _ hd => P_move rfl) ?_
 refine L_pur (c := ePtr up0 (0 : Int) 1) rfl rfl .plain (fun _ _ hd => P_indexAddr (α := Int) Try.underlying22 Try.sizeOf3 rfl rp0 rfl n0) ?_
 refine L_ld (c := .int .i64 (y2)) rfl rfl .plain (fun _ _ h => h.ch) y0 rfl ?_
 refine L_pur (c := ePtr v1 y2 1) rfl rfl .plain (fun _ _ hd => P_indexAddr (α := List Str) Try.underlying78 Try.sizeOf36 rfl r1 rfl o0) ?_
 refine L_ld (c := v7) rfl rfl .plain (fun _ _ h => h.ch) i1 rfl ?_
 refine L_ld (c := v8) rfl rfl .plain (fun _ _ h => h.ch) j1 rfl ?_
 refine L_do (φ := fun v g w => v = .bool (j0)) rfl rfl .plain (fun g w hd => D_call (g := g) (vs := [v7, v8]) en71 (.cons rfl (.cons rfl .nil)) (wk71 (r7.ext hd.1) (r8.ext hd.1) u0) fun g' w' v hs hr => ⟨g', hs, hr⟩) (fun v9 hv => ?_)
 obtain ⟨_, _, _, rfl⟩ := hv
 refine L_pur (c := .bool (j0)) rfl rfl .plain (fun _ _ hd => P_assign rfl) ?_
 refine L_nil fun m1 d2 hall => ?_
 have hs := hall.1
 have hfr := hfr.ext hs
 have rp0 := rp0.ext hs
 have qf0 := qf0.ext hs
 have qf1 := qf1.ext hs
 have r1 := r1.ext hs
 have q3 := q3.ext hs
 have q6 := q6.ext hs
 have r7 := r7.ext hs
 have r8 := r8.ext hs
 clear hs hall
 refine EL_nil (thn_n (E_ret ?_))
 obtain rfl := Option.some.inj h
 exact end1 rfl rfl (show _ = .bool (j0) from rfl) ⟨_, hfr, rfl⟩
/-- (griffe/fault.loom).round$1 -/
def f79 (x0 : FaultDamage) (x1 : FaultDamage) : Option (Int) :=
 (f80 ((x0).Kind)).bind fun y6 =>
 (f80 ((x1).Kind)).bind fun j0 =>
 some ((w64 (y6 - j0)))
theorem en79 : Enters Try.prog 79 := enters_of Try.func79 (by kernel_rfl) rfl
theorem wk79 {gI : Gh} {wI : World} {x0 : FaultDamage} {x1 : FaultDamage} {up0 : Value} (rp0 : RV gI.m wI x0 up0) {up1 : Value} (rp1 : RV gI.m wI x1 up1) {r : Int} (h : f79 x0 x1 = some r) : Fn Try.prog 79 #[up0, up1] gI wI (fun _ _ v => v = .int .i64 (r)) := by
 unfold f79 at h
 refine fn_of_E Try.func79 rfl (Nat.le_of_ble_eq_true rfl) fun g0 hm hfr => ?_
 have rp0 : RV g0.m wI x0 up0 := hm ▸ rp0
 have rp1 : RV g0.m wI x1 up1 := hm ▸ rp1
 show E _ 12 none _ _ _ _ _
 refine E_seq (E_region (EL_do .plain rfl (D_box (g := g0) rfl rp0 fun g1 w1 p1 hs q1 => ?_)))
 have hfr := hfr.ext hs
 have rp0 := rp0.ext hs
 have rp1 := rp1.ext hs
 refine EL_do .plain rfl (D_box (g := g1) rfl rp1 fun g2 w2 p2 hs q2 => ?_)
 have hfr := hfr.ext hs
 have rp0 := rp0.ext hs
 have rp1 := rp1.ext hs
 have q1 := q1.ext hs
 refine EL_pur (v := .int .i64 (0)) (P_assign rfl) .plain rfl ?_
 refine EL_nil (thn_n (E_seq ?_))
 have q3 := PT_field (part_FaultDamage_0).1 q1
 refine L_load (x := .tmp 5) Try.isAgg60 Try.sizeOf60 q3 fun v4 r4 o0 => ?_
 obtain rfl := RV_int.1 r4
 obtain ⟨y6, u0, h⟩ := bsome h
 have q7 := PT_field (part_FaultDamage_0).1 q2
 refine L_load (x := .tmp 8) Try.isAgg60 Try.sizeOf60 q7 fun v8 r8 y0 => ?_
 obtain rfl := RV_int.1 r8
 obtain ⟨j0, n0, h⟩ := bsome h
 refine E_drawL (g := g2) (n := 8) [(2, (fun v g w => v = .int .i64 (y6))), (5, (fun v g w => v = .int .i64 (j0)))] [0, 1, 2, 3, 4, 5, 6, 7] rfl mixed (by kernel_rfl) (⟨fun _ => up_eq _, fun _ => up_eq _, trivial⟩) ?_
 refine L_pur (c := fPtr p1 0) rfl rfl .plain (fun _ _ hd => P_fieldAddr at_62_0 rfl (PT.ptr q1)) ?_
 refine L_ld (c := .int .i64 ((x0).Kind)) rfl rfl .plain (fun _ _ h => h.ch) o0 rfl ?_
 refine L_do (φ := fun v g w => v = .int .i64 (y6)) rfl rfl .plain (fun g w hd => D_call (g := g) (vs := [.int .i64 ((x0).Kind)]) en80 (.cons rfl .nil) (wk80  u0) fun g' w' v hs hr => ⟨g', hs, hr⟩) (fun v5 hv => ?_)
 obtain ⟨_, _, _, rfl⟩ := hv
 refine L_pur (c := fPtr p2 0) rfl rfl .plain (fun _ _ hd => P_fieldAddr at_62_0 rfl (PT.ptr q2)) ?_
 refine L_ld (c := .int .i64 ((x1).Kind)) rfl rfl .plain (fun _ _ h => h.ch) y0 rfl ?_
 refine L_do (φ := fun v g w => v = .int .i64 (j0)) rfl rfl .plain (fun g w hd => D_call (g := g) (vs := [.int .i64 ((x1).Kind)]) en80 (.cons rfl .nil) (wk80  n0) fun g' w' v hs hr => ⟨g', hs, hr⟩) (fun v9 hv => ?_)
 obtain ⟨_, _, _, rfl⟩ := hv
 refine L_pur (c := .int .i64 ((w64 (y6 - j0)))) rfl rfl .plain (fun _ _ hd => P_int rfl rfl rfl) ?_
 refine L_pur (c := .int .i64 ((w64 (y6 - j0)))) rfl rfl .plain (fun _ _ hd => P_assign rfl) ?_
 refine L_nil fun i1 j1 hall => ?_
 have hs := hall.1
 have hfr := hfr.ext hs
 have rp0 := rp0.ext hs
 have rp1 := rp1.ext hs
 have q1 := q1.ext hs
 have q2 := q2.ext hs
 have q3 := q3.ext hs
 have q7 := q7.ext hs
 clear hs hall
 refine EL_nil (thn_n (E_ret ?_))
 obtain rfl := Option.some.inj h
 exact end1 rfl rfl (show _ = .int .i64 ((w64 (y6 - j0))) from rfl) ⟨_, hfr, rfl⟩
/-- griffe/grifferef01.Table -/
def f85 (x0 : Design) : Option ((List (List Bool))) :=
 Option.bind (α := (List (List Bool))) (
  lp (σ := (List (List Bool)) × Int) (fun i5 (y0, j0) =>
   jn (σ := Unit) (fun (_ : Unit) =>
    Option.bind (α := (List (List Bool))) (
     (idx ((x0).Rows) j0).bind fun q2 =>
     (f103 q2 ((x0).Hooks)).bind fun n0 =>
     (apnd 24 y0 (([n0] : List (List Bool)))).bind fun z3 =>
     some (z3)
     ) fun u0 =>
    i5 (u0, (w64 (j0 + (1 : Int))))
    ) fun j5 =>
   bif (decide (j0 < (((x0).Rows).length : Int))) then
    j5 ()
   else
    some (y0)
   ) big (([] : List (List Bool)), (0 : Int))
  ) fun i1 =>
 some (i1)
theorem en85 : Enters Try.prog 85 := enters_of Try.func85 (by kernel_rfl) rfl
theorem wk85 {gI : Gh} {wI : World} {x0 : Design} {up0 : Value} (rp0 : RV gI.m wI x0 up0) {r : (List (List Bool))} (h : f85 x0 = some r) : Fn Try.prog 85 #[up0] gI wI (fun m w v => RV m w (r) v) := by
 unfold f85 at h
 refine fn_of_E Try.func85 rfl (Nat.le_of_ble_eq_true rfl) fun g0 hm hfr => ?_
 have rp0 : RV g0.m wI x0 up0 := hm ▸ rp0
 show E _ 25 none _ _ _ _ _
 refine E_seq (E_region (EL_do .plain rfl (D_box (g := g0) rfl rp0 fun g1 w1 p1 hs q1 => ?_)))
 have hfr := hfr.ext hs
 have rp0 := rp0.ext hs
 refine EL_pur (v := .slice none 0 0) (P_assign rfl) .plain rfl ?_
 refine EL_nil (thn_n (E_seq (E_region (EL_do .plain rfl (D_buildSlice (g := g1) 3005 (xs := ([] : List (List Bool))) (vs := []) Try.underlying108 Try.sizeOf110 Try.zeroValue110 rfl rfl .nil RVs.nil rfl rfl fun g2 w2 v2 hs o2 r2 hxt hfl => ?_)))))
 have hfr := hfr.stp hs
 have rp0 := rp0.stp hs
 have q1 := q1.stp hs
 refine EL_pur (v := v2) (P_assign rfl) .plain rfl ?_
 refine EL_nil (thn_n ?_)
 obtain ⟨i1, hx, h⟩ := bsome h
 refine E_join (fun e w => ∃ (g : Gh) (v3 : Value), Fr gI wI g w ∧ e 3 = v3 ∧ RV g.m w (i1 : List (List Bool)) v3 ∧ OS 3005 g w 110 (i1 : List (List Bool)) v3) (fun Q' hQ => ?_) (fun a6 c6 hR => ?_)
 ·replace h := hx
  clear hx
  refine E_seq (E_region (EL_pur (v := .int .i64 (0)) (P_assign rfl) .plain rfl ?_))
  refine EL_nil (thn_n (E_block ?_))
  refine E_lp h (fun (s : (List (List Bool)) × Int) e w => ∃ (g : Gh) (v3 : Value), Fr gI wI g w ∧ e 1 = p1 ∧ PT g.m w (x0 : Design) p1 ∧ e 3 = v3 ∧ RV g.m w (s.1 : List (List Bool)) v3 ∧ OS 3005 g w 110 (s.1 : List (List Bool)) v3 ∧ e 4 = .int .i64 (s.2)) ⟨g2, (v2), hfr, rfl, q1, rfl, r2, o2, rfl⟩ (fun X66 i5 l5 => ?_)
  rintro ⟨y0, j0⟩ d6 o6 ⟨c4, j1, hfr, m3, s2, o3, p3, q3, r3⟩ h
  refine E_joinC h (fun (s : Unit) e w => ∃ (g : Gh) , Fr gI wI g w ∧ e 1 = p1 ∧ PT g.m w (x0 : Design) p1 ∧ e 3 = j1 ∧ RV g.m w (y0 : List (List Bool)) j1 ∧ OS 3005 g w 110 (y0 : List (List Bool)) j1 ∧ e 4 = .int .i64 (j0)) (fun X71 j5 m5 h => ?_) ?_
  ·refine E_seq (E_region (EL_pur (v := .int .i64 (j0)) (P_move r3) .plain rfl ?_))
   refine EL_pur (v := fPtr p1 1) (P_fieldAddr at_26_1 m3 (PT.ptr s2)) .plain rfl ?_
   have u5 := PT_field (part_Design_1).1 s2
   refine EL_do .plain rfl (D_load (g := c4) Try.isAgg22 Try.sizeOf22 rfl u5 fun p6 x5 => ?_)
   refine EL_pur (v := .int .i64 (((x0).Rows).length : Int)) (P_len Try.underlying22 rfl x5) .plain rfl ?_
   refine EL_pur (v := .bool ((decide (j0 < (((x0).Rows).length : Int))))) (P_int rfl rfl rfl) .plain rfl ?_
   refine EL_nil (thn_n ?_)
   rcases csome h with ⟨e3, h⟩ | ⟨e3, h⟩
   ·refine E_cond_true (Eq.trans (show ev _ _ = .bool ((decide (j0 < (((x0).Rows).length : Int)))) from rfl) (congrArg Value.bool e3)) ?_
    exact E_skip (thn_n (m5 () _ _ ⟨c4, hfr, m3, s2, o3, p3, q3, r3⟩ h))
   ·refine E_cond_false (Eq.trans (show ev _ _ = .bool ((decide (j0 < (((x0).Rows).length : Int)))) from rfl) (congrArg Value.bool e3)) ?_
    refine E_exit ?_
    refine thn_e ?_
    refine thn_e ?_
    refine blk_hit ?_
    obtain rfl := Option.some.inj h
    exact hQ _ _ ⟨c4, (j1), hfr, o3, p3, q3⟩
  ·rintro _ e6 q6 ⟨y5, hfr, z2, o0, x4, m1, d3, s3⟩ h
   obtain ⟨u0, hx, h⟩ := bsome h
   refine E_join (fun e w => ∃ (g : Gh) (v3 : Value), Fr gI wI g w ∧ e 1 = p1 ∧ PT g.m w (x0 : Design) p1 ∧ e 3 = v3 ∧ RV g.m w (u0 : List (List Bool)) v3 ∧ OS 3005 g w 110 (u0 : List (List Bool)) v3 ∧ e 4 = .int .i64 (j0)) (fun Q' hQ => ?_) (fun b6 i6 hR => ?_)
   ·replace h := hx
    clear hx
    refine E_block ?_
    have i2 := PT_field (part_Design_1).1 o0
    refine L_load (x := .tmp 14) Try.isAgg22 Try.sizeOf22 i2 fun d4 z1 z4 => ?_
    obtain ⟨q2, u3, h⟩ := bsome h
    have j2 := PT_idx z1 u3
    refine L_load (x := .tmp 17) Try.isAgg3 Try.sizeOf3 j2 fun j6 n5 b5 => ?_
    obtain rfl := RV_int.1 n5
    have m2 := PT_field (part_Design_0).1 o0
    refine L_load (x := .tmp 19) Try.isAgg3 Try.sizeOf3 m2 fun k6 o5 c5 => ?_
    obtain rfl := RV_int.1 o5
    obtain ⟨n0, d5, h⟩ := bsome h
    refine E_drawL (g := y5) (n := 10) [(8, (fun v g w => RV g.m w n0 v)), (9, (fun v g w => RV g.m w ([n0] : List (List Bool)) v ∧ OS 3022 g w 110 ([n0] : List (List Bool)) v ∧ FullV v))] [0, 1, 2, 3, 4, 5, 6, 7, 8, 9] rfl mixed (by kernel_rfl) (⟨fun _ => up_rv, fun _ => up_and up_rv (up_and up_os (up_eq _)), trivial⟩) ?_
    refine L_pur (c := j1) rfl rfl .plain (fun _ _ hd => P_move x4) ?_
    refine L_pur (c := fPtr p1 1) rfl rfl .plain (fun _ _ hd => P_fieldAddr at_26_1 z2 (PT.ptr o0)) ?_
    refine L_ld (c := d4) rfl rfl .plain (fun _ _ h => h.ch) z4 rfl ?_
    refine L_pur (c := .int .i64 (j0)) rfl rfl .plain (fun _ _ hd => P_move s3) ?_
    refine L_pur (c := ePtr d4 j0 1) rfl rfl .plain (fun _ _ hd => P_indexAddr (α := Int) Try.underlying22 Try.sizeOf3 rfl z1 rfl u3) ?_
    refine L_ld (c := .int .i64 (q2)) rfl rfl .plain (fun _ _ h => h.ch) b5 rfl ?_
    refine L_pur (c := fPtr p1 0) rfl rfl .plain (fun _ _ hd => P_fieldAddr at_26_0 z2 (PT.ptr o0)) ?_
    refine L_ld (c := .int .i64 ((x0).Hooks)) rfl rfl .plain (fun _ _ h => h.ch) c5 rfl ?_
    refine L_do (φ := fun v g w => RV g.m w n0 v) rfl rfl .plain (fun g w hd => D_call (g := g) (vs := [.int .i64 (q2), .int .i64 ((x0).Hooks)]) en103 (.cons rfl (.cons rfl .nil)) (wk103  d5) fun g' w' v hs hr => ⟨g', hs, hr⟩) (fun i3 hv => ?_)
    obtain ⟨_, _, _, rq109⟩ := hv
    refine L_do (φ := fun v g w => RV g.m w ([n0] : List (List Bool)) v ∧ OS 3022 g w 110 ([n0] : List (List Bool)) v ∧ FullV v) rfl rfl .plain (fun g w hd => D_buildSlice (g := g) 3022 (xs := ([n0] : List (List Bool))) (vs := [i3]) Try.underlying108 Try.sizeOf110 Try.zeroValue110 rfl rfl (.cons rfl .nil) (RVs.cons (word (A := fun g w => RV g.m w n0 i3) 8 rfl rfl (deps_of hd)) RVs.nil) rfl rfl fun g' w' v hs o r hxt hfl => ⟨g', hxt, r, o, hfl⟩) (fun d2 hv => ?_)
    clear hv
    refine L_nil fun p5 l6 hall => ?_
    have hs := hall.1
    have hfr := hfr.ext hs
    have o0 := o0.ext hs
    have m1 := m1.ext hs
    have d3 := d3.ext hs
    have i2 := i2.ext hs
    have z1 := z1.ext hs
    have j2 := j2.ext hs
    have m2 := m2.ext hs
    have e4 := (word_all (A := fun g w => RV g.m w n0 i3) 8 rfl hall)
    have j3 := (word_all (A := fun g w => RV g.m w ([n0] : List (List Bool)) d2 ∧ OS 3022 g w 110 ([n0] : List (List Bool)) d2 ∧ FullV d2) 9 rfl hall).1
    have o125 := (word_all (A := fun g w => RV g.m w ([n0] : List (List Bool)) d2 ∧ OS 3022 g w 110 ([n0] : List (List Bool)) d2 ∧ FullV d2) 9 rfl hall).2.1
    clear hs hall
    obtain ⟨z3, e5, h⟩ := bsome h
    refine EL_do .plain rfl (D_append (g := p5) (i := 3005) Try.underlying108 info_110 rfl rfl d3 m1 rfl j3 e5 fun q5 m6 i4 hs o126 r5 _ => ?_)
    have hfr := hfr.stp hs
    have o0 := o0.stp hs
    have m1 := m1.stp hs
    have i2 := i2.stp hs
    have z1 := z1.stp hs
    have j2 := j2.stp hs
    have m2 := m2.stp hs
    have e4 := e4.stp hs
    have j3 := j3.stp hs
    have o125 := o125.stp hs rfl
    refine EL_pur (v := i4) (P_assign rfl) .plain rfl ?_
    refine EL_nil (blk_n ?_)
    obtain rfl := Option.some.inj h
    exact hQ _ _ ⟨q5, (i4), hfr, z2, o0, rfl, r5, o126, s3⟩
   ·clear hx
    obtain ⟨t5, j4, hfr, m4, n4, o4, p4, q4, r4⟩ := hR
    refine E_region (EL_pur (v := .int .i64 (j0)) (P_move r4) .plain rfl ?_)
    refine EL_pur (v := .int .i64 ((w64 (j0 + (1 : Int))))) (P_int rfl rfl rfl) .plain rfl ?_
    refine EL_pur (v := .int .i64 ((w64 (j0 + (1 : Int))))) (P_assign rfl) .plain rfl ?_
    exact EL_nil (thn_n (l5 (u0, (w64 (j0 + (1 : Int)))) _ _ ⟨t5, (j4), hfr, m4, n4, o4, p4, q4, rfl⟩ h))
 ·clear hx
  obtain ⟨n6, p2, hfr, s4, u4, z5⟩ := hR
  refine E_seq (E_region (EL_pur (v := p2) (P_move s4) .plain rfl ?_))
  refine EL_pur (v := p2) (P_assign rfl) .plain rfl ?_
  refine EL_nil (thn_n (E_ret ?_))
  obtain rfl := Option.some.inj h
  exact end1 rfl rfl (show _ = p2 from rfl) ⟨_, hfr, u4⟩
/-- slices.ContainsFunc[[]int,int] -/
def f87 (x0 : List Int) (x1 : Int → Option Bool) : Option (Bool) :=
 (f104 x0 x1).bind fun y2 =>
 some ((decide (y2 ≥ (0 : Int))))
theorem en87 : Enters Try.prog 87 := enters_of Try.func87 (by kernel_rfl) rfl
theorem wk87 {gI : Gh} {wI : World} {x0 : List Int} {x1 : Int → Option Bool} {up0 : Value} (rp0 : RV gI.m wI x0 up0) {up1 : Value} (rp1 : FnV1 Try.prog x1 up1 gI wI) {r : Bool} (h : f87 x0 x1 = some r) : Fn Try.prog 87 #[up0, up1] gI wI (fun _ _ v => v = .bool (r)) := by
 unfold f87 at h
 refine fn_of_E Try.func87 rfl (Nat.le_of_ble_eq_true rfl) fun g0 hm hfr => ?_
 have rp0 : RV g0.m wI x0 up0 := hm ▸ rp0
 obtain ⟨ff1, fa1, fc1, rfl, fen1, fcl1⟩ := rp1
 show E _ 9 none _ _ _ _ _
 refine E_seq (E_region (EL_pur (v := .bool false) (P_assign rfl) .plain rfl ?_))
 refine EL_nil (thn_n (E_seq (E_region (EL_pur (v := up0) (P_move rfl) .plain rfl ?_))))
 refine EL_pur (v := (.func (.func ff1) fa1 fc1)) (P_move rfl) .plain rfl ?_
 obtain ⟨y2, j0, h⟩ := bsome h
 refine EL_do .plain rfl (D_call (g := g0) (vs := [up0, (.func (.func ff1) fa1 fc1)]) en104 (.cons rfl (.cons rfl .nil)) (wk104 rp0 (FnV1.ch ⟨_, _, _, rfl, fen1, fcl1⟩ hfr.ch) j0) fun g1 w1_ v1 hs hr => ?_)
 have hfr := hfr.ext hs
 have rp0 := rp0.ext hs
 subst hr
 refine EL_pur (v := .bool ((decide (y2 ≥ (0 : Int))))) (P_int rfl rfl rfl) .plain rfl ?_
 refine EL_pur (v := .bool ((decide (y2 ≥ (0 : Int))))) (P_assign rfl) .plain rfl ?_
 refine EL_nil (thn_n (E_ret ?_))
 obtain rfl := Option.some.inj h
 exact end1 rfl rfl (show _ = .bool ((decide (y2 ≥ (0 : Int)))) from rfl) ⟨_, hfr, rfl⟩
/-- griffe/tie.within -/
def f94 (x0 : Int) (x1 : Int) (x2 : List Int) : Option (Bool) :=
 (f87 x2 ((fun a0 => f105 a0 x0 x1))).bind fun y4 =>
 some ((!y4))
theorem en94 : Enters Try.prog 94 := enters_of Try.func94 (by kernel_rfl) rfl
theorem wk94 {gI : Gh} {wI : World} {x0 : Int} {x1 : Int} {x2 : List Int} {up2 : Value} (rp2 : RV gI.m wI x2 up2) {r : Bool} (h : f94 x0 x1 x2 = some r) : Fn Try.prog 94 #[.int .i64 (x0), .int .i64 (x1), up2] gI wI (fun _ _ v => v = .bool (r)) := by
 unfold f94 at h
 refine fn_of_E Try.func94 rfl (Nat.le_of_ble_eq_true rfl) fun g0 hm hfr => ?_
 have rp2 : RV g0.m wI x2 up2 := hm ▸ rp2
 show E _ 11 none _ _ _ _ _
 refine E_seq (E_region (EL_do .plain rfl (D_box (g := g0) rfl (RV_int.2 rfl) fun g1 w1 p1 hs q1 => ?_)))
 have hfr := hfr.ext hs
 have rp2 := rp2.ext hs
 refine EL_do .plain rfl (D_box (g := g1) rfl (RV_int.2 rfl) fun g2 w2 p2 hs q2 => ?_)
 have hfr := hfr.ext hs
 have rp2 := rp2.ext hs
 have q1 := q1.ext hs
 refine EL_pur (v := .bool false) (P_assign rfl) .plain rfl ?_
 refine EL_nil (thn_n (E_seq (E_region (EL_pur (v := up2) (P_move rfl) .plain rfl ?_))))
 refine EL_pur (v := (.func (.func 105) #[] #[p1, p2])) (P_makeFunc (capf_0_2 (show ev _ _ = p1 from rfl) (show ev _ _ = p2 from rfl))) .plain rfl ?_
 obtain ⟨y4, j0, h⟩ := bsome h
 refine EL_do .plain rfl (D_call (g := g2) (vs := [up2, (.func (.func 105) #[] #[p1, p2])]) en87 (.cons rfl (.cons rfl .nil)) (wk87 rp2 ⟨105, #[], #[p1, p2], rfl, en105, fun g' w' hch a0 b0 r hu0 hr => by obtain rfl := RV_int.1 hu0; exact Fn.mono (wk105  (q1.ch hch) (q2.ch hch) hr) fun _ _ _ h => RV_bool.2 h⟩ j0) fun g3 w3_ v3 hs hr => ?_)
 have hfr := hfr.ext hs
 have rp2 := rp2.ext hs
 have q1 := q1.ext hs
 have q2 := q2.ext hs
 subst hr
 refine EL_pur (v := .bool (!y4)) (P_not rfl) .plain rfl ?_
 refine EL_pur (v := .bool (!y4)) (P_assign rfl) .plain rfl ?_
 refine EL_nil (thn_n (E_ret ?_))
 obtain rfl := Option.some.inj h
 exact end1 rfl rfl (show _ = .bool (!y4) from rfl) ⟨_, hfr, rfl⟩
/-- griffe/point.within -/
def f95 (x0 : Int) (x1 : Int) (x2 : List Int) : Option (Bool) :=
 (f87 x2 ((fun a0 => f106 a0 x0 x1))).bind fun y4 =>
 some ((!y4))
theorem en95 : Enters Try.prog 95 := enters_of Try.func95 (by kernel_rfl) rfl
theorem wk95 {gI : Gh} {wI : World} {x0 : Int} {x1 : Int} {x2 : List Int} {up2 : Value} (rp2 : RV gI.m wI x2 up2) {r : Bool} (h : f95 x0 x1 x2 = some r) : Fn Try.prog 95 #[.int .i64 (x0), .int .i64 (x1), up2] gI wI (fun _ _ v => v = .bool (r)) := by
 unfold f95 at h
 refine fn_of_E Try.func95 rfl (Nat.le_of_ble_eq_true rfl) fun g0 hm hfr => ?_
 have rp2 : RV g0.m wI x2 up2 := hm ▸ rp2
 show E _ 11 none _ _ _ _ _
 refine E_seq (E_region (EL_do .plain rfl (D_box (g := g0) rfl (RV_int.2 rfl) fun g1 w1 p1 hs q1 => ?_)))
 have hfr := hfr.ext hs
 have rp2 := rp2.ext hs
 refine EL_do .plain rfl (D_box (g := g1) rfl (RV_int.2 rfl) fun g2 w2 p2 hs q2 => ?_)
 have hfr := hfr.ext hs
 have rp2 := rp2.ext hs
 have q1 := q1.ext hs
 refine EL_pur (v := .bool false) (P_assign rfl) .plain rfl ?_
 refine EL_nil (thn_n (E_seq (E_region (EL_pur (v := up2) (P_move rfl) .plain rfl ?_))))
 refine EL_pur (v := (.func (.func 106) #[] #[p1, p2])) (P_makeFunc (capf_0_2 (show ev _ _ = p1 from rfl) (show ev _ _ = p2 from rfl))) .plain rfl ?_
 obtain ⟨y4, j0, h⟩ := bsome h
 refine EL_do .plain rfl (D_call (g := g2) (vs := [up2, (.func (.func 106) #[] #[p1, p2])]) en87 (.cons rfl (.cons rfl .nil)) (wk87 rp2 ⟨106, #[], #[p1, p2], rfl, en106, fun g' w' hch a0 b0 r hu0 hr => by obtain rfl := RV_int.1 hu0; exact Fn.mono (wk106  (q1.ch hch) (q2.ch hch) hr) fun _ _ _ h => RV_bool.2 h⟩ j0) fun g3 w3_ v3 hs hr => ?_)
 have hfr := hfr.ext hs
 have rp2 := rp2.ext hs
 have q1 := q1.ext hs
 have q2 := q2.ext hs
 subst hr
 refine EL_pur (v := .bool (!y4)) (P_not rfl) .plain rfl ?_
 refine EL_pur (v := .bool (!y4)) (P_assign rfl) .plain rfl ?_
 refine EL_nil (thn_n (E_ret ?_))
 obtain rfl := Option.some.inj h
 exact end1 rfl rfl (show _ = .bool (!y4) from rfl) ⟨_, hfr, rfl⟩
/-- (griffe/tie.harness).pick -/
def f102 (x0 : TieTieHarness) (x1 : Int) : Option (Str) :=
 Option.bind (α := List UInt8) (
  lp (σ := List UInt8 × Int) (fun u3 (j1, j0) =>
   bif (decide (j0 < ((((x0).TieHarness).Warps).length : Int))) then
    Option.bind (α := List UInt8) (
     (f111 x0 x1 j0).bind fun s2 =>
     (f110 s2).bind fun z2 =>
     (apnd 1 j1 [z2]).bind fun z3 =>
     some (z3)
     ) fun y0 =>
    u3 (y0, (w64 (j0 + (1 : Int))))
   else
    some (j1)
   ) big (([] : List UInt8), (0 : Int))
  ) fun m1 =>
 (sbstr m1).bind fun j2 =>
 some (j2)
theorem en102 : Enters Try.prog 102 := enters_of Try.func102 (by kernel_rfl) rfl
theorem wk102 {gI : Gh} {wI : World} {x0 : TieTieHarness} {x1 : Int} {up0 : Value} (rp0 : RV gI.m wI x0 up0) {r : Str} (h : f102 x0 x1 = some r) : Fn Try.prog 102 #[up0, .int .i64 (x1)] gI wI (fun _ _ v => v = Str.v (r)) := by
 unfold f102 at h
 refine fn_of_E Try.func102 rfl (Nat.le_of_ble_eq_true rfl) fun g0 hm hfr => ?_
 have rp0 : RV g0.m wI x0 up0 := hm ▸ rp0
 show E _ 22 none _ _ _ _ _
 refine E_seq (E_region (EL_do .plain rfl (D_box (g := g0) rfl rp0 fun g1 w1 p1 hs q1 => ?_)))
 have hfr := hfr.ext hs
 have rp0 := rp0.ext hs
 refine EL_pur (v := Str.v (⟨[]⟩ : Str)) (P_assign rfl) .plain rfl ?_
 refine EL_nil (thn_n (E_seq (E_region (EL_do .plain rfl (D_allocOc (g := g1) 2005 ((⟨.pointer none, rfl⟩, []) : Fv × List UInt8) Try.zeroValue154 (fun m w => ⟨_, rep_two (show GoT.rep m w (⟨.pointer none, rfl⟩ : Fv) [.pointer none] from rfl) rep_nil, rfl⟩) fun g2 w2 p2 hs b2 cb => ?_)))))
 have hfr := hfr.stp hs
 have rp0 := rp0.stp hs
 have q1 := q1.stp hs
 replace b2 : SB 2005 60501 g2 w2 5 154 [] p2 := ⟨_, b2, cb.osf rfl, .inl rfl⟩
 clear cb
 refine EL_nil (thn_n ?_)
 obtain ⟨m1, hx, h⟩ := bsome h
 refine E_join (fun e w => ∃ (g : Gh) , Fr gI wI g w ∧ e 5 = p2 ∧ SB 2005 60501 g w 5 154 (m1) p2) (fun Q' hQ => ?_) (fun x4 n4 hR => ?_)
 ·replace h := hx
  clear hx
  refine E_seq (E_region (EL_pur (v := fPtr p1 0) (P_fieldAddr at_145_0 rfl (PT.ptr q1)) .plain rfl ?_))
  have c4 := PT_field (part_TieTieHarness_0).1 q1
  refine EL_pur (v := fPtr (fPtr p1 0) 1) (P_fieldAddr at_24_1 rfl (PT.ptr c4)) .plain rfl ?_
  have o4 := PT_field (part_TieHarness_1).1 c4
  refine EL_do .plain rfl (D_load (g := g2) Try.isAgg22 Try.sizeOf22 rfl o4 fun e5 p4 => ?_)
  refine EL_pur (v := .int .i64 ((((x0).TieHarness).Warps).length : Int)) (P_len Try.underlying22 rfl p4) .plain rfl ?_
  refine EL_pur (v := .int .i64 (0)) (P_move rfl) .plain rfl ?_
  refine EL_nil (thn_n (E_block ?_))
  refine E_lp h (fun (s : List UInt8 × Int) e w => ∃ (g : Gh) , Fr gI wI g w ∧ e 1 = .int .i64 (x1) ∧ e 2 = p1 ∧ PT g.m w (x0 : TieTieHarness) p1 ∧ e 5 = p2 ∧ SB 2005 60501 g w 5 154 (s.1) p2 ∧ e 10 = .int .i64 (((((x0).TieHarness).Warps).length : Int)) ∧ e 11 = .int .i64 (s.2)) ⟨g2, hfr, rfl, rfl, q1, rfl, b2, rfl, rfl⟩ (fun X27 u3 d4 => ?_)
  rintro ⟨j1, j0⟩ z4 i5 ⟨d3, hfr, m2, q2, n0, z1, u0, d2, i1⟩ h
  refine E_seq (E_region (EL_pur (v := .bool ((decide (j0 < ((((x0).TieHarness).Warps).length : Int))))) (P_int i1 d2 rfl) .plain rfl ?_))
  refine EL_nil (thn_n (E_seq ?_))
  rcases csome h with ⟨i2, h⟩ | ⟨i2, h⟩
  ·refine E_cond_true (Eq.trans (show ev _ _ = .bool ((decide (j0 < ((((x0).TieHarness).Warps).length : Int)))) from rfl) (congrArg Value.bool i2)) ?_
   refine E_skip (thn_n ?_)
   obtain ⟨y0, hx, h⟩ := bsome h
   refine E_join (fun e w => ∃ (g : Gh) , Fr gI wI g w ∧ e 1 = .int .i64 (x1) ∧ e 2 = p1 ∧ PT g.m w (x0 : TieTieHarness) p1 ∧ e 5 = p2 ∧ SB 2005 60501 g w 5 154 (y0) p2 ∧ e 10 = .int .i64 (((((x0).TieHarness).Warps).length : Int)) ∧ e 11 = .int .i64 (j0)) (fun Q' hQ => ?_) (fun b5 j5 hR => ?_)
   ·replace h := hx
    clear hx
    refine E_block ?_
    refine E_seq (E_region (EL_pur (v := .int .i64 (j0)) (P_move i1) .plain rfl ?_))
    refine EL_pur (v := .int .i64 (j0)) (P_assign rfl) .plain rfl ?_
    refine EL_nil (thn_n (E_region (EL_do .plain rfl (D_load (g := d3) Try.isAgg145 Try.sizeOf145 q2 n0 fun q4 o0 => ?_))))
    refine EL_pur (v := .int .i64 (x1)) (P_move m2) .plain rfl ?_
    refine EL_pur (v := .int .i64 (j0)) (P_move rfl) .plain rfl ?_
    obtain ⟨s2, e4, h⟩ := bsome h
    refine EL_do .plain rfl (D_call (g := d3) (vs := [q4, .int .i64 (x1), .int .i64 (j0)]) en111 (.cons rfl (.cons rfl (.cons rfl .nil))) (wk111 o0 e4) fun r4 c5 l5 hs hr => ?_)
    have hfr := hfr.ext hs
    have n0 := n0.ext hs
    have u0 := u0.ext hs
    have o0 := o0.ext hs
    subst hr
    obtain ⟨z2, i4, h⟩ := bsome h
    refine EL_do .plain rfl (D_call (g := r4) (vs := [.bool (s2)]) en110 (.cons rfl .nil) (wk110  i4) fun m5 d5 n5 hs hr => ?_)
    have hfr := hfr.ext hs
    have n0 := n0.ext hs
    have u0 := u0.ext hs
    have o0 := o0.ext hs
    subst hr
    obtain ⟨z3, j4, h⟩ := bsome h
    refine EL_do .plain rfl (D_callC (vs := [p2, .int .u8 (UInt8.toNat (z2))]) en109 (.cons z1 (.cons rfl .nil)) (wk109 (i := 2005) (j := 60501) rfl rfl u0 j4) fun o5 p5 hq => ?_)
    obtain ⟨hv, s4, ⟨_, _, _, _, hs1, hs2, hs3⟩, b42⟩ := hq
    subst hv
    have hfr := hfr.stp hs1
    have n0 := n0.stp hs1
    have o0 := o0.stp hs1
    have hfr := hfr.stp hs2
    have n0 := n0.stp hs2
    have o0 := o0.stp hs2
    have hfr := hfr.stp hs3
    have n0 := n0.stp hs3
    have o0 := o0.stp hs3
    clear hs1 hs2 hs3
    refine EL_nil (blk_n ?_)
    obtain rfl := Option.some.inj h
    exact hQ _ _ ⟨s4, hfr, m2, q2, n0, z1, b42, d2, i1⟩
   ·clear hx
    obtain ⟨u4, hfr, j3, m3, o3, p3, q3, e3, i3⟩ := hR
    refine E_region (EL_pur (v := .int .i64 ((w64 (j0 + (1 : Int))))) (P_int i3 rfl rfl) .plain rfl ?_)
    refine EL_pur (v := .int .i64 ((w64 (j0 + (1 : Int))))) (P_move rfl) .plain rfl ?_
    exact EL_nil (thn_n (d4 (y0, (w64 (j0 + (1 : Int)))) _ _ ⟨u4, hfr, j3, m3, o3, p3, q3, e3, rfl⟩ h))
  ·refine E_cond_false (Eq.trans (show ev _ _ = .bool ((decide (j0 < ((((x0).TieHarness).Warps).length : Int)))) from rfl) (congrArg Value.bool i2)) ?_
   refine E_exit ?_
   refine thn_e ?_
   refine thn_e ?_
   refine blk_hit ?_
   obtain rfl := Option.some.inj h
   exact hQ _ _ ⟨d3, hfr, z1, u0⟩
 ·clear hx
  obtain ⟨q5, hfr, r3, s3⟩ := hR
  refine E_seq (E_region ?_)
  obtain ⟨j2, m4, h⟩ := bsome h
  obtain ⟨hne46, hye46⟩ := sbstr_h m4
  refine EL_do .plain rfl (D_callC (vs := [p2]) en112 (.cons r3 .nil) (wk112 (i := 2005) (j := 60501) rfl s3 hne46) fun r5 n4 hq => ?_)
  obtain ⟨hv, t5, hs⟩ := hq
  rw [← hye46] at hv
  subst hv
  have hfr := hfr.stp hs
  refine EL_pur (v := Str.v j2) (P_assign rfl) .plain rfl ?_
  refine EL_nil (thn_n (E_ret ?_))
  obtain rfl := Option.some.inj h
  exact end1 rfl rfl (show _ = Str.v j2 from rfl) ⟨_, hfr, rfl⟩
/-- slices.rotateCmpFunc[griffe/api.FaultDamage] -/
def f113 (x0 : List FaultDamage) (x1 : Int) (x2 : Int) (x3 : Int) (x4 : FaultDamage → FaultDamage → Option Int) : Option ((List FaultDamage)) :=
 Option.bind (α := (List FaultDamage) × Int) (
  lp (σ := (List FaultDamage) × Int × Int) (fun m3 (j1, j0, n0) =>
   jn (σ := Unit) (fun (_ : Unit) =>
    bif (decide (j0 > n0)) then
     (f115 j1 ((w64 (x2 - j0))) x2 n0 x4).bind fun o3 =>
     m3 (o3, (w64 (j0 - n0)), n0)
    else
     (f115 j1 ((w64 (x2 - j0))) ((w64 ((w64 (x2 + n0)) - j0))) j0 x4).bind fun p3 =>
     m3 (p3, j0, (w64 (n0 - j0)))
    ) fun c4 =>
   bif (j0 != n0) then
    c4 ()
   else
    some (j1, j0)
   ) big (x0, (w64 (x2 - x1)), (w64 (x3 - x2)))
  ) fun (i2, o0) =>
 (f115 i2 ((w64 (x2 - o0))) x2 o0 x4).bind fun d4 =>
 some (d4)
theorem en113 : Enters Try.prog 113 := enters_of Try.func113 (by kernel_rfl) rfl
theorem wk113 {iI : Nat} {gI : Gh} {wI : World} {x0 : List FaultDamage} {x1 : Int} {x2 : Int} {x3 : Int} {x4 : FaultDamage → FaultDamage → Option Int} {up0 : Value} (mp0 : OM iI gI wI 62 x0 up0) {up4 : Value} (rp4 : FnV2 Try.prog x4 up4 gI wI) {r : (List FaultDamage)} (h : f113 x0 x1 x2 x3 x4 = some r) : FnM Try.prog 113 #[up0, .int .i64 (x1), .int .i64 (x2), .int .i64 (x3), up4] iI gI wI (fun g w v => v = .tuple #[] ∧ OM iI g w 62 r up0) := by
 unfold f113 at h
 refine fnM_of_E Try.func113 rfl (Nat.le_of_ble_eq_true rfl) fun g0 hm hfr => ?_
 have r3 := mp0
 replace mp0 := mp0.enter
 rw [← hm] at mp0
 replace hm : g0.m = gI.m := by rw [hm]
 obtain ⟨ff4, fa4, fc4, rfl, fen4, fcl4⟩ := rp4
 show E _ 58 none _ _ _ _ _
 refine E_seq (E_region (EL_pur (v := .int .i64 (x2)) (P_move rfl) .plain rfl ?_))
 refine EL_pur (v := .int .i64 (x1)) (P_move rfl) .plain rfl ?_
 refine EL_pur (v := .int .i64 ((w64 (x2 - x1)))) (P_int rfl rfl rfl) .plain rfl ?_
 refine EL_pur (v := .int .i64 ((w64 (x2 - x1)))) (P_assign rfl) .plain rfl ?_
 refine EL_nil (thn_n (E_seq (E_region (EL_pur (v := .int .i64 (x3)) (P_move rfl) .plain rfl ?_))))
 refine EL_pur (v := .int .i64 (x2)) (P_move rfl) .plain rfl ?_
 refine EL_pur (v := .int .i64 ((w64 (x3 - x2)))) (P_int rfl rfl rfl) .plain rfl ?_
 refine EL_pur (v := .int .i64 ((w64 (x3 - x2)))) (P_assign rfl) .plain rfl ?_
 refine EL_nil (thn_n ?_)
 obtain ⟨⟨i2, o0⟩, hx, h⟩ := bsome h
 refine E_join (fun e w => ∃ (g : Gh) , FrM iI gI wI g w ∧ e 0 = up0 ∧ OM 1 g w 62 (i2 : List FaultDamage) up0 ∧ e 2 = .int .i64 (x2) ∧ e 4 = (.func (.func ff4) fa4 fc4) ∧ e 10 = .int .i64 (o0)) (fun Q' hQ => ?_) (fun u4 j4 hR => ?_)
 ·replace h := hx
  clear hx
  refine E_block ?_
  refine E_lp h (fun (s : (List FaultDamage) × Int × Int) e w => ∃ (g : Gh) , FrM iI gI wI g w ∧ e 0 = up0 ∧ OM 1 g w 62 (s.1 : List FaultDamage) up0 ∧ e 2 = .int .i64 (x2) ∧ e 4 = (.func (.func ff4) fa4 fc4) ∧ e 10 = .int .i64 (s.2.1) ∧ e 11 = .int .i64 (s.2.2)) ⟨g0, hfr, rfl, mp0, rfl, rfl, rfl, rfl⟩ (fun X12 m3 q3 => ?_)
  rintro ⟨j1, j0, n0⟩ z4 e5 ⟨e4, hfr, s2, z2, d3, e3, d2, j2⟩ h
  refine E_joinC h (fun (s : Unit) e w => ∃ (g : Gh) , FrM iI gI wI g w ∧ e 0 = up0 ∧ OM 1 g w 62 (j1 : List FaultDamage) up0 ∧ e 2 = .int .i64 (x2) ∧ e 4 = (.func (.func ff4) fa4 fc4) ∧ e 10 = .int .i64 (j0) ∧ e 11 = .int .i64 (n0)) (fun X15 c4 m4 h => ?_) ?_
  ·refine E_seq (E_region (EL_pur (v := .int .i64 (j0)) (P_move d2) .plain rfl ?_))
   refine EL_pur (v := .int .i64 (n0)) (P_move j2) .plain rfl ?_
   refine EL_pur (v := .bool ((j0 != n0))) (P_int rfl rfl rfl) .plain rfl ?_
   refine EL_nil (thn_n ?_)
   rcases csome h with ⟨p2, h⟩ | ⟨p2, h⟩
   ·refine E_cond_true (Eq.trans (show ev _ _ = .bool ((j0 != n0)) from rfl) (congrArg Value.bool p2)) ?_
    exact E_skip (thn_n (m4 () _ _ ⟨e4, hfr, s2, z2, d3, e3, d2, j2⟩ h))
   ·refine E_cond_false (Eq.trans (show ev _ _ = .bool ((j0 != n0)) from rfl) (congrArg Value.bool p2)) ?_
    refine E_exit ?_
    refine thn_e ?_
    refine thn_e ?_
    refine blk_hit ?_
    obtain ⟨rfl, rfl⟩ := pairs2 h
    exact hQ _ _ ⟨e4, hfr, s2, z2, d3, e3, d2⟩
  ·rintro _ b5 i5 ⟨i4, hfr, m1, i3, i1, z1, u0, y0⟩ h
   refine E_block ?_
   refine E_seq (E_region (EL_pur (v := .int .i64 (j0)) (P_move u0) .plain rfl ?_))
   refine EL_pur (v := .int .i64 (n0)) (P_move y0) .plain rfl ?_
   refine EL_pur (v := .bool ((decide (j0 > n0)))) (P_int rfl rfl rfl) .plain rfl ?_
   refine EL_nil (thn_n ?_)
   rcases csome h with ⟨q2, h⟩ | ⟨q2, h⟩
   ·refine E_cond_true (Eq.trans (show ev _ _ = .bool ((decide (j0 > n0))) from rfl) (congrArg Value.bool q2)) ?_
    refine E_seq (E_region (EL_pur (v := up0) (P_move m1) .plain rfl ?_))
    refine EL_pur (v := .int .i64 (x2)) (P_move i1) .plain rfl ?_
    refine EL_pur (v := .int .i64 (j0)) (P_move u0) .plain rfl ?_
    refine EL_pur (v := .int .i64 ((w64 (x2 - j0)))) (P_int rfl rfl rfl) .plain rfl ?_
    refine EL_pur (v := .int .i64 (x2)) (P_move i1) .plain rfl ?_
    refine EL_pur (v := .int .i64 (n0)) (P_move y0) .plain rfl ?_
    refine EL_pur (v := (.func (.func ff4) fa4 fc4)) (P_move z1) .plain rfl ?_
    obtain ⟨o3, n4, h⟩ := bsome h
    refine EL_do .plain rfl (D_callM (g := i4) (i := 1) (vs := [up0, .int .i64 ((w64 (x2 - j0))), .int .i64 (x2), .int .i64 (n0), (.func (.func ff4) fa4 fc4)]) en115 (.cons rfl (.cons rfl (.cons rfl (.cons rfl (.cons rfl .nil))))) (wk115 i3 (FnV2.ch ⟨_, _, _, rfl, fen4, fcl4⟩ hfr.ch) n4) fun q4 c5 j5 hs hr => ?_)
    obtain ⟨hrv, b19⟩ := hr
    subst hrv
    have hfr := hfr.stp hs
    refine EL_nil (thn_n (E_region (EL_pur (v := .int .i64 (j0)) (P_move u0) .plain rfl ?_)))
    refine EL_pur (v := .int .i64 (n0)) (P_move y0) .plain rfl ?_
    refine EL_pur (v := .int .i64 ((w64 (j0 - n0)))) (P_int rfl rfl rfl) .plain rfl ?_
    refine EL_pur (v := .int .i64 ((w64 (j0 - n0)))) (P_assign rfl) .plain rfl ?_
    exact EL_nil (blk_n (thn_n (q3 (o3, (w64 (j0 - n0)), n0) _ _ ⟨q4, hfr, m1, b19, i1, z1, rfl, y0⟩ h)))
   ·refine E_cond_false (Eq.trans (show ev _ _ = .bool ((decide (j0 > n0))) from rfl) (congrArg Value.bool q2)) ?_
    refine E_seq (E_region (EL_pur (v := up0) (P_move m1) .plain rfl ?_))
    refine EL_pur (v := .int .i64 (x2)) (P_move i1) .plain rfl ?_
    refine EL_pur (v := .int .i64 (j0)) (P_move u0) .plain rfl ?_
    refine EL_pur (v := .int .i64 ((w64 (x2 - j0)))) (P_int rfl rfl rfl) .plain rfl ?_
    refine EL_pur (v := .int .i64 (x2)) (P_move i1) .plain rfl ?_
    refine EL_pur (v := .int .i64 (n0)) (P_move y0) .plain rfl ?_
    refine EL_pur (v := .int .i64 ((w64 (x2 + n0)))) (P_int rfl rfl rfl) .plain rfl ?_
    refine EL_pur (v := .int .i64 (j0)) (P_move u0) .plain rfl ?_
    refine EL_pur (v := .int .i64 ((w64 ((w64 (x2 + n0)) - j0)))) (P_int rfl rfl rfl) .plain rfl ?_
    refine EL_pur (v := .int .i64 (j0)) (P_move u0) .plain rfl ?_
    refine EL_pur (v := (.func (.func ff4) fa4 fc4)) (P_move z1) .plain rfl ?_
    obtain ⟨p3, o4, h⟩ := bsome h
    refine EL_do .plain rfl (D_callM (g := i4) (i := 1) (vs := [up0, .int .i64 ((w64 (x2 - j0))), .int .i64 ((w64 ((w64 (x2 + n0)) - j0))), .int .i64 (j0), (.func (.func ff4) fa4 fc4)]) en115 (.cons rfl (.cons rfl (.cons rfl (.cons rfl (.cons rfl .nil))))) (wk115 i3 (FnV2.ch ⟨_, _, _, rfl, fen4, fcl4⟩ hfr.ch) o4) fun r4 d5 l5 hs hr => ?_)
    obtain ⟨hrv, b21⟩ := hr
    subst hrv
    have hfr := hfr.stp hs
    refine EL_nil (thn_n (E_region (EL_pur (v := .int .i64 (n0)) (P_move y0) .plain rfl ?_)))
    refine EL_pur (v := .int .i64 (j0)) (P_move u0) .plain rfl ?_
    refine EL_pur (v := .int .i64 ((w64 (n0 - j0)))) (P_int rfl rfl rfl) .plain rfl ?_
    refine EL_pur (v := .int .i64 ((w64 (n0 - j0)))) (P_assign rfl) .plain rfl ?_
    exact EL_nil (blk_n (thn_n (q3 (p3, j0, (w64 (n0 - j0))) _ _ ⟨r4, hfr, m1, b21, i1, z1, u0, rfl⟩ h)))
 ·clear hx
  obtain ⟨s4, hfr, s3, u3, j3, z3, m2⟩ := hR
  refine E_region (EL_pur (v := up0) (P_move s3) .plain rfl ?_)
  refine EL_pur (v := .int .i64 (x2)) (P_move j3) .plain rfl ?_
  refine EL_pur (v := .int .i64 (o0)) (P_move m2) .plain rfl ?_
  refine EL_pur (v := .int .i64 ((w64 (x2 - o0)))) (P_int rfl rfl rfl) .plain rfl ?_
  refine EL_pur (v := .int .i64 (x2)) (P_move j3) .plain rfl ?_
  refine EL_pur (v := .int .i64 (o0)) (P_move m2) .plain rfl ?_
  refine EL_pur (v := (.func (.func ff4) fa4 fc4)) (P_move z3) .plain rfl ?_
  obtain ⟨d4, p4, h⟩ := bsome h
  refine EL_do .plain rfl (D_callM (g := s4) (i := 1) (vs := [up0, .int .i64 ((w64 (x2 - o0))), .int .i64 (x2), .int .i64 (o0), (.func (.func ff4) fa4 fc4)]) en115 (.cons rfl (.cons rfl (.cons rfl (.cons rfl (.cons rfl .nil))))) (wk115 u3 (FnV2.ch ⟨_, _, _, rfl, fen4, fcl4⟩ hfr.ch) p4) fun m5 j4 n5 hs hr => ?_)
  obtain ⟨hrv, b24⟩ := hr
  subst hrv
  have hfr := hfr.stp hs
  refine EL_nil ?_
  obtain rfl := Option.some.inj h
  exact end0n rfl rfl ⟨_, hfr, rfl, r3.back b24⟩
/-- griffe/grifferef05.Like -/
def f21 (x0 : FaultLoom) (x1 : FaultLoom) : Option (Bool) :=
 Option.bind (α := Bool) (
  (f57 ((x0).Harness) ((x1).Harness)).bind fun o0 =>
  bif o0 then
   (f58 ((x0).Design) ((x1).Design)).bind fun m1 =>
   some (m1)
  else
   some (false)
  ) fun n0 =>
 some (n0)
theorem en21 : Enters Try.prog 21 := enters_of Try.func21 (by kernel_rfl) rfl
theorem wk21 {gI : Gh} {wI : World} {x0 : FaultLoom} {x1 : FaultLoom} {up0 : Value} (rp0 : RV gI.m wI x0 up0) {up1 : Value} (rp1 : RV gI.m wI x1 up1) {r : Bool} (h : f21 x0 x1 = some r) : Fn Try.prog 21 #[up0, up1] gI wI (fun _ _ v => v = .bool (r)) := by
 unfold f21 at h
 refine fn_of_E Try.func21 rfl (Nat.le_of_ble_eq_true rfl) fun g0 hm hfr => ?_
 have rp0 : RV g0.m wI x0 up0 := hm ▸ rp0
 have rp1 : RV g0.m wI x1 up1 := hm ▸ rp1
 show E _ 17 none _ _ _ _ _
 refine E_seq (E_region (EL_do .plain rfl (D_box (g := g0) rfl rp0 fun g1 w1 p1 hs q1 => ?_)))
 have hfr := hfr.ext hs
 have rp0 := rp0.ext hs
 have rp1 := rp1.ext hs
 refine EL_do .plain rfl (D_box (g := g1) rfl rp1 fun g2 w2 p2 hs q2 => ?_)
 have hfr := hfr.ext hs
 have rp0 := rp0.ext hs
 have rp1 := rp1.ext hs
 have q1 := q1.ext hs
 refine EL_pur (v := .bool false) (P_assign rfl) .plain rfl ?_
 refine EL_nil (thn_n ?_)
 obtain ⟨n0, hx, h⟩ := bsome h
 refine E_join (fun e w => ∃ (g : Gh) , Fr gI wI g w ∧ e 4 = .bool (n0)) (fun Q' hQ => ?_) (fun p3 s3 hR => ?_)
 ·replace h := hx
  clear hx
  refine E_region (EL_pur (v := fPtr p1 0) (P_fieldAddr at_28_0 rfl (PT.ptr q1)) .plain rfl ?_)
  have u0 := PT_field (part_FaultLoom_0).1 q1
  refine EL_do .plain rfl (D_load (g := g2) Try.isAgg24 Try.sizeOf24 rfl u0 fun e3 y0 => ?_)
  refine EL_pur (v := fPtr p2 0) (P_fieldAddr at_28_0 rfl (PT.ptr q2)) .plain rfl ?_
  have i1 := PT_field (part_FaultLoom_0).1 q2
  refine EL_do .plain rfl (D_load (g := g2) Try.isAgg24 Try.sizeOf24 rfl i1 fun i3 j1 => ?_)
  obtain ⟨o0, z2, h⟩ := bsome h
  refine EL_do .plain rfl (D_call (g := g2) (vs := [e3, i3]) en57 (.cons rfl (.cons rfl .nil)) (wk57 y0 j1 z2) fun z1 q3 u3 hs hr => ?_)
  have hfr := hfr.ext hs
  have rp0 := rp0.ext hs
  have rp1 := rp1.ext hs
  have q1 := q1.ext hs
  have q2 := q2.ext hs
  have u0 := u0.ext hs
  have y0 := y0.ext hs
  have i1 := i1.ext hs
  have j1 := j1.ext hs
  subst hr
  refine EL_pur (v := .bool (o0)) (P_move rfl) .plain rfl ?_
  rcases csome h with ⟨j0, h⟩ | ⟨j0, h⟩
  ·refine EL_pur (v := fPtr p1 2) (P_fieldAddr at_28_1 rfl (PT.ptr q1)) (.yes2 rfl rfl j0) rfl ?_
   have d2 := PT_field (part_FaultLoom_1).1 q1
   refine EL_do (.yes2 rfl rfl j0) rfl (D_load (g := z1) Try.isAgg26 Try.sizeOf26 rfl d2 fun j3 i2 => ?_)
   refine EL_pur (v := fPtr p2 2) (P_fieldAddr at_28_1 rfl (PT.ptr q2)) (.yes2 rfl rfl j0) rfl ?_
   have j2 := PT_field (part_FaultLoom_1).1 q2
   refine EL_do (.yes2 rfl rfl j0) rfl (D_load (g := z1) Try.isAgg26 Try.sizeOf26 rfl j2 fun m3 m2 => ?_)
   obtain ⟨m1, d3, h⟩ := bsome h
   refine EL_do (.yes2 rfl rfl j0) rfl (D_call (g := z1) (vs := [j3, m3]) en58 (.cons rfl (.cons rfl .nil)) (wk58 i2 m2 d3) fun o3 r3 z3 hs hr => ?_)
   have hfr := hfr.ext hs
   have rp0 := rp0.ext hs
   have rp1 := rp1.ext hs
   have q1 := q1.ext hs
   have q2 := q2.ext hs
   have u0 := u0.ext hs
   have y0 := y0.ext hs
   have i1 := i1.ext hs
   have j1 := j1.ext hs
   have d2 := d2.ext hs
   have i2 := i2.ext hs
   have j2 := j2.ext hs
   have m2 := m2.ext hs
   subst hr
   refine EL_pur (v := .bool (m1)) (P_pick (b := o0) rfl (pick_t j0 rfl)) .plain rfl ?_
   refine EL_pur (v := .bool (m1)) (P_assign rfl) .plain rfl ?_
   refine EL_nil ?_
   obtain rfl := Option.some.inj h
   exact hQ _ _ ⟨o3, hfr, rfl⟩
  ·refine EL_skip (.no2 rfl rfl j0 rfl) rfl ?_
   refine EL_skip (.no2 rfl rfl j0 rfl) rfl ?_
   refine EL_skip (.no2 rfl rfl j0 rfl) rfl ?_
   refine EL_skip (.no2 rfl rfl j0 rfl) rfl ?_
   refine EL_skip (.no2 rfl rfl j0 rfl) rfl ?_
   refine EL_pur (v := .bool false) (P_pick (b := o0) rfl (pick_f j0 rfl)) .plain rfl ?_
   refine EL_pur (v := .bool false) (P_assign rfl) .plain rfl ?_
   refine EL_nil ?_
   obtain rfl := Option.some.inj h
   exact hQ _ _ ⟨z1, hfr, rfl⟩
 ·clear hx
  obtain ⟨c4, hfr, s2⟩ := hR
  refine E_ret ?_
  obtain rfl := Option.some.inj h
  exact end1 rfl rfl (show _ = .bool (n0) from s2) ⟨_, hfr, rfl⟩
/-- griffe/grifferef05.Loom -/
def f33 (x0 : FaultLoom) : Option (Int) :=
 jn (σ := Unit) (fun (_ : Unit) =>
  jn (σ := Unit) (fun (_ : Unit) =>
   jn (σ := Unit) (fun (_ : Unit) =>
    some ((0 : Int))
    ) fun k33 =>
   bif (((x0).Harness).Hooks != ((x0).Design).Hooks) then
    some ((4 : Int))
   else
    k33 ()
   ) fun k19 =>
  (f67 ((x0).Design)).bind fun y23 =>
  bif (y23 != (0 : Int)) then
   some (y23)
  else
   k19 ()
  ) fun k7 =>
 (f66 ((x0).Harness)).bind fun y11 =>
 bif (y11 != (0 : Int)) then
  some (y11)
 else
  k7 ()
theorem en33 : Enters Try.prog 33 := enters_of Try.func33 (by kernel_rfl) rfl
theorem wk33 {gI : Gh} {wI : World} {x0 : FaultLoom} {up0 : Value} (rp0 : RV gI.m wI x0 up0) {r : Int} (h : f33 x0 = some r) : Fn Try.prog 33 #[up0] gI wI (fun _ _ v => v = .int .i64 (r)) := by
 unfold f33 at h
 refine fn_of_E Try.func33 rfl (Nat.le_of_ble_eq_true rfl) fun g0 hm hfr => ?_
 have rp0 : RV g0.m wI x0 up0 := hm ▸ rp0
 show E _ 24 none _ _ _ _ _
 refine E_seq (E_region (EL_do .plain rfl (D_box (g := g0) rfl rp0 fun g1 w1 p1 hs q1 => ?_)))
 have hfr := hfr.ext hs
 have rp0 := rp0.ext hs
 refine EL_pur (v := .int .i64 (0)) (P_assign rfl) .plain rfl ?_
 refine EL_nil (thn_n (E_joinC h (fun (s : Unit) e w => ∃ (g : Gh) , Fr gI wI g w ∧ e 1 = p1 ∧ PT g.m w (x0 : FaultLoom) p1) (fun X7 k7 d3 h => ?_) ?_))
 ·refine E_seq (E_region (EL_pur (v := fPtr p1 0) (P_fieldAddr at_28_0 rfl (PT.ptr q1)) .plain rfl ?_))
  have q8 := PT_field (part_FaultLoom_0).1 q1
  refine EL_do .plain rfl (D_load (g := g1) Try.isAgg24 Try.sizeOf24 rfl q8 fun v9 r9 => ?_)
  obtain ⟨y11, p2, h⟩ := bsome h
  refine EL_do .plain rfl (D_call (g := g1) (vs := [v9]) en66 (.cons rfl .nil) (wk66 r9 p2) fun e3 r3 d4 hs hr => ?_)
  have hfr := hfr.ext hs
  have rp0 := rp0.ext hs
  have q1 := q1.ext hs
  have q8 := q8.ext hs
  have r9 := r9.ext hs
  subst hr
  refine EL_pur (v := .int .i64 (y11)) (P_assign rfl) .plain rfl ?_
  refine EL_nil (thn_n (E_seq (E_region (EL_pur (v := .int .i64 (y11)) (P_move rfl) .plain rfl ?_))))
  refine EL_pur (v := .bool ((y11 != (0 : Int)))) (P_int rfl rfl rfl) .plain rfl ?_
  refine EL_nil (thn_n ?_)
  rcases csome h with ⟨o0, h⟩ | ⟨o0, h⟩
  ·refine E_cond_true (Eq.trans (show ev _ _ = .bool ((y11 != (0 : Int))) from rfl) (congrArg Value.bool o0)) ?_
   refine E_seq (E_region (EL_pur (v := .int .i64 (y11)) (P_move rfl) .plain rfl ?_))
   refine EL_pur (v := .int .i64 (y11)) (P_assign rfl) .plain rfl ?_
   refine EL_nil (thn_n (E_ret (thn_r ?_)))
   obtain rfl := Option.some.inj h
   exact end1 rfl rfl (show _ = .int .i64 (y11) from rfl) ⟨_, hfr, rfl⟩
  ·refine E_cond_false (Eq.trans (show ev _ _ = .bool ((y11 != (0 : Int))) from rfl) (congrArg Value.bool o0)) ?_
   exact E_skip (thn_n (d3 () _ _ ⟨e3, hfr, rfl, q1⟩ h))
 ·rintro _ s3 e4 ⟨i2, hfr, i1, j0⟩ h
  refine E_joinC h (fun (s : Unit) e w => ∃ (g : Gh) , Fr gI wI g w ∧ e 1 = p1 ∧ PT g.m w (x0 : FaultLoom) p1) (fun X19 k19 q2 h => ?_) ?_
  ·refine E_seq (E_region (EL_pur (v := fPtr p1 2) (P_fieldAddr at_28_1 i1 (PT.ptr j0)) .plain rfl ?_))
   have m1 := PT_field (part_FaultLoom_1).1 j0
   refine EL_do .plain rfl (D_load (g := i2) Try.isAgg26 Try.sizeOf26 rfl m1 fun i3 z1 => ?_)
   obtain ⟨y23, s2, h⟩ := bsome h
   refine EL_do .plain rfl (D_call (g := i2) (vs := [i3]) en67 (.cons rfl .nil) (wk67 z1 s2) fun j3 u3 i4 hs hr => ?_)
   have hfr := hfr.ext hs
   have j0 := j0.ext hs
   have m1 := m1.ext hs
   have z1 := z1.ext hs
   subst hr
   refine EL_pur (v := .int .i64 (y23)) (P_assign rfl) .plain rfl ?_
   refine EL_nil (thn_n (E_seq (E_region (EL_pur (v := .int .i64 (y23)) (P_move rfl) .plain rfl ?_))))
   refine EL_pur (v := .bool ((y23 != (0 : Int)))) (P_int rfl rfl rfl) .plain rfl ?_
   refine EL_nil (thn_n ?_)
   rcases csome h with ⟨u0, h⟩ | ⟨u0, h⟩
   ·refine E_cond_true (Eq.trans (show ev _ _ = .bool ((y23 != (0 : Int))) from rfl) (congrArg Value.bool u0)) ?_
    refine E_seq (E_region (EL_pur (v := .int .i64 (y23)) (P_move rfl) .plain rfl ?_))
    refine EL_pur (v := .int .i64 (y23)) (P_assign rfl) .plain rfl ?_
    refine EL_nil (thn_n (E_ret (thn_r ?_)))
    obtain rfl := Option.some.inj h
    exact end1 rfl rfl (show _ = .int .i64 (y23) from rfl) ⟨_, hfr, rfl⟩
   ·refine E_cond_false (Eq.trans (show ev _ _ = .bool ((y23 != (0 : Int))) from rfl) (congrArg Value.bool u0)) ?_
    exact E_skip (thn_n (q2 () _ _ ⟨j3, hfr, i1, j0⟩ h))
  ·rintro _ z3 j4 ⟨d2, hfr, j1, n0⟩ h
   refine E_joinC h (fun (s : Unit) e w => ∃ (g : Gh) , Fr gI wI g w) (fun X33 k33 z2 h => ?_) ?_
   ·refine E_seq (E_region (EL_pur (v := fPtr p1 0) (P_fieldAddr at_28_0 j1 (PT.ptr n0)) .plain rfl ?_))
    have j2 := PT_field (part_FaultLoom_0).1 n0
    refine EL_pur (v := fPtr (fPtr p1 0) 0) (P_fieldAddr at_24_0 rfl (PT.ptr j2)) .plain rfl ?_
    have m3 := PT_field (part_TieHarness_0).1 j2
    refine EL_do .plain rfl (D_load (g := d2) Try.isAgg3 Try.sizeOf3 rfl m3 fun m4 o3 => ?_)
    obtain rfl := RV_int.1 o3
    refine EL_pur (v := fPtr p1 2) (P_fieldAddr at_28_1 j1 (PT.ptr n0)) .plain rfl ?_
    have m2 := PT_field (part_FaultLoom_1).1 n0
    refine EL_pur (v := fPtr (fPtr p1 2) 0) (P_fieldAddr at_26_0 rfl (PT.ptr m2)) .plain rfl ?_
    have p3 := PT_field (part_Design_0).1 m2
    refine EL_do .plain rfl (D_load (g := d2) Try.isAgg3 Try.sizeOf3 rfl p3 fun n4 q3 => ?_)
    obtain rfl := RV_int.1 q3
    refine EL_pur (v := .bool ((((x0).Harness).Hooks != ((x0).Design).Hooks))) (P_int rfl rfl rfl) .plain rfl ?_
    refine EL_nil (thn_n ?_)
    rcases csome h with ⟨y0, h⟩ | ⟨y0, h⟩
    ·refine E_cond_true (Eq.trans (show ev _ _ = .bool ((((x0).Harness).Hooks != ((x0).Design).Hooks)) from rfl) (congrArg Value.bool y0)) ?_
     refine E_seq (E_region (EL_pur (v := .int .i64 (4)) (P_assign rfl) .plain rfl ?_))
     refine EL_nil (thn_n (E_ret (thn_r ?_)))
     obtain rfl := Option.some.inj h
     exact end1 rfl rfl (show _ = .int .i64 (4) from rfl) ⟨_, hfr, rfl⟩
    ·refine E_cond_false (Eq.trans (show ev _ _ = .bool ((((x0).Harness).Hooks != ((x0).Design).Hooks)) from rfl) (congrArg Value.bool y0)) ?_
     exact E_skip (thn_n (z2 () _ _ ⟨d2, hfr⟩ h))
   ·rintro _ c4 o4 ⟨p4, hfr⟩ h
    refine E_seq (E_region (EL_pur (v := .int .i64 (0)) (P_assign rfl) .plain rfl ?_))
    refine EL_nil (thn_n (E_ret ?_))
    obtain rfl := Option.some.inj h
    exact end1 rfl rfl (show _ = .int .i64 (0) from rfl) ⟨_, hfr, rfl⟩
theorem v103_0 {iO : Nat} {gI : Gh} {wI : World} {x0 : Int} {x1 : Int}  {r : (List Bool)} (h : f103 x0 x1 = some r) : FnG Try.prog 103 #[.int .i64 (x0), .int .i64 (x1)] gI wI (fun g w v => OM iO g w 4 (r) v) := by
 unfold f103 at h
 refine fnG_of_E Try.func103 rfl (Nat.le_of_ble_eq_true rfl) fun g0 hm hfr => ?_
 show E _ 22 none _ _ _ _ _
 refine E_seq (E_region (EL_pur (v := .slice none 0 0) (P_assign rfl) .plain rfl ?_))
 refine EL_nil (thn_n (E_seq (E_region (EL_do .plain rfl (D_buildSlice (g := g0) 3007 (xs := ([] : List Bool)) (vs := []) Try.underlying110 Try.sizeOf4 Try.zeroValue4 rfl rfl .nil RVs.nil rfl rfl fun g1 w1 v1 hs o1 r1 hxt hfl => ?_)))))
 have hfr := hfr.stp hs
 refine EL_pur (v := v1) (P_assign rfl) .plain rfl ?_
 refine EL_nil (thn_n ?_)
 obtain ⟨z1, hx, h⟩ := bsome h
 refine E_join (fun e w => ∃ (g : Gh) (v5 : Value), Fr gI wI g w ∧ e 5 = v5 ∧ RV g.m w (z1 : List Bool) v5 ∧ OS 3007 g w 4 (z1 : List Bool) v5) (fun Q' hQ => ?_) (fun d5 l5 hR => ?_)
 ·replace h := hx
  clear hx
  refine E_seq (E_region (EL_pur (v := .int .i64 (0)) (P_assign rfl) .plain rfl ?_))
  refine EL_nil (thn_n (E_block ?_))
  refine E_lp h (fun (s : Int × (List Bool) × Int) e w => ∃ (g : Gh) (v5 : Value), Fr gI wI g w ∧ e 0 = .int .i64 (s.1) ∧ e 1 = .int .i64 (x1) ∧ e 5 = v5 ∧ RV g.m w (s.2.1 : List Bool) v5 ∧ OS 3007 g w 4 (s.2.1 : List Bool) v5 ∧ e 6 = .int .i64 (s.2.2)) ⟨g1, (v1), hfr, rfl, rfl, rfl, r1, o1, rfl⟩ (fun X19 k19 o4 => ?_)
  rintro ⟨u0, d2, j0⟩ e5 m5 ⟨j4, n0, hfr, i3, i2, j2, m2, p2, q2⟩ h
  refine E_joinC h (fun (s : Unit) e w => ∃ (g : Gh) , Fr gI wI g w ∧ e 0 = .int .i64 (u0) ∧ e 1 = .int .i64 (x1) ∧ e 5 = n0 ∧ RV g.m w (d2 : List Bool) n0 ∧ OS 3007 g w 4 (d2 : List Bool) n0 ∧ e 6 = .int .i64 (j0)) (fun X22 n5 p4 h => ?_) ?_
  ·refine E_seq (E_region (EL_pur (v := .int .i64 (j0)) (P_move q2) .plain rfl ?_))
   refine EL_pur (v := .int .i64 (x1)) (P_move i2) .plain rfl ?_
   refine EL_pur (v := .bool ((decide (j0 < x1)))) (P_int rfl rfl rfl) .plain rfl ?_
   refine EL_nil (thn_n ?_)
   rcases csome h with ⟨m1, h⟩ | ⟨m1, h⟩
   ·refine E_cond_true (Eq.trans (show ev _ _ = .bool ((decide (j0 < x1))) from rfl) (congrArg Value.bool m1)) ?_
    exact E_skip (thn_n (p4 () _ _ ⟨j4, hfr, i3, i2, j2, m2, p2, q2⟩ h))
   ·refine E_cond_false (Eq.trans (show ev _ _ = .bool ((decide (j0 < x1))) from rfl) (congrArg Value.bool m1)) ?_
    refine E_exit ?_
    refine thn_e ?_
    refine thn_e ?_
    refine blk_hit ?_
    obtain rfl := Option.some.inj h
    exact hQ _ _ ⟨j4, (n0), hfr, j2, m2, p2⟩
  ·rintro _ i5 o5 ⟨u4, hfr, s2, j3, m3, o0, y0, o3⟩ h
   obtain ⟨⟨z2, i1⟩, hx, h⟩ := bsome h
   refine E_join (fun e w => ∃ (g : Gh) (v5 : Value), Fr gI wI g w ∧ e 0 = .int .i64 (z2) ∧ e 1 = .int .i64 (x1) ∧ e 5 = v5 ∧ RV g.m w (i1 : List Bool) v5 ∧ OS 3007 g w 4 (i1 : List Bool) v5 ∧ e 6 = .int .i64 (j0)) (fun Q' hQ => ?_) (fun j5 p5 hR => ?_)
   ·replace h := hx
    clear hx
    refine E_block ?_
    refine E_seq (E_region (EL_pur (v := n0) (P_move m3) .plain rfl ?_))
    refine EL_pur (v := .int .i64 (u0)) (P_move s2) .plain rfl ?_
    obtain ⟨d3, q4, h⟩ := bsome h
    refine EL_pur (v := .int .i64 (d3)) (P_int rfl rfl (congrArg (Option.map (Value.int .i64)) q4)) .plain rfl ?_
    refine EL_pur (v := .bool ((d3 == (1 : Int)))) (P_int rfl rfl rfl) .plain rfl ?_
    refine EL_do .plain rfl (D_buildSlice (g := u4) 3017 (xs := ([(d3 == (1 : Int))] : List Bool)) (vs := [.bool ((d3 == (1 : Int)))]) Try.underlying110 Try.sizeOf4 Try.zeroValue4 rfl rfl (.cons rfl .nil) (RVs.cons (RV_bool.2 rfl) RVs.nil) rfl rfl fun x4 q5 r5 hs o31 e3 hxt hfl => ?_)
    have hfr := hfr.stp hs
    have o0 := o0.stp hs
    have y0 := y0.stp hs rfl
    obtain ⟨t5, r4, h⟩ := bsome h
    refine EL_do .plain rfl (D_append (g := x4) (i := 3007) Try.underlying110 info_4 rfl rfl y0 o0 rfl e3 r4 fun z4 u5 m4 hs o32 b5 _ => ?_)
    have hfr := hfr.stp hs
    have o0 := o0.stp hs
    have e3 := e3.stp hs
    have o31 := o31.stp hs rfl
    refine EL_pur (v := m4) (P_assign rfl) .plain rfl ?_
    refine EL_nil (thn_n (E_region (EL_pur (v := .int .i64 (u0)) (P_move s2) .plain rfl ?_)))
    obtain ⟨n4, s4, h⟩ := bsome h
    refine EL_pur (v := .int .i64 (n4)) (P_int rfl rfl (congrArg (Option.map (Value.int .i64)) s4)) .plain rfl ?_
    refine EL_pur (v := .int .i64 (n4)) (P_assign rfl) .plain rfl ?_
    refine EL_nil (blk_n ?_)
    obtain ⟨rfl, rfl⟩ := pairs2 h
    exact hQ _ _ ⟨z4, (m4), hfr, rfl, j3, rfl, b5, o32, o3⟩
   ·clear hx
    obtain ⟨c5, p3, hfr, q3, r3, s3, u3, z3, c4⟩ := hR
    refine E_region (EL_pur (v := .int .i64 (j0)) (P_move c4) .plain rfl ?_)
    refine EL_pur (v := .int .i64 ((w64 (j0 + (1 : Int))))) (P_int rfl rfl rfl) .plain rfl ?_
    refine EL_pur (v := .int .i64 ((w64 (j0 + (1 : Int))))) (P_assign rfl) .plain rfl ?_
    exact EL_nil (thn_n (o4 (z2, i1, (w64 (j0 + (1 : Int)))) _ _ ⟨c5, (p3), hfr, q3, r3, s3, u3, z3, rfl⟩ h))
 ·clear hx
  obtain ⟨x5, j1, hfr, d4, e4, i4⟩ := hR
  refine E_seq (E_region (EL_pur (v := j1) (P_move d4) .plain rfl ?_))
  refine EL_pur (v := j1) (P_assign rfl) .plain rfl ?_
  refine EL_nil (thn_n (E_ret ?_))
  obtain rfl := Option.some.inj h
  obtain ⟨gh, hxh, homh⟩ := OM.hand (i := iO) plain_bool hfr i4 e4
  exact end1 rfl rfl (show _ = j1 from rfl) ⟨gh, hxh, homh⟩
/-- griffe/fault.within -/
def f62 (x0 : Int) (x1 : Int) (x2 : List Int) : Option (Bool) :=
 (f87 x2 ((fun a0 => f88 a0 x0 x1))).bind fun y4 =>
 some ((!y4))
theorem en62 : Enters Try.prog 62 := enters_of Try.func62 (by kernel_rfl) rfl
theorem wk62 {gI : Gh} {wI : World} {x0 : Int} {x1 : Int} {x2 : List Int} {up2 : Value} (rp2 : RV gI.m wI x2 up2) {r : Bool} (h : f62 x0 x1 x2 = some r) : Fn Try.prog 62 #[.int .i64 (x0), .int .i64 (x1), up2] gI wI (fun _ _ v => v = .bool (r)) := by
 unfold f62 at h
 refine fn_of_E Try.func62 rfl (Nat.le_of_ble_eq_true rfl) fun g0 hm hfr => ?_
 have rp2 : RV g0.m wI x2 up2 := hm ▸ rp2
 show E _ 11 none _ _ _ _ _
 refine E_seq (E_region (EL_do .plain rfl (D_box (g := g0) rfl (RV_int.2 rfl) fun g1 w1 p1 hs q1 => ?_)))
 have hfr := hfr.ext hs
 have rp2 := rp2.ext hs
 refine EL_do .plain rfl (D_box (g := g1) rfl (RV_int.2 rfl) fun g2 w2 p2 hs q2 => ?_)
 have hfr := hfr.ext hs
 have rp2 := rp2.ext hs
 have q1 := q1.ext hs
 refine EL_pur (v := .bool false) (P_assign rfl) .plain rfl ?_
 refine EL_nil (thn_n (E_seq (E_region (EL_pur (v := up2) (P_move rfl) .plain rfl ?_))))
 refine EL_pur (v := (.func (.func 88) #[] #[p1, p2])) (P_makeFunc (capf_0_2 (show ev _ _ = p1 from rfl) (show ev _ _ = p2 from rfl))) .plain rfl ?_
 obtain ⟨y4, j0, h⟩ := bsome h
 refine EL_do .plain rfl (D_call (g := g2) (vs := [up2, (.func (.func 88) #[] #[p1, p2])]) en87 (.cons rfl (.cons rfl .nil)) (wk87 rp2 ⟨88, #[], #[p1, p2], rfl, en88, fun g' w' hch a0 b0 r hu0 hr => by obtain rfl := RV_int.1 hu0; exact Fn.mono (wk88  (q1.ch hch) (q2.ch hch) hr) fun _ _ _ h => RV_bool.2 h⟩ j0) fun g3 w3_ v3 hs hr => ?_)
 have hfr := hfr.ext hs
 have rp2 := rp2.ext hs
 have q1 := q1.ext hs
 have q2 := q2.ext hs
 subst hr
 refine EL_pur (v := .bool (!y4)) (P_not rfl) .plain rfl ?_
 refine EL_pur (v := .bool (!y4)) (P_assign rfl) .plain rfl ?_
 refine EL_nil (thn_n (E_ret ?_))
 obtain rfl := Option.some.inj h
 exact end1 rfl rfl (show _ = .bool (!y4) from rfl) ⟨_, hfr, rfl⟩
theorem v85_0 {iO jO : Nat} {gI : Gh} {wI : World} {x0 : Design} {up0 : Value} (rp0 : RV gI.m wI x0 up0) {r : (List (List Bool))} (h : f85 x0 = some r) : FnG Try.prog 85 #[up0] gI wI (fun g w v => NS (RM (α := Bool) 4) iO jO g w 110 r v) := by
 unfold f85 at h
 refine fnG_of_E Try.func85 rfl (Nat.le_of_ble_eq_true rfl) fun g0 hm hfr => ?_
 have rp0 : RV g0.m wI x0 up0 := hm ▸ rp0
 show E _ 25 none _ _ _ _ _
 refine E_seq (E_region (EL_do .plain rfl (D_box (g := g0) rfl rp0 fun g1 w1 p1 hs q1 => ?_)))
 have hfr := hfr.ext hs
 have rp0 := rp0.ext hs
 refine EL_pur (v := .slice none 0 0) (P_assign rfl) .plain rfl ?_
 refine EL_nil (thn_n (E_seq (E_region (EL_do .plain rfl (D_buildSlice (g := g1) 3005 (xs := ([] : List (List Bool))) (vs := []) Try.underlying108 Try.sizeOf110 Try.zeroValue110 rfl rfl .nil RVs.nil rfl rfl fun g2 w2 v2 hs o2 r2 hxt hfl => ?_)))))
 have hfr := hfr.stp hs
 have rp0 := rp0.stp hs
 have q1 := q1.stp hs
 refine EL_pur (v := v2) (P_assign rfl) .plain rfl ?_
 have b3 := RO.ofOS o2
 have c3 : Pool (RM (α := Bool) 4) 9503 g2 w2 [] [] none := Pool.nil
 refine EL_nil (thn_n ?_)
 obtain ⟨p3, hx, h⟩ := bsome h
 refine E_join (fun e w => ∃ (g : Gh) (v3 : Value), Fr gI wI g w ∧ e 3 = v3 ∧ NS (RM (α := Bool) 4) 3005 9503 g w 110 (p3 : List (List Bool)) v3) (fun Q' hQ => ?_) (fun x5 b6 hR => ?_)
 ·replace h := hx
  clear hx
  refine E_seq (E_region (EL_pur (v := .int .i64 (0)) (P_assign rfl) .plain rfl ?_))
  refine EL_nil (thn_n (E_block ?_))
  refine E_lp h (fun (s : (List (List Bool)) × Int) e w => ∃ (g : Gh) (v3 : Value), Fr gI wI g w ∧ e 1 = p1 ∧ PT g.m w (x0 : Design) p1 ∧ e 3 = v3 ∧ NS (RM (α := Bool) 4) 3005 9503 g w 110 (s.1 : List (List Bool)) v3 ∧ e 4 = .int .i64 (s.2)) ⟨g2, (v2), hfr, rfl, q1, rfl, ⟨_, b3, c3⟩, rfl⟩ (fun X67 q6 c5 => ?_)
  rintro ⟨q4, j0⟩ c6 r6 ⟨q3, m1, hfr, z2, d2, d3, ⟨y5, e3, i3⟩, j3⟩ h
  refine E_joinC h (fun (s : Unit) e w => ∃ (g : Gh) , Fr gI wI g w ∧ e 1 = p1 ∧ PT g.m w (x0 : Design) p1 ∧ e 3 = m1 ∧ NS (RM (α := Bool) 4) 3005 9503 g w 110 (q4 : List (List Bool)) m1 ∧ e 4 = .int .i64 (j0)) (fun X72 s6 d5 h => ?_) ?_
  ·refine E_seq (E_region (EL_pur (v := .int .i64 (j0)) (P_move j3) .plain rfl ?_))
   refine EL_pur (v := fPtr p1 1) (P_fieldAddr at_26_1 z2 (PT.ptr d2)) .plain rfl ?_
   have p5 := PT_field (part_Design_1).1 d2
   refine EL_do .plain rfl (D_load (g := q3) Try.isAgg22 Try.sizeOf22 rfl p5 fun t6 q5 => ?_)
   refine EL_pur (v := .int .i64 (((x0).Rows).length : Int)) (P_len Try.underlying22 rfl q5) .plain rfl ?_
   refine EL_pur (v := .bool ((decide (j0 < (((x0).Rows).length : Int))))) (P_int rfl rfl rfl) .plain rfl ?_
   refine EL_nil (thn_n ?_)
   rcases csome h with ⟨s2, h⟩ | ⟨s2, h⟩
   ·refine E_cond_true (Eq.trans (show ev _ _ = .bool ((decide (j0 < (((x0).Rows).length : Int)))) from rfl) (congrArg Value.bool s2)) ?_
    exact E_skip (thn_n (d5 () _ _ ⟨q3, hfr, z2, d2, d3, ⟨_, e3, i3⟩, j3⟩ h))
   ·refine E_cond_false (Eq.trans (show ev _ _ = .bool ((decide (j0 < (((x0).Rows).length : Int)))) from rfl) (congrArg Value.bool s2)) ?_
    refine E_exit ?_
    refine thn_e ?_
    refine thn_e ?_
    refine blk_hit ?_
    obtain rfl := Option.some.inj h
    exact hQ _ _ ⟨q3, (m1), hfr, d3, ⟨_, e3, i3⟩⟩
  ·rintro _ d6 u6 ⟨r5, hfr, i2, n0, r4, ⟨z5, j2, m2⟩, m3⟩ h
   obtain ⟨q2, hx, h⟩ := bsome h
   refine E_join (fun e w => ∃ (g : Gh) (v3 : Value), Fr gI wI g w ∧ e 1 = p1 ∧ PT g.m w (x0 : Design) p1 ∧ e 3 = v3 ∧ NS (RM (α := Bool) 4) 3005 9503 g w 110 (q2 : List (List Bool)) v3 ∧ e 4 = .int .i64 (j0)) (fun Q' hQ => ?_) (fun a6 e6 hR => ?_)
   ·replace h := hx
    clear hx
    refine E_block ?_
    have u0 := PT_field (part_Design_1).1 n0
    refine L_load (x := .tmp 14) Try.isAgg22 Try.sizeOf22 u0 fun r3 o0 s4 => ?_
    obtain ⟨s3, o3, h⟩ := bsome h
    have y0 := PT_idx o0 o3
    refine L_load (x := .tmp 17) Try.isAgg3 Try.sizeOf3 y0 fun i6 e5 u4 => ?_
    obtain rfl := RV_int.1 e5
    have i1 := PT_field (part_Design_0).1 n0
    refine L_load (x := .tmp 19) Try.isAgg3 Try.sizeOf3 i1 fun j6 i5 x4 => ?_
    obtain rfl := RV_int.1 i5
    obtain ⟨j1, z4, h⟩ := bsome h
    refine E_drawL (g := r5) (n := 10) [(8, (fun v g w => OM 9721 g w 4 j1 v)), (9, (fun v g w => ∃ q : Fv, OM 9721 g w 4 j1 q.v ∧ RV g.m w [q] v))] [0, 1, 2, 3, 4, 5, 6, 7, 8, 9] rfl mixed (by kernel_rfl) (⟨fun _ => up_om, fun _ => up_row, trivial⟩) ?_
    refine L_pur (c := m1) rfl rfl .plain (fun _ _ hd => P_move r4) ?_
    refine L_pur (c := fPtr p1 1) rfl rfl .plain (fun _ _ hd => P_fieldAddr at_26_1 i2 (PT.ptr n0)) ?_
    refine L_ld (c := r3) rfl rfl .plain (fun _ _ h => h.ch) s4 rfl ?_
    refine L_pur (c := .int .i64 (j0)) rfl rfl .plain (fun _ _ hd => P_move m3) ?_
    refine L_pur (c := ePtr r3 j0 1) rfl rfl .plain (fun _ _ hd => P_indexAddr (α := Int) Try.underlying22 Try.sizeOf3 rfl o0 rfl o3) ?_
    refine L_ld (c := .int .i64 (s3)) rfl rfl .plain (fun _ _ h => h.ch) u4 rfl ?_
    refine L_pur (c := fPtr p1 0) rfl rfl .plain (fun _ _ hd => P_fieldAddr at_26_0 i2 (PT.ptr n0)) ?_
    refine L_ld (c := .int .i64 ((x0).Hooks)) rfl rfl .plain (fun _ _ h => h.ch) x4 rfl ?_
    refine L_do (φ := fun v g w => OM 9721 g w 4 j1 v) rfl rfl .plain (fun g w hd => D_callG (g := g) (vs := [.int .i64 (s3), .int .i64 ((x0).Hooks)]) en103 (.cons rfl (.cons rfl .nil)) (v103_0 (iO := 9721)  z4) fun g' w' v hs hr => ⟨g', hs, hr⟩) (fun p2 hv => ?_)
    obtain ⟨_, _, _, rq110⟩ := hv
    have one110 := K_one (rowM (α := Bool) 4) rq110
    refine L_do (φ := fun v g w => ∃ q : Fv, OM 9721 g w 4 j1 q.v ∧ RV g.m w [q] v) rfl rfl .plain (fun g w hd => D_buildSlice (g := g) 3022 (xs := ([⟨p2, one110⟩] : List Fv)) (vs := [p2]) Try.underlying108 Try.sizeOf110 Try.zeroValue110 rfl rfl (.cons rfl .nil) (RVs.cons (RV_fv.2 rfl) RVs.nil) rfl rfl fun g' w' v hs o r hxt hfl => ⟨g', hxt, ⟨p2, one110⟩, OM.ext (word (A := fun g w => OM 9721 g w 4 j1 p2) 8 rfl rfl (deps_of hd)) hxt, r⟩) (fun j5 hv => ?_)
    clear hv
    refine L_nil fun l5 k6 hall => ?_
    have hs := hall.1
    have hfr := hfr.ext hs
    have n0 := n0.ext hs
    have j2 := j2.ext hs
    have m2 := m2.ext (rowM _) hs
    have u0 := u0.ext hs
    have o0 := o0.ext hs
    have y0 := y0.ext hs
    have i1 := i1.ext hs
    obtain ⟨m5, b126, n5⟩ := (word_all (A := fun g w => ∃ q : Fv, OM 9721 g w 4 j1 q.v ∧ RV g.m w [q] j5) 9 rfl hall)
    clear hs hall
    obtain ⟨l6, b5, h⟩ := bsome h
    refine EL_do .plain rfl (D_appendN (g := l5) (R := (RM (α := Bool) 4)) (i := 3005) (j := 9503) (j' := 9721) (rowM _) m5 Try.underlying108 info_110 rfl rfl ⟨_, j2, m2⟩ rfl n5 b126 b5 rfl rfl rfl rfl fun m6 n6 u3 ga127 hs hs2 bb127 => ?_)
    have hfr := hfr.stp hs
    have n0 := n0.stp hs
    have u0 := u0.stp hs
    have o0 := o0.stp hs
    have y0 := y0.stp hs
    have i1 := i1.stp hs
    have hfr := hfr.stp hs2
    have n0 := n0.stp hs2
    have u0 := u0.stp hs2
    have o0 := o0.stp hs2
    have y0 := y0.stp hs2
    have i1 := i1.stp hs2
    obtain ⟨o6, b127, c127⟩ := bb127
    clear hs hs2
    refine EL_pur (v := u3) (P_assign rfl) .plain rfl ?_
    refine EL_nil (blk_n ?_)
    obtain rfl := Option.some.inj h
    exact hQ _ _ ⟨ga127, (u3), hfr, i2, n0, rfl, ⟨_, b127, c127⟩, m3⟩
   ·clear hx
    obtain ⟨o5, z3, hfr, c4, d4, e4, ⟨t5, i4, j4⟩, m4⟩ := hR
    refine E_region (EL_pur (v := .int .i64 (j0)) (P_move m4) .plain rfl ?_)
    refine EL_pur (v := .int .i64 ((w64 (j0 + (1 : Int))))) (P_int rfl rfl rfl) .plain rfl ?_
    refine EL_pur (v := .int .i64 ((w64 (j0 + (1 : Int))))) (P_assign rfl) .plain rfl ?_
    exact EL_nil (thn_n (c5 (q2, (w64 (j0 + (1 : Int)))) _ _ ⟨o5, (z3), hfr, c4, d4, e4, ⟨_, i4, j4⟩, rfl⟩ h))
 ·clear hx
  obtain ⟨p6, z1, hfr, n4, ⟨u5, o4, p4⟩⟩ := hR
  refine E_seq (E_region (EL_pur (v := z1) (P_move n4) .plain rfl ?_))
  refine EL_pur (v := z1) (P_assign rfl) .plain rfl ?_
  refine EL_nil (thn_n (E_ret ?_))
  obtain rfl := Option.some.inj h
  obtain ⟨gh, hxh, homh⟩ := NS.hand (R := (RM (α := Bool) 4)) (i' := iO) (j' := jO) (rowM _) hfr ⟨_, o4, p4⟩ rfl
  exact end1 rfl rfl (show _ = z1 from rfl) ⟨gh, hxh, homh⟩
/-- griffe/tie.Check -/
def f73 (x0 : TieHarness) : Option (Int) :=
 jn (σ := Unit) (fun (_ : Unit) =>
  some ((0 : Int))
  ) fun z2 =>
 (f94 ((1 : Int)) ((24 : Int)) (([(x0).Hooks] : List Int))).bind fun n0 =>
 bif (!n0) then
  some ((2 : Int))
 else
  bif (decide ((((x0).Warps).length : Int) > (96 : Int))) then
   some ((5 : Int))
  else
   bif ((((x0).Warps).length : Int) == (0 : Int)) then
    some ((7 : Int))
   else
    (f94 ((0 : Int)) ((w64 ((x0).Hooks - (1 : Int)))) ((x0).Warps)).bind fun o0 =>
    bif (!o0) then
     some ((2 : Int))
    else
     z2 ()
theorem en73 : Enters Try.prog 73 := enters_of Try.func73 (by kernel_rfl) rfl
theorem wk73 {gI : Gh} {wI : World} {x0 : TieHarness} {up0 : Value} (rp0 : RV gI.m wI x0 up0) {r : Int} (h : f73 x0 = some r) : Fn Try.prog 73 #[up0] gI wI (fun _ _ v => v = .int .i64 (r)) := by
 unfold f73 at h
 refine fn_of_E Try.func73 rfl (Nat.le_of_ble_eq_true rfl) fun g0 hm hfr => ?_
 have rp0 : RV g0.m wI x0 up0 := hm ▸ rp0
 show E _ 27 none _ _ _ _ _
 refine E_seq (E_region (EL_do .plain rfl (D_box (g := g0) rfl rp0 fun g1 w1 p1 hs q1 => ?_)))
 have hfr := hfr.ext hs
 have rp0 := rp0.ext hs
 refine EL_pur (v := .int .i64 (0)) (P_assign rfl) .plain rfl ?_
 refine EL_nil (thn_n (E_joinC h (fun (s : Unit) e w => ∃ (g : Gh) , Fr gI wI g w) (fun X21 z2 d3 h => ?_) ?_))
 ·refine E_block ?_
  refine E_seq (E_region (EL_pur (v := fPtr p1 0) (P_fieldAddr at_24_0 rfl (PT.ptr q1)) .plain rfl ?_))
  have j0 := PT_field (part_TieHarness_0).1 q1
  refine EL_do .plain rfl (D_load (g := g1) Try.isAgg3 Try.sizeOf3 rfl j0 fun c4 j3 => ?_)
  obtain rfl := RV_int.1 j3
  refine EL_do .plain rfl (D_buildSlice (g := g1) 3006 (xs := ([(x0).Hooks] : List Int)) (vs := [.int .i64 ((x0).Hooks)]) Try.underlying22 Try.sizeOf3 Try.zeroValue3 rfl rfl (.cons rfl .nil) (RVs.cons (RV_int.2 rfl) RVs.nil) rfl rfl fun m3 d4 o3 hs o24 u0 hxt hfl => ?_)
  have hfr := hfr.stp hs
  have rp0 := rp0.stp hs
  have q1 := q1.stp hs
  have j0 := j0.stp hs
  obtain ⟨n0, e3, h⟩ := bsome h
  refine EL_do .plain rfl (D_call (g := m3) (vs := [.int .i64 (1), .int .i64 (24), o3]) en94 (.cons rfl (.cons rfl (.cons rfl .nil))) (wk94 u0 e3) fun y0 s3 e4 hs hr => ?_)
  have hfr := hfr.ext hs
  have rp0 := rp0.ext hs
  have q1 := q1.ext hs
  have j0 := j0.ext hs
  have u0 := u0.ext hs
  have o24 := o24.ext hs
  subst hr
  refine EL_pur (v := .bool (!n0)) (P_not rfl) .plain rfl ?_
  refine EL_pur (v := .bool (!n0)) (P_assign rfl) .plain rfl ?_
  refine EL_nil (thn_n ?_)
  rcases csome h with ⟨i1, h⟩ | ⟨i1, h⟩
  ·refine E_cond_true (Eq.trans (show ev _ _ = .bool ((!n0)) from rfl) (congrArg Value.bool i1)) ?_
   refine E_seq (E_region (EL_pur (v := .int .i64 (2)) (P_assign rfl) .plain rfl ?_))
   refine EL_nil (thn_n (E_ret (blk_r ?_)))
   refine thn_r ?_
   obtain rfl := Option.some.inj h
   exact end1 rfl rfl (show _ = .int .i64 (2) from rfl) ⟨_, hfr, rfl⟩
  ·refine E_cond_false (Eq.trans (show ev _ _ = .bool ((!n0)) from rfl) (congrArg Value.bool i1)) ?_
   refine E_seq (E_region (EL_pur (v := fPtr p1 1) (P_fieldAddr at_24_1 rfl (PT.ptr q1)) .plain rfl ?_))
   have d2 := PT_field (part_TieHarness_1).1 q1
   refine EL_do .plain rfl (D_load (g := y0) Try.isAgg22 Try.sizeOf22 rfl d2 fun i4 i2 => ?_)
   refine EL_pur (v := .int .i64 (((x0).Warps).length : Int)) (P_len Try.underlying22 rfl i2) .plain rfl ?_
   refine EL_pur (v := .bool ((decide ((((x0).Warps).length : Int) > (96 : Int))))) (P_int rfl rfl rfl) .plain rfl ?_
   refine EL_pur (v := .bool ((decide ((((x0).Warps).length : Int) > (96 : Int))))) (P_assign rfl) .plain rfl ?_
   refine EL_nil (thn_n ?_)
   rcases csome h with ⟨j1, h⟩ | ⟨j1, h⟩
   ·refine E_cond_true (Eq.trans (show ev _ _ = .bool ((decide ((((x0).Warps).length : Int) > (96 : Int)))) from rfl) (congrArg Value.bool j1)) ?_
    refine E_seq (E_region (EL_pur (v := .int .i64 (5)) (P_assign rfl) .plain rfl ?_))
    refine EL_nil (thn_n (E_ret (blk_r ?_)))
    refine thn_r ?_
    obtain rfl := Option.some.inj h
    exact end1 rfl rfl (show _ = .int .i64 (5) from rfl) ⟨_, hfr, rfl⟩
   ·refine E_cond_false (Eq.trans (show ev _ _ = .bool ((decide ((((x0).Warps).length : Int) > (96 : Int)))) from rfl) (congrArg Value.bool j1)) ?_
    refine E_seq (E_region (EL_pur (v := fPtr p1 1) (P_fieldAddr at_24_1 rfl (PT.ptr q1)) .plain rfl ?_))
    have j2 := PT_field (part_TieHarness_1).1 q1
    refine EL_do .plain rfl (D_load (g := y0) Try.isAgg22 Try.sizeOf22 rfl j2 fun j4 m2 => ?_)
    refine EL_pur (v := .int .i64 (((x0).Warps).length : Int)) (P_len Try.underlying22 rfl m2) .plain rfl ?_
    refine EL_pur (v := .bool (((((x0).Warps).length : Int) == (0 : Int)))) (P_int rfl rfl rfl) .plain rfl ?_
    refine EL_pur (v := .bool (((((x0).Warps).length : Int) == (0 : Int)))) (P_assign rfl) .plain rfl ?_
    refine EL_nil (thn_n ?_)
    rcases csome h with ⟨m1, h⟩ | ⟨m1, h⟩
    ·refine E_cond_true (Eq.trans (show ev _ _ = .bool (((((x0).Warps).length : Int) == (0 : Int))) from rfl) (congrArg Value.bool m1)) ?_
     refine E_seq (E_region (EL_pur (v := .int .i64 (7)) (P_assign rfl) .plain rfl ?_))
     refine EL_nil (thn_n (E_ret (blk_r ?_)))
     refine thn_r ?_
     obtain rfl := Option.some.inj h
     exact end1 rfl rfl (show _ = .int .i64 (7) from rfl) ⟨_, hfr, rfl⟩
    ·refine E_cond_false (Eq.trans (show ev _ _ = .bool (((((x0).Warps).length : Int) == (0 : Int))) from rfl) (congrArg Value.bool m1)) ?_
     refine E_seq (E_region (EL_pur (v := fPtr p1 0) (P_fieldAddr at_24_0 rfl (PT.ptr q1)) .plain rfl ?_))
     have p2 := PT_field (part_TieHarness_0).1 q1
     refine EL_do .plain rfl (D_load (g := y0) Try.isAgg3 Try.sizeOf3 rfl p2 fun m4 p3 => ?_)
     obtain rfl := RV_int.1 p3
     refine EL_pur (v := .int .i64 ((w64 ((x0).Hooks - (1 : Int))))) (P_int rfl rfl rfl) .plain rfl ?_
     refine EL_pur (v := fPtr p1 1) (P_fieldAddr at_24_1 rfl (PT.ptr q1)) .plain rfl ?_
     have q2 := PT_field (part_TieHarness_1).1 q1
     refine EL_do .plain rfl (D_load (g := y0) Try.isAgg22 Try.sizeOf22 rfl q2 fun q3 s2 => ?_)
     obtain ⟨o0, i3, h⟩ := bsome h
     refine EL_do .plain rfl (D_call (g := y0) (vs := [.int .i64 (0), .int .i64 ((w64 ((x0).Hooks - (1 : Int)))), q3]) en94 (.cons rfl (.cons rfl (.cons rfl .nil))) (wk94 s2 i3) fun r3 u3 n4 hs hr => ?_)
     have hfr := hfr.ext hs
     have rp0 := rp0.ext hs
     have q1 := q1.ext hs
     have j0 := j0.ext hs
     have u0 := u0.ext hs
     have o24 := o24.ext hs
     have d2 := d2.ext hs
     have i2 := i2.ext hs
     have j2 := j2.ext hs
     have m2 := m2.ext hs
     have p2 := p2.ext hs
     have q2 := q2.ext hs
     have s2 := s2.ext hs
     subst hr
     refine EL_pur (v := .bool (!o0)) (P_not rfl) .plain rfl ?_
     refine EL_pur (v := .bool (!o0)) (P_assign rfl) .plain rfl ?_
     refine EL_nil (thn_n ?_)
     rcases csome h with ⟨z1, h⟩ | ⟨z1, h⟩
     ·refine E_cond_true (Eq.trans (show ev _ _ = .bool ((!o0)) from rfl) (congrArg Value.bool z1)) ?_
      refine E_seq (E_region (EL_pur (v := .int .i64 (2)) (P_assign rfl) .plain rfl ?_))
      refine EL_nil (thn_n (E_ret (blk_r ?_)))
      refine thn_r ?_
      obtain rfl := Option.some.inj h
      exact end1 rfl rfl (show _ = .int .i64 (2) from rfl) ⟨_, hfr, rfl⟩
     ·refine E_cond_false (Eq.trans (show ev _ _ = .bool ((!o0)) from rfl) (congrArg Value.bool z1)) ?_
      exact E_skip (blk_n (thn_n (d3 () _ _ ⟨r3, hfr⟩ h)))
 ·rintro _ z3 o4 ⟨p4, hfr⟩ h
  refine E_seq (E_region (EL_pur (v := .int .i64 (0)) (P_assign rfl) .plain rfl ?_))
  refine EL_nil (thn_n (E_ret ?_))
  obtain rfl := Option.some.inj h
  exact end1 rfl rfl (show _ = .int .i64 (0) from rfl) ⟨_, hfr, rfl⟩
/-- griffe/point.Check -/
def f74 (x0 : Design) : Option (Int) :=
 jn (σ := Unit) (fun (_ : Unit) =>
  some ((0 : Int))
  ) fun d3 =>
 (f95 ((1 : Int)) ((24 : Int)) (([(x0).Hooks] : List Int))).bind fun o0 =>
 bif (!o0) then
  some ((2 : Int))
 else
  bif (decide ((((x0).Rows).length : Int) > (60 : Int))) then
   some ((5 : Int))
  else
   bif ((((x0).Rows).length : Int) == (0 : Int)) then
    some ((7 : Int))
   else
    (shl64 (1 : Int) (x0).Hooks).bind fun y0 =>
    (f95 ((0 : Int)) ((w64 (y0 - (1 : Int)))) ((x0).Rows)).bind fun j0 =>
    bif (!j0) then
     some ((2 : Int))
    else
     d3 ()
theorem en74 : Enters Try.prog 74 := enters_of Try.func74 (by kernel_rfl) rfl
theorem wk74 {gI : Gh} {wI : World} {x0 : Design} {up0 : Value} (rp0 : RV gI.m wI x0 up0) {r : Int} (h : f74 x0 = some r) : Fn Try.prog 74 #[up0] gI wI (fun _ _ v => v = .int .i64 (r)) := by
 unfold f74 at h
 refine fn_of_E Try.func74 rfl (Nat.le_of_ble_eq_true rfl) fun g0 hm hfr => ?_
 have rp0 : RV g0.m wI x0 up0 := hm ▸ rp0
 show E _ 28 none _ _ _ _ _
 refine E_seq (E_region (EL_do .plain rfl (D_box (g := g0) rfl rp0 fun g1 w1 p1 hs q1 => ?_)))
 have hfr := hfr.ext hs
 have rp0 := rp0.ext hs
 refine EL_pur (v := .int .i64 (0)) (P_assign rfl) .plain rfl ?_
 refine EL_nil (thn_n (E_joinC h (fun (s : Unit) e w => ∃ (g : Gh) , Fr gI wI g w) (fun X51 d3 i3 h => ?_) ?_))
 ·refine E_block ?_
  refine E_seq (E_region (EL_pur (v := fPtr p1 0) (P_fieldAddr at_26_0 rfl (PT.ptr q1)) .plain rfl ?_))
  have n0 := PT_field (part_Design_0).1 q1
  refine EL_do .plain rfl (D_load (g := g1) Try.isAgg3 Try.sizeOf3 rfl n0 fun m4 r3 => ?_)
  obtain rfl := RV_int.1 r3
  refine EL_do .plain rfl (D_buildSlice (g := g1) 3006 (xs := ([(x0).Hooks] : List Int)) (vs := [.int .i64 ((x0).Hooks)]) Try.underlying22 Try.sizeOf3 Try.zeroValue3 rfl rfl (.cons rfl .nil) (RVs.cons (RV_int.2 rfl) RVs.nil) rfl rfl fun s3 n4 u3 hs o54 i1 hxt hfl => ?_)
  have hfr := hfr.stp hs
  have rp0 := rp0.stp hs
  have q1 := q1.stp hs
  have n0 := n0.stp hs
  obtain ⟨o0, j3, h⟩ := bsome h
  refine EL_do .plain rfl (D_call (g := s3) (vs := [.int .i64 (1), .int .i64 (24), u3]) en95 (.cons rfl (.cons rfl (.cons rfl .nil))) (wk95 i1 j3) fun d2 e4 o4 hs hr => ?_)
  have hfr := hfr.ext hs
  have rp0 := rp0.ext hs
  have q1 := q1.ext hs
  have n0 := n0.ext hs
  have i1 := i1.ext hs
  have o54 := o54.ext hs
  subst hr
  refine EL_pur (v := .bool (!o0)) (P_not rfl) .plain rfl ?_
  refine EL_pur (v := .bool (!o0)) (P_assign rfl) .plain rfl ?_
  refine EL_nil (thn_n ?_)
  rcases csome h with ⟨j1, h⟩ | ⟨j1, h⟩
  ·refine E_cond_true (Eq.trans (show ev _ _ = .bool ((!o0)) from rfl) (congrArg Value.bool j1)) ?_
   refine E_seq (E_region (EL_pur (v := .int .i64 (2)) (P_assign rfl) .plain rfl ?_))
   refine EL_nil (thn_n (E_ret (blk_r ?_)))
   refine thn_r ?_
   obtain rfl := Option.some.inj h
   exact end1 rfl rfl (show _ = .int .i64 (2) from rfl) ⟨_, hfr, rfl⟩
  ·refine E_cond_false (Eq.trans (show ev _ _ = .bool ((!o0)) from rfl) (congrArg Value.bool j1)) ?_
   refine E_seq (E_region (EL_pur (v := fPtr p1 1) (P_fieldAddr at_26_1 rfl (PT.ptr q1)) .plain rfl ?_))
   have i2 := PT_field (part_Design_1).1 q1
   refine EL_do .plain rfl (D_load (g := d2) Try.isAgg22 Try.sizeOf22 rfl i2 fun p4 j2 => ?_)
   refine EL_pur (v := .int .i64 (((x0).Rows).length : Int)) (P_len Try.underlying22 rfl j2) .plain rfl ?_
   refine EL_pur (v := .bool ((decide ((((x0).Rows).length : Int) > (60 : Int))))) (P_int rfl rfl rfl) .plain rfl ?_
   refine EL_pur (v := .bool ((decide ((((x0).Rows).length : Int) > (60 : Int))))) (P_assign rfl) .plain rfl ?_
   refine EL_nil (thn_n ?_)
   rcases csome h with ⟨m1, h⟩ | ⟨m1, h⟩
   ·refine E_cond_true (Eq.trans (show ev _ _ = .bool ((decide ((((x0).Rows).length : Int) > (60 : Int)))) from rfl) (congrArg Value.bool m1)) ?_
    refine E_seq (E_region (EL_pur (v := .int .i64 (5)) (P_assign rfl) .plain rfl ?_))
    refine EL_nil (thn_n (E_ret (blk_r ?_)))
    refine thn_r ?_
    obtain rfl := Option.some.inj h
    exact end1 rfl rfl (show _ = .int .i64 (5) from rfl) ⟨_, hfr, rfl⟩
   ·refine E_cond_false (Eq.trans (show ev _ _ = .bool ((decide ((((x0).Rows).length : Int) > (60 : Int)))) from rfl) (congrArg Value.bool m1)) ?_
    refine E_seq (E_region (EL_pur (v := fPtr p1 1) (P_fieldAddr at_26_1 rfl (PT.ptr q1)) .plain rfl ?_))
    have m2 := PT_field (part_Design_1).1 q1
    refine EL_do .plain rfl (D_load (g := d2) Try.isAgg22 Try.sizeOf22 rfl m2 fun q4 p2 => ?_)
    refine EL_pur (v := .int .i64 (((x0).Rows).length : Int)) (P_len Try.underlying22 rfl p2) .plain rfl ?_
    refine EL_pur (v := .bool (((((x0).Rows).length : Int) == (0 : Int)))) (P_int rfl rfl rfl) .plain rfl ?_
    refine EL_pur (v := .bool (((((x0).Rows).length : Int) == (0 : Int)))) (P_assign rfl) .plain rfl ?_
    refine EL_nil (thn_n ?_)
    rcases csome h with ⟨z1, h⟩ | ⟨z1, h⟩
    ·refine E_cond_true (Eq.trans (show ev _ _ = .bool (((((x0).Rows).length : Int) == (0 : Int))) from rfl) (congrArg Value.bool z1)) ?_
     refine E_seq (E_region (EL_pur (v := .int .i64 (7)) (P_assign rfl) .plain rfl ?_))
     refine EL_nil (thn_n (E_ret (blk_r ?_)))
     refine thn_r ?_
     obtain rfl := Option.some.inj h
     exact end1 rfl rfl (show _ = .int .i64 (7) from rfl) ⟨_, hfr, rfl⟩
    ·refine E_cond_false (Eq.trans (show ev _ _ = .bool (((((x0).Rows).length : Int) == (0 : Int))) from rfl) (congrArg Value.bool z1)) ?_
     refine E_seq ?_
     have q2 := PT_field (part_Design_0).1 q1
     refine L_load (x := .tmp 20) Try.isAgg3 Try.sizeOf3 q2 fun r4 z3 m3 => ?_
     obtain rfl := RV_int.1 z3
     obtain ⟨y0, o3, h⟩ := bsome h
     have s2 := PT_field (part_Design_1).1 q1
     refine L_load (x := .tmp 24) Try.isAgg22 Try.sizeOf22 s2 fun e3 z2 p3 => ?_
     obtain ⟨j0, q3, h⟩ := bsome h
     refine E_drawL (g := d2) (n := 9) [(6, (fun v g w => v = .bool (j0)))] [0, 1, 2, 3, 4, 5, 6, 7, 8] rfl mixed (by kernel_rfl) (⟨fun _ => up_eq _, trivial⟩) ?_
     refine L_pur (c := fPtr p1 0) rfl rfl .plain (fun _ _ hd => P_fieldAddr at_26_0 rfl (PT.ptr q1)) ?_
     refine L_ld (c := .int .i64 ((x0).Hooks)) rfl rfl .plain (fun _ _ h => h.ch) m3 rfl ?_
     refine L_pur (c := .int .i64 (y0)) rfl rfl .plain (fun _ _ hd => P_int rfl rfl (congrArg (Option.map (Value.int .i64)) o3)) ?_
     refine L_pur (c := .int .i64 ((w64 (y0 - (1 : Int))))) rfl rfl .plain (fun _ _ hd => P_int rfl rfl rfl) ?_
     refine L_pur (c := fPtr p1 1) rfl rfl .plain (fun _ _ hd => P_fieldAddr at_26_1 rfl (PT.ptr q1)) ?_
     refine L_ld (c := e3) rfl rfl .plain (fun _ _ h => h.ch) p3 rfl ?_
     refine L_do (φ := fun v g w => v = .bool (j0)) rfl rfl .plain (fun g w hd => D_call (g := g) (vs := [.int .i64 (0), .int .i64 ((w64 (y0 - (1 : Int)))), e3]) en95 (.cons rfl (.cons rfl (.cons rfl .nil))) (wk95 (z2.ext hd.1) q3) fun g' w' v hs hr => ⟨g', hs, hr⟩) (fun s4 hv => ?_)
     obtain ⟨_, _, _, rfl⟩ := hv
     refine L_pur (c := .bool (!j0)) rfl rfl .plain (fun _ _ hd => P_not rfl) ?_
     refine L_pur (c := .bool (!j0)) rfl rfl .plain (fun _ _ hd => P_assign rfl) ?_
     refine L_nil fun c4 u4 hall => ?_
     have hs := hall.1
     have hfr := hfr.ext hs
     have rp0 := rp0.ext hs
     have q1 := q1.ext hs
     have n0 := n0.ext hs
     have i1 := i1.ext hs
     have o54 := o54.ext hs
     have i2 := i2.ext hs
     have j2 := j2.ext hs
     have m2 := m2.ext hs
     have p2 := p2.ext hs
     have q2 := q2.ext hs
     have s2 := s2.ext hs
     have z2 := z2.ext hs
     clear hs hall
     refine EL_nil (thn_n ?_)
     rcases csome h with ⟨u0, h⟩ | ⟨u0, h⟩
     ·refine E_cond_true (Eq.trans (show ev _ _ = .bool ((!j0)) from rfl) (congrArg Value.bool u0)) ?_
      refine E_seq (E_region (EL_pur (v := .int .i64 (2)) (P_assign rfl) .plain rfl ?_))
      refine EL_nil (thn_n (E_ret (blk_r ?_)))
      refine thn_r ?_
      obtain rfl := Option.some.inj h
      exact end1 rfl rfl (show _ = .int .i64 (2) from rfl) ⟨_, hfr, rfl⟩
     ·refine E_cond_false (Eq.trans (show ev _ _ = .bool ((!j0)) from rfl) (congrArg Value.bool u0)) ?_
      exact E_skip (blk_n (thn_n (i3 () _ _ ⟨c4, hfr⟩ h)))
 ·rintro _ d4 i4 ⟨j4, hfr⟩ h
  refine E_seq (E_region (EL_pur (v := .int .i64 (0)) (P_assign rfl) .plain rfl ?_))
  refine EL_nil (thn_n (E_ret ?_))
  obtain rfl := Option.some.inj h
  exact end1 rfl rfl (show _ = .int .i64 (0) from rfl) ⟨_, hfr, rfl⟩
/-- griffe/tie.Weave -/
def f82 (x0 : TieHarness) (x1 : Design) : Option ((List Str) × Int) :=
 jn (σ := (List Str)) (fun e3 =>
  jn (σ := (List Str)) (fun j4 =>
   Option.bind (α := (List Str)) (
    lp (σ := (List Str) × Int) (fun e6 (i3, j0) =>
     bif (decide (j0 < (((x1).Rows).length : Int))) then
      Option.bind (α := (List Str)) (
       (idx ((x1).Rows) j0).bind fun q3 =>
       (f102 ((⟨x0⟩ : TieTieHarness)) q3).bind fun m4 =>
       (apnd 16 i3 (([m4] : List Str))).bind fun i6 =>
       some (i6)
       ) fun d2 =>
      e6 (d2, (w64 (j0 + (1 : Int))))
     else
      some (i3)
     ) big (j4, (0 : Int))
    ) fun s2 =>
   some (s2, (0 : Int))
   ) fun j6 =>
  (f74 x1).bind fun i1 =>
  bif (i1 != (0 : Int)) then
   some ([], i1)
  else
   bif ((x1).Hooks != (x0).Hooks) then
    some ([], (4 : Int))
   else
    j6 (e3)
  ) fun k7 =>
 (f73 x0).bind fun j1 =>
 bif (j1 != (0 : Int)) then
  some ([], j1)
 else
  k7 ([])
theorem en82 : Enters Try.prog 82 := enters_of Try.func82 (by kernel_rfl) rfl
theorem wk82 {gI : Gh} {wI : World} {x0 : TieHarness} {x1 : Design} {up0 : Value} (rp0 : RV gI.m wI x0 up0) {up1 : Value} (rp1 : RV gI.m wI x1 up1) {r : (List Str) × Int} (h : f82 x0 x1 = some r) : Fn Try.prog 82 #[up0, up1] gI wI (fun m w v => ∃ y0 y1, v = .tuple #[y0, y1] ∧ RV m w (r.1) y0 ∧ y1 = .int .i64 (r.2)) := by
 unfold f82 at h
 refine fn_of_E Try.func82 rfl (Nat.le_of_ble_eq_true rfl) fun g0 hm hfr => ?_
 have rp0 : RV g0.m wI x0 up0 := hm ▸ rp0
 have rp1 : RV g0.m wI x1 up1 := hm ▸ rp1
 show E _ 43 none _ _ _ _ _
 refine E_seq (E_region (EL_do .plain rfl (D_box (g := g0) rfl rp0 fun g1 w1 p1 hs q1 => ?_)))
 have hfr := hfr.ext hs
 have rp0 := rp0.ext hs
 have rp1 := rp1.ext hs
 refine EL_do .plain rfl (D_box (g := g1) rfl rp1 fun g2 w2 p2 hs q2 => ?_)
 have hfr := hfr.ext hs
 have rp0 := rp0.ext hs
 have rp1 := rp1.ext hs
 have q1 := q1.ext hs
 refine EL_pur (v := .slice none 0 0) (P_assign rfl) .plain rfl ?_
 refine EL_pur (v := .int .i64 (0)) (P_assign rfl) .plain rfl ?_
 refine EL_nil (thn_n (E_joinC h (fun (s : (List Str)) e w => ∃ (g : Gh) (v4 : Value), Fr gI wI g w ∧ e 2 = p1 ∧ PT g.m w (x0 : TieHarness) p1 ∧ e 3 = p2 ∧ PT g.m w (x1 : Design) p2 ∧ e 4 = v4 ∧ RV g.m w (s : List Str) v4 ∧ OS 1004 g w 9 (s : List Str) v4) (fun X7 k7 x6 h => ?_) ?_))
 ·refine E_seq (E_region (EL_do .plain rfl (D_load (g := g2) Try.isAgg24 Try.sizeOf24 rfl q1 fun v8 r8 => ?_)))
  obtain ⟨j1, p6, h⟩ := bsome h
  refine EL_do .plain rfl (D_call (g := g2) (vs := [v8]) en73 (.cons rfl .nil) (wk73 r8 p6) fun g9 w9_ v9 hs hr => ?_)
  have hfr := hfr.ext hs
  have rp0 := rp0.ext hs
  have rp1 := rp1.ext hs
  have q1 := q1.ext hs
  have q2 := q2.ext hs
  have r8 := r8.ext hs
  subst hr
  refine EL_pur (v := .int .i64 (j1)) (P_assign rfl) .plain rfl ?_
  refine EL_nil (thn_n (E_seq (E_region (EL_pur (v := .int .i64 (j1)) (P_move rfl) .plain rfl ?_))))
  refine EL_pur (v := .bool ((j1 != (0 : Int)))) (P_int rfl rfl rfl) .plain rfl ?_
  refine EL_nil (thn_n ?_)
  rcases csome h with ⟨c4, h⟩ | ⟨c4, h⟩
  ·refine E_cond_true (Eq.trans (show ev _ _ = .bool ((j1 != (0 : Int))) from rfl) (congrArg Value.bool c4)) ?_
   refine E_seq (E_region (EL_pur (v := .int .i64 (j1)) (P_move rfl) .plain rfl ?_))
   refine EL_pur (v := .slice none 0 0) (P_assign rfl) .plain rfl ?_
   refine EL_pur (v := .int .i64 (j1)) (P_assign rfl) .plain rfl ?_
   refine EL_nil (thn_n (E_ret (thn_r ?_)))
   obtain rfl := Option.some.inj h
   exact end2 rfl rfl (show _ = .slice none 0 0 from rfl) (show _ = .int .i64 (j1) from rfl) ⟨_, hfr, _, _, rfl, RV_nil, rfl⟩
  ·refine E_cond_false (Eq.trans (show ev _ _ = .bool ((j1 != (0 : Int))) from rfl) (congrArg Value.bool c4)) ?_
   exact E_skip (thn_n (x6 ([]) _ _ ⟨g9, (.slice none 0 0), hfr, rfl, q1, rfl, q2, rfl, RV_nil, OS.nil⟩ h))
 ·rintro e3 o7 v7 ⟨k6, j5, hfr, n4, i2, j3, m1, l5, m3, o3⟩ h
  refine E_joinC h (fun (s : (List Str)) e w => ∃ (g : Gh) (v4 : Value), Fr gI wI g w ∧ e 2 = p1 ∧ PT g.m w (x0 : TieHarness) p1 ∧ e 3 = p2 ∧ PT g.m w (x1 : Design) p2 ∧ e 4 = v4 ∧ RV g.m w (s : List Str) v4 ∧ OS 1004 g w 9 (s : List Str) v4) (fun X22 j6 q6 h => ?_) ?_
  ·refine E_seq (E_region (EL_do .plain rfl (D_load (g := k6) Try.isAgg26 Try.sizeOf26 j3 m1 fun y6 s4 => ?_)))
   obtain ⟨i1, r6, h⟩ := bsome h
   refine EL_do .plain rfl (D_call (g := k6) (vs := [y6]) en74 (.cons rfl .nil) (wk74 s4 r6) fun u4 p7 x7 hs hr => ?_)
   have hfr := hfr.ext hs
   have i2 := i2.ext hs
   have m1 := m1.ext hs
   have m3 := m3.ext hs
   have o3 := o3.ext hs
   have s4 := s4.ext hs
   subst hr
   refine EL_pur (v := .int .i64 (i1)) (P_assign rfl) .plain rfl ?_
   refine EL_nil (thn_n (E_block ?_))
   refine E_seq (E_region (EL_pur (v := .int .i64 (i1)) (P_move rfl) .plain rfl ?_))
   refine EL_pur (v := .bool ((i1 != (0 : Int)))) (P_int rfl rfl rfl) .plain rfl ?_
   refine EL_pur (v := .bool ((i1 != (0 : Int)))) (P_assign rfl) .plain rfl ?_
   refine EL_nil (thn_n ?_)
   rcases csome h with ⟨d4, h⟩ | ⟨d4, h⟩
   ·refine E_cond_true (Eq.trans (show ev _ _ = .bool ((i1 != (0 : Int))) from rfl) (congrArg Value.bool d4)) ?_
    refine E_seq (E_region (EL_pur (v := .int .i64 (i1)) (P_move rfl) .plain rfl ?_))
    refine EL_pur (v := .slice none 0 0) (P_assign rfl) .plain rfl ?_
    refine EL_pur (v := .int .i64 (i1)) (P_assign rfl) .plain rfl ?_
    refine EL_nil (thn_n (E_ret (blk_r ?_)))
    refine thn_r ?_
    obtain rfl := Option.some.inj h
    exact end2 rfl rfl (show _ = .slice none 0 0 from rfl) (show _ = .int .i64 (i1) from rfl) ⟨_, hfr, _, _, rfl, RV_nil, rfl⟩
   ·refine E_cond_false (Eq.trans (show ev _ _ = .bool ((i1 != (0 : Int))) from rfl) (congrArg Value.bool d4)) ?_
    refine E_seq (E_region (EL_pur (v := fPtr p2 0) (P_fieldAddr at_26_0 j3 (PT.ptr m1)) .plain rfl ?_))
    have z6 := PT_field (part_Design_0).1 m1
    refine EL_do .plain rfl (D_load (g := u4) Try.isAgg3 Try.sizeOf3 rfl z6 fun y7 a7 => ?_)
    obtain rfl := RV_int.1 a7
    refine EL_pur (v := fPtr p1 0) (P_fieldAddr at_24_0 n4 (PT.ptr i2)) .plain rfl ?_
    have b7 := PT_field (part_TieHarness_0).1 i2
    refine EL_do .plain rfl (D_load (g := u4) Try.isAgg3 Try.sizeOf3 rfl b7 fun z7 c7 => ?_)
    obtain rfl := RV_int.1 c7
    refine EL_pur (v := .bool (((x1).Hooks != (x0).Hooks))) (P_int rfl rfl rfl) .plain rfl ?_
    refine EL_pur (v := .bool (((x1).Hooks != (x0).Hooks))) (P_assign rfl) .plain rfl ?_
    refine EL_nil (thn_n ?_)
    rcases csome h with ⟨e4, h⟩ | ⟨e4, h⟩
    ·refine E_cond_true (Eq.trans (show ev _ _ = .bool (((x1).Hooks != (x0).Hooks)) from rfl) (congrArg Value.bool e4)) ?_
     refine E_seq (E_region (EL_pur (v := .slice none 0 0) (P_assign rfl) .plain rfl ?_))
     refine EL_pur (v := .int .i64 (4)) (P_assign rfl) .plain rfl ?_
     refine EL_nil (thn_n (E_ret (blk_r ?_)))
     refine thn_r ?_
     obtain rfl := Option.some.inj h
     exact end2 rfl rfl (show _ = .slice none 0 0 from rfl) (show _ = .int .i64 (4) from rfl) ⟨_, hfr, _, _, rfl, RV_nil, rfl⟩
    ·refine E_cond_false (Eq.trans (show ev _ _ = .bool (((x1).Hooks != (x0).Hooks)) from rfl) (congrArg Value.bool e4)) ?_
     exact E_skip (blk_n (thn_n (q6 (e3) _ _ ⟨u4, (j5), hfr, n4, i2, j3, m1, l5, m3, o3⟩ h)))
  ·rintro j4 q7 a8 ⟨l6, m5, hfr, n5, o5, p5, o4, q5, r5, t5⟩ h
   obtain ⟨s2, hx, h⟩ := bsome h
   refine E_join (fun e w => ∃ (g : Gh) (v4 : Value), Fr gI wI g w ∧ e 4 = v4 ∧ RV g.m w (s2 : List Str) v4 ∧ OS 1004 g w 9 (s2 : List Str) v4) (fun Q' hQ => ?_) (fun r7 b8 hR => ?_)
   ·replace h := hx
    clear hx
    refine E_seq (E_region (EL_pur (v := fPtr p2 1) (P_fieldAddr at_26_1 p5 (PT.ptr o4)) .plain rfl ?_))
    have d7 := PT_field (part_Design_1).1 o4
    refine EL_do .plain rfl (D_load (g := l6) Try.isAgg22 Try.sizeOf22 rfl d7 fun r3 m6 => ?_)
    refine EL_pur (v := .int .i64 (((x1).Rows).length : Int)) (P_len Try.underlying22 rfl m6) .plain rfl ?_
    refine EL_pur (v := .int .i64 (0)) (P_move rfl) .plain rfl ?_
    refine EL_nil (thn_n (E_block ?_))
    refine E_lp h (fun (s : (List Str) × Int) e w => ∃ (g : Gh) (v4 : Value), Fr gI wI g w ∧ e 2 = p1 ∧ PT g.m w (x0 : TieHarness) p1 ∧ e 4 = v4 ∧ RV g.m w (s.1 : List Str) v4 ∧ OS 1004 g w 9 (s.1 : List Str) v4 ∧ e 28 = r3 ∧ RV g.m w ((x1).Rows : List Int) r3 ∧ e 29 = .int .i64 ((((x1).Rows).length : Int)) ∧ e 30 = .int .i64 (s.2)) ⟨l6, (m5), hfr, n5, o5, q5, r5, t5, rfl, m6, rfl, rfl⟩ (fun X61 e6 s6 => ?_)
    rintro ⟨i3, j0⟩ s7 c8 ⟨s3, p4, hfr, q4, o0, r4, u0, z1, u3, n0, z3, z2⟩ h
    refine E_seq (E_region (EL_pur (v := .bool ((decide (j0 < (((x1).Rows).length : Int))))) (P_int z2 z3 rfl) .plain rfl ?_))
    refine EL_nil (thn_n (E_seq ?_))
    rcases csome h with ⟨i4, h⟩ | ⟨i4, h⟩
    ·refine E_cond_true (Eq.trans (show ev _ _ = .bool ((decide (j0 < (((x1).Rows).length : Int)))) from rfl) (congrArg Value.bool i4)) ?_
     refine E_skip (thn_n ?_)
     obtain ⟨d2, hx, h⟩ := bsome h
     refine E_join (fun e w => ∃ (g : Gh) (v4 : Value), Fr gI wI g w ∧ e 2 = p1 ∧ PT g.m w (x0 : TieHarness) p1 ∧ e 4 = v4 ∧ RV g.m w (d2 : List Str) v4 ∧ OS 1004 g w 9 (d2 : List Str) v4 ∧ e 28 = r3 ∧ RV g.m w ((x1).Rows : List Int) r3 ∧ e 29 = .int .i64 ((((x1).Rows).length : Int)) ∧ e 30 = .int .i64 (j0)) (fun Q' hQ => ?_) (fun t7 d8 hR => ?_)
     ·replace h := hx
      clear hx
      refine E_block ?_
      refine E_seq (E_region ?_)
      obtain ⟨q3, x4, h⟩ := bsome h
      refine EL_pur (v := ePtr r3 j0 1) (P_indexAddr (α := Int) Try.underlying22 Try.sizeOf3 u3 n0 z2 x4) .plain rfl ?_
      have d3 := PT_idx n0 x4
      refine EL_do .plain rfl (D_load (g := s3) Try.isAgg3 Try.sizeOf3 rfl d3 fun e8 e7 => ?_)
      obtain rfl := RV_int.1 e7
      refine EL_pur (v := .int .i64 (q3)) (P_assign rfl) .plain rfl ?_
      refine EL_nil (thn_n (E_region (EL_pur (v := p4) (P_move r4) .plain rfl ?_)))
      refine EL_do .plain rfl (D_load (g := s3) Try.isAgg24 Try.sizeOf24 q4 o0 fun z4 j2 => ?_)
      have m2 : RV s3.m _ (⟨x0⟩ : TieTieHarness) (.agg (setCh [[.int .i64 0, .slice none 0 0]] [(0, z4)]).flatten.toArray) := RV_build rfl (rep_last (RV.cells j2))
      generalize t6 : (Value.agg (setCh [[.int .i64 0, .slice none 0 0]] [(0, z4)]).flatten.toArray) = n6 at m2
      refine EL_pur (v := n6) (t6 ▸ P_build (vs := [(0, z4)]) [[.int .i64 0, .slice none 0 0]] lay_145 rfl rfl (.cons rfl .nil) ⟨⟨_, rfl, cells_size j2⟩, trivial⟩) .plain rfl ?_
      refine EL_pur (v := .int .i64 (q3)) (P_move rfl) .plain rfl ?_
      obtain ⟨m4, u6, h⟩ := bsome h
      refine EL_do .plain rfl (D_call (g := s3) (vs := [n6, .int .i64 (q3)]) en102 (.cons rfl (.cons rfl .nil)) (wk102 m2 u6) fun g7 u7 g8 hs hr => ?_)
      have hfr := hfr.ext hs
      have o0 := o0.ext hs
      have u0 := u0.ext hs
      have z1 := z1.ext hs
      have n0 := n0.ext hs
      have d3 := d3.ext hs
      have j2 := j2.ext hs
      have m2 := m2.ext hs
      subst hr
      refine EL_do .plain rfl (D_buildSlice (g := g7) 3039 (xs := ([m4] : List Str)) (vs := [Str.v (m4)]) Try.underlying36 Try.sizeOf9 Try.zeroValue9 rfl rfl (.cons rfl .nil) (RVs.cons (RV_str.2 rfl) RVs.nil) rfl rfl fun i7 i8 j8 hs o81 b5 hxt hfl => ?_)
      have hfr := hfr.stp hs
      have o0 := o0.stp hs
      have u0 := u0.stp hs
      have z1 := z1.stp hs rfl
      have n0 := n0.stp hs
      have d3 := d3.stp hs
      have j2 := j2.stp hs
      have m2 := m2.stp hs
      obtain ⟨i6, v6, h⟩ := bsome h
      refine EL_do .plain rfl (D_append (g := i7) (i := 1004) Try.underlying36 info_9 rfl rfl z1 u0 rfl b5 v6 fun j7 k8 o6 hs o82 l7 _ => ?_)
      have hfr := hfr.stp hs
      have o0 := o0.stp hs
      have u0 := u0.stp hs
      have n0 := n0.stp hs
      have d3 := d3.stp hs
      have j2 := j2.stp hs
      have m2 := m2.stp hs
      have b5 := b5.stp hs
      have o81 := o81.stp hs rfl
      refine EL_pur (v := o6) (P_assign rfl) .plain rfl ?_
      refine EL_nil (blk_n ?_)
      obtain rfl := Option.some.inj h
      exact hQ _ _ ⟨j7, (o6), hfr, q4, o0, rfl, l7, o82, u3, n0, z3, z2⟩
     ·clear hx
      obtain ⟨m7, u5, hfr, x5, y5, z5, a6, b6, c5, d5, e5, i5⟩ := hR
      refine E_region (EL_pur (v := .int .i64 ((w64 (j0 + (1 : Int))))) (P_int i5 rfl rfl) .plain rfl ?_)
      refine EL_pur (v := .int .i64 ((w64 (j0 + (1 : Int))))) (P_move rfl) .plain rfl ?_
      exact EL_nil (thn_n (s6 (d2, (w64 (j0 + (1 : Int)))) _ _ ⟨m7, (u5), hfr, x5, y5, z5, a6, b6, c5, d5, e5, rfl⟩ h))
    ·refine E_cond_false (Eq.trans (show ev _ _ = .bool ((decide (j0 < (((x1).Rows).length : Int)))) from rfl) (congrArg Value.bool i4)) ?_
     refine E_exit ?_
     refine thn_e ?_
     refine thn_e ?_
     refine blk_hit ?_
     obtain rfl := Option.some.inj h
     exact hQ _ _ ⟨s3, (p4), hfr, r4, u0, z1⟩
   ·clear hx
    obtain ⟨l8, p3, hfr, c6, d6, n7⟩ := hR
    refine E_seq (E_region (EL_pur (v := p3) (P_move c6) .plain rfl ?_))
    refine EL_pur (v := p3) (P_assign rfl) .plain rfl ?_
    refine EL_pur (v := .int .i64 (0)) (P_assign rfl) .plain rfl ?_
    refine EL_nil (thn_n (E_ret ?_))
    obtain rfl := Option.some.inj h
    exact end2 rfl rfl (show _ = p3 from rfl) (show _ = .int .i64 (0) from rfl) ⟨_, hfr, _, _, rfl, d6, rfl⟩
/-- slices.symMergeCmpFunc[griffe/api.FaultDamage] -/
def f108 : Nat → (List FaultDamage) → (Int) → (Int) → (Int) → (FaultDamage → FaultDamage → Option Int) → Option ((List FaultDamage))
 | 0, _, _, _, _, _ => none
 | n + 1, x0, x1, x2, x3, x4 =>
  jn (σ := (List FaultDamage)) (fun z2 =>
   jn (σ := (List FaultDamage)) (fun s2 =>
    (shr64 (wu64 (w64 (x1 + x3))) (1 : Int)).bind fun n0 =>
    Option.bind (α := Int × Int) (
     bif (decide (x2 > (w64 n0))) then
      some ((w64 ((w64 ((w64 n0) + x2)) - x3)), (w64 n0))
     else
      some (x1, x2)
     ) fun (t5, u5) =>
    Option.bind (α := Int) (
     lp (σ := Int × Int) (fun uA (y0, m1) =>
      jn (σ := Unit) (fun (_ : Unit) =>
       (shr64 (wu64 (w64 (y0 + m1))) (1 : Int)).bind fun i2 =>
       (idx s2 (w64 ((w64 ((w64 ((w64 n0) + x2)) - (1 : Int))) - (w64 i2)))).bind fun uC =>
       (idx s2 (w64 i2)).bind fun vC =>
       (x4 uC vC).bind fun i4 =>
       bif (!(decide (i4 < (0 : Int)))) then
        uA ((w64 ((w64 i2) + (1 : Int))), m1)
       else
        uA (y0, (w64 i2))
       ) fun xC =>
      bif (decide (y0 < m1)) then
       xC ()
      else
       some (y0)
      ) big (t5, u5)
     ) fun j0 =>
    Option.bind (α := (List FaultDamage)) (
     Option.bind (α := Bool) (
      bif (decide (j0 < x2)) then
       some ((decide (x2 < (w64 ((w64 ((w64 n0) + x2)) - j0)))))
      else
       some (false)
      ) fun u3 =>
     bif u3 then
      (f113 s2 j0 x2 ((w64 ((w64 ((w64 n0) + x2)) - j0))) x4).bind fun yC =>
      some (yC)
     else
      some (s2)
     ) fun j4 =>
    Option.bind (α := (List FaultDamage)) (
     Option.bind (α := Bool) (
      bif (decide (x1 < j0)) then
       some ((decide (j0 < (w64 n0))))
      else
       some (false)
      ) fun z3 =>
     bif z3 then
      (f108 n j4 x1 j0 ((w64 n0)) x4).bind fun zC =>
      some (zC)
     else
      some (j4)
     ) fun m4 =>
    Option.bind (α := Bool) (
     bif (decide ((w64 n0) < (w64 ((w64 ((w64 n0) + x2)) - j0)))) then
      some ((decide ((w64 ((w64 ((w64 n0) + x2)) - j0)) < x3)))
     else
      some (false)
     ) fun c4 =>
    bif c4 then
     (f108 n m4 ((w64 n0)) ((w64 ((w64 ((w64 n0) + x2)) - j0))) x3 x4).bind fun aD =>
     some (aD)
    else
     some (m4)
    ) fun bD =>
   bif ((w64 (x3 - x2)) == (1 : Int)) then
    Option.bind (α := Int) (
     lp (σ := Int × Int) (fun vA (i1, z1) =>
      jn (σ := Unit) (fun (_ : Unit) =>
       (shr64 (wu64 (w64 (i1 + z1))) (1 : Int)).bind fun p2 =>
       (idx z2 x2).bind fun cD =>
       (idx z2 (w64 p2)).bind fun dD =>
       (x4 cD dD).bind fun n4 =>
       bif (!(decide (n4 < (0 : Int)))) then
        vA ((w64 ((w64 p2) + (1 : Int))), z1)
       else
        vA (i1, (w64 p2))
       ) fun eD =>
      bif (decide (i1 < z1)) then
       eD ()
      else
       some (i1)
      ) big (x1, x2)
     ) fun m2 =>
    Option.bind (α := (List FaultDamage)) (
     lp (σ := (List FaultDamage) × Int) (fun gD (d3, o0) =>
      jn (σ := Unit) (fun (_ : Unit) =>
       Option.bind (α := (List FaultDamage)) (
        (idx d3 (w64 (o0 - (1 : Int)))).bind fun b8 =>
        (idx d3 o0).bind fun xA =>
        (idx d3 o0).bind fun uG =>
        (idx ((List.set d3 (Int.toNat o0) b8)) (w64 (o0 - (1 : Int)))).bind fun vG =>
        some ((List.set ((List.set d3 (Int.toNat o0) b8)) (Int.toNat (w64 (o0 - (1 : Int)))) xA))
        ) fun i5 =>
       gD (i5, (w64 (o0 - (1 : Int))))
       ) fun iD =>
      bif (decide (o0 > m2)) then
       iD ()
      else
       some (d3)
      ) big (z2, x2)
     ) fun k6 =>
    some (k6)
   else
    bD (z2)
   ) fun jD =>
  bif ((w64 (x2 - x1)) == (1 : Int)) then
   Option.bind (α := Int) (
    lp (σ := Int × Int) (fun yA (j1, d2) =>
     jn (σ := Unit) (fun (_ : Unit) =>
      (shr64 (wu64 (w64 (j1 + d2))) (1 : Int)).bind fun q2 =>
      (idx x0 (w64 q2)).bind fun kD =>
      (idx x0 x1).bind fun lD =>
      (x4 kD lD).bind fun z4 =>
      bif (decide (z4 < (0 : Int))) then
       yA ((w64 ((w64 q2) + (1 : Int))), d2)
      else
       yA (j1, (w64 q2))
      ) fun mD =>
     bif (decide (j1 < d2)) then
      mD ()
     else
      some (j1)
     ) big (x2, x3)
    ) fun j2 =>
   Option.bind (α := (List FaultDamage)) (
    lp (σ := (List FaultDamage) × Int) (fun nD (e3, u0) =>
     jn (σ := Unit) (fun (_ : Unit) =>
      Option.bind (α := (List FaultDamage)) (
       (idx e3 (w64 (u0 + (1 : Int)))).bind fun c8 =>
       (idx e3 u0).bind fun zA =>
       (idx e3 u0).bind fun xG =>
       (idx ((List.set e3 (Int.toNat u0) c8)) (w64 (u0 + (1 : Int)))).bind fun yG =>
       some ((List.set ((List.set e3 (Int.toNat u0) c8)) (Int.toNat (w64 (u0 + (1 : Int)))) zA))
       ) fun j5 =>
      nD (j5, (w64 (u0 + (1 : Int))))
      ) fun oD =>
     bif (decide (u0 < (w64 (j2 - (1 : Int))))) then
      oD ()
     else
      some (e3)
     ) big (x0, x1)
    ) fun l6 =>
   some (l6)
  else
   jD (x0)
theorem en108 : Enters Try.prog 108 := enters_of Try.func108 (by kernel_rfl) rfl
theorem wk108 (n : Nat) : ∀ {iI : Nat} {gI : Gh} {wI : World} {x0 : List FaultDamage} {x1 : Int} {x2 : Int} {x3 : Int} {x4 : FaultDamage → FaultDamage → Option Int} {up0 : Value} (mp0 : OM iI gI wI 62 x0 up0) {up4 : Value} (rp4 : FnV2 Try.prog x4 up4 gI wI) {r : (List FaultDamage)} (h : f108 n x0 x1 x2 x3 x4 = some r), FnM Try.prog 108 #[up0, .int .i64 (x1), .int .i64 (x2), .int .i64 (x3), up4] iI gI wI (fun g w v => v = .tuple #[] ∧ OM iI g w 62 r up0) := by
 induction n with
 | zero => intros; rename_i h; cases h
 | succ n ih =>
 intro iI gI wI x0 x1 x2 x3 x4 up0 mp0 up4 rp4 r h
 simp only [f108] at h
 refine fnM_of_E Try.func108 rfl (Nat.le_of_ble_eq_true rfl) fun g0 hm hfr => ?_
 have j6 := mp0
 replace mp0 := mp0.enter
 rw [← hm] at mp0
 replace hm : g0.m = gI.m := by rw [hm]
 obtain ⟨ff4, fa4, fc4, rfl, fen4, fcl4⟩ := rp4
 show E _ 220 none _ _ _ _ _
 refine E_joinC h (fun (s : (List FaultDamage)) e w => ∃ (g : Gh) , FrM iI gI wI g w ∧ e 0 = up0 ∧ OM 1 g w 62 (s : List FaultDamage) up0 ∧ e 1 = .int .i64 (x1) ∧ e 2 = .int .i64 (x2) ∧ e 3 = .int .i64 (x3) ∧ e 4 = (.func (.func ff4) fa4 fc4)) (fun X202 jD pF h => ?_) ?_
 ·refine E_seq (E_region (EL_pur (v := .int .i64 (x2)) (P_move rfl) .plain rfl ?_))
  refine EL_pur (v := .int .i64 (x1)) (P_move rfl) .plain rfl ?_
  refine EL_pur (v := .int .i64 ((w64 (x2 - x1)))) (P_int rfl rfl rfl) .plain rfl ?_
  refine EL_pur (v := .bool (((w64 (x2 - x1)) == (1 : Int)))) (P_int rfl rfl rfl) .plain rfl ?_
  refine EL_nil (thn_n ?_)
  rcases csome h with ⟨d8, h⟩ | ⟨d8, h⟩
  ·refine E_cond_true (Eq.trans (show ev _ _ = .bool (((w64 (x2 - x1)) == (1 : Int))) from rfl) (congrArg Value.bool d8)) ?_
   refine E_seq (E_region (EL_pur (v := .int .i64 (x2)) (P_move rfl) .plain rfl ?_))
   refine EL_pur (v := .int .i64 (x2)) (P_assign rfl) .plain rfl ?_
   refine EL_nil (thn_n (E_seq (E_region (EL_pur (v := .int .i64 (x3)) (P_move rfl) .plain rfl ?_))))
   refine EL_pur (v := .int .i64 (x3)) (P_assign rfl) .plain rfl ?_
   refine EL_nil (thn_n ?_)
   obtain ⟨j2, hx, h⟩ := bsome h
   refine E_join (fun e w => ∃ (g : Gh) , FrM iI gI wI g w ∧ e 0 = up0 ∧ OM 1 g w 62 (x0 : List FaultDamage) up0 ∧ e 1 = .int .i64 (x1) ∧ e 10 = .int .i64 (j2)) (fun Q' hQ => ?_) (fun bI kJ hR => ?_)
   ·replace h := hx
    clear hx
    refine E_block ?_
    refine E_lp h (fun (s : Int × Int) e w => ∃ (g : Gh) , FrM iI gI wI g w ∧ e 0 = up0 ∧ OM 1 g w 62 (x0 : List FaultDamage) up0 ∧ e 1 = .int .i64 (x1) ∧ e 4 = (.func (.func ff4) fa4 fc4) ∧ e 10 = .int .i64 (s.1) ∧ e 11 = .int .i64 (s.2)) ⟨g0, hfr, rfl, mp0, rfl, rfl, rfl, rfl⟩ (fun X242 yA jB => ?_)
    rintro ⟨j1, d2⟩ cI lJ ⟨pD, hfr, v8, x8, y8, qD, x5, b7⟩ h
    refine E_joinC h (fun (s : Unit) e w => ∃ (g : Gh) , FrM iI gI wI g w ∧ e 0 = up0 ∧ OM 1 g w 62 (x0 : List FaultDamage) up0 ∧ e 1 = .int .i64 (x1) ∧ e 4 = (.func (.func ff4) fa4 fc4) ∧ e 10 = .int .i64 (j1) ∧ e 11 = .int .i64 (d2)) (fun X245 mD qF h => ?_) ?_
    ·refine E_seq (E_region (EL_pur (v := .int .i64 (j1)) (P_move x5) .plain rfl ?_))
     refine EL_pur (v := .int .i64 (d2)) (P_move b7) .plain rfl ?_
     refine EL_pur (v := .bool ((decide (j1 < d2)))) (P_int rfl rfl rfl) .plain rfl ?_
     refine EL_nil (thn_n ?_)
     rcases csome h with ⟨e8, h⟩ | ⟨e8, h⟩
     ·refine E_cond_true (Eq.trans (show ev _ _ = .bool ((decide (j1 < d2))) from rfl) (congrArg Value.bool e8)) ?_
      exact E_skip (thn_n (qF () _ _ ⟨pD, hfr, v8, x8, y8, qD, x5, b7⟩ h))
     ·refine E_cond_false (Eq.trans (show ev _ _ = .bool ((decide (j1 < d2))) from rfl) (congrArg Value.bool e8)) ?_
      refine E_exit ?_
      refine thn_e ?_
      refine thn_e ?_
      refine blk_hit ?_
      obtain rfl := Option.some.inj h
      exact hQ _ _ ⟨pD, hfr, v8, x8, y8, x5⟩
    ·rintro _ dI mJ ⟨zG, hfr, l5, i3, m6, n6, c7, d7⟩ h
     refine E_block ?_
     refine E_seq (E_region (EL_pur (v := .int .i64 (j1)) (P_move c7) .plain rfl ?_))
     refine EL_pur (v := .int .i64 (d2)) (P_move d7) .plain rfl ?_
     refine EL_pur (v := .int .i64 ((w64 (j1 + d2)))) (P_int rfl rfl rfl) .plain rfl ?_
     refine EL_pur (v := .int .u64 (wu64 (w64 (j1 + d2)))) (P_intu64 Try.underlying3 Try.underlying121 rfl) .plain rfl ?_
     obtain ⟨q2, rF, h⟩ := bsome h
     refine EL_pur (v := .int .u64 (q2)) (P_shrU rfl rfl rF) .plain rfl ?_
     refine EL_pur (v := .int .i64 ((w64 q2))) (P_u64int Try.underlying121 Try.underlying3 rfl) .plain rfl ?_
     refine EL_pur (v := .int .i64 ((w64 q2))) (P_assign rfl) .plain rfl ?_
     refine EL_nil (thn_n (E_seq ?_))
     obtain ⟨kD, kB, h⟩ := bsome h
     refine L_loadM (x := .tmp 43) Try.isAgg62 Try.sizeOf62 i3 kB fun rD aB sF => ?_
     obtain ⟨lD, lB, h⟩ := bsome h
     refine L_loadM (x := .tmp 47) Try.isAgg62 Try.sizeOf62 i3 lB fun sD bB tF => ?_
     obtain ⟨z4, uF, h⟩ := bsome h
     refine E_drawL (g := zG) (n := 11) [(9, (fun v g w => v = .int .i64 (z4)))] [0, 1, 2, 3, 4, 5, 6, 7, 8, 9, 10] rfl mixed (by kernel_rfl) (⟨fun _ => up_eq _, trivial⟩) ?_
     refine L_pur (c := (.func (.func ff4) fa4 fc4)) rfl rfl .plain (fun _ _ hd => P_move n6) ?_
     refine L_pur (c := up0) rfl rfl .plain (fun _ _ hd => P_move l5) ?_
     refine L_pur (c := .int .i64 ((w64 q2))) rfl rfl .plain (fun _ _ hd => P_move rfl) ?_
     refine L_pur (c := ePtr up0 (w64 q2) 5) rfl rfl .plain (fun _ _ hd => P_indexAddrM (α := FaultDamage) Try.underlying29 Try.sizeOf62 rfl i3 rfl kB) ?_
     refine L_ld (c := rD) rfl rfl .plain (fun _ _ h => ⟨h.ch, fun b hb _ => h.below.block b hb⟩) sF rfl ?_
     refine L_pur (c := up0) rfl rfl .plain (fun _ _ hd => P_move l5) ?_
     refine L_pur (c := .int .i64 (x1)) rfl rfl .plain (fun _ _ hd => P_move m6) ?_
     refine L_pur (c := ePtr up0 x1 5) rfl rfl .plain (fun _ _ hd => P_indexAddrM (α := FaultDamage) Try.underlying29 Try.sizeOf62 rfl i3 rfl lB) ?_
     refine L_ld (c := sD) rfl rfl .plain (fun _ _ h => ⟨h.ch, fun b hb _ => h.below.block b hb⟩) tF rfl ?_
     refine L_do (φ := fun v g w => v = .int .i64 (z4)) rfl rfl .plain (fun g w hd => D_callv (g := g) (vs := [rD, sD]) rfl fen4 (.cons rfl (.cons rfl .nil)) (fcl4 _ _ (hfr.ext hd.1).ch _ _ _ _ _  (aB.ext hd.1) (bB.ext hd.1) uF) fun g' w' v hs hr => ⟨g', hs, RV_int.1 hr⟩) (fun nJ hv => ?_)
     obtain ⟨_, _, _, rfl⟩ := hv
     refine L_pur (c := .bool ((decide (z4 < (0 : Int))))) rfl rfl .plain (fun _ _ hd => P_int rfl rfl rfl) ?_
     refine L_nil fun tD oJ hall => ?_
     have hs := hall.1
     have hfr := hfr.ext hs
     have i3 := i3.ext hs
     have aB := aB.ext hs
     have bB := bB.ext hs
     clear hs hall
     refine EL_nil (thn_n ?_)
     rcases csome h with ⟨g8, h⟩ | ⟨g8, h⟩
     ·refine E_cond_true (Eq.trans (show ev _ _ = .bool ((decide (z4 < (0 : Int)))) from rfl) (congrArg Value.bool g8)) ?_
      refine E_region (EL_pur (v := .int .i64 ((w64 q2))) (P_move rfl) .plain rfl ?_)
      refine EL_pur (v := .int .i64 ((w64 ((w64 q2) + (1 : Int))))) (P_int rfl rfl rfl) .plain rfl ?_
      refine EL_pur (v := .int .i64 ((w64 ((w64 q2) + (1 : Int))))) (P_assign rfl) .plain rfl ?_
      exact EL_nil (blk_n (thn_n (jB ((w64 ((w64 q2) + (1 : Int))), d2) _ _ ⟨tD, hfr, l5, i3, m6, n6, rfl, d7⟩ h)))
     ·refine E_cond_false (Eq.trans (show ev _ _ = .bool ((decide (z4 < (0 : Int)))) from rfl) (congrArg Value.bool g8)) ?_
      refine E_region (EL_pur (v := .int .i64 ((w64 q2))) (P_move rfl) .plain rfl ?_)
      refine EL_pur (v := .int .i64 ((w64 q2))) (P_assign rfl) .plain rfl ?_
      exact EL_nil (blk_n (thn_n (jB (j1, (w64 q2)) _ _ ⟨tD, hfr, l5, i3, m6, n6, c7, rfl⟩ h)))
   ·clear hx
    obtain ⟨aH, hfr, uD, vD, xD, bC⟩ := hR
    obtain ⟨l6, hx, h⟩ := bsome h
    refine E_join (fun e w => ∃ (g : Gh) , FrM iI gI wI g w ∧ e 0 = up0 ∧ OM 1 g w 62 (l6 : List FaultDamage) up0) (fun Q' hQ => ?_) (fun eI pJ hR => ?_)
    ·replace h := hx
     clear hx
     refine E_seq (E_region (EL_pur (v := .int .i64 (x1)) (P_move xD) .plain rfl ?_))
     refine EL_pur (v := .int .i64 (x1)) (P_assign rfl) .plain rfl ?_
     refine EL_nil (thn_n (E_block ?_))
     refine E_lp h (fun (s : (List FaultDamage) × Int) e w => ∃ (g : Gh) , FrM iI gI wI g w ∧ e 0 = up0 ∧ OM 1 g w 62 (s.1 : List FaultDamage) up0 ∧ e 10 = .int .i64 (j2) ∧ e 13 = .int .i64 (s.2)) ⟨aH, hfr, uD, vD, bC, rfl⟩ (fun X342 nD vF => ?_)
     rintro ⟨e3, u0⟩ jI qJ ⟨yD, hfr, z8, a9, e7, g7⟩ h
     refine E_joinC h (fun (s : Unit) e w => ∃ (g : Gh) , FrM iI gI wI g w ∧ e 0 = up0 ∧ OM 1 g w 62 (e3 : List FaultDamage) up0 ∧ e 10 = .int .i64 (j2) ∧ e 13 = .int .i64 (u0)) (fun X345 oD xF h => ?_) ?_
     ·refine E_seq (E_region (EL_pur (v := .int .i64 (u0)) (P_move g7) .plain rfl ?_))
      refine EL_pur (v := .int .i64 (j2)) (P_move e7) .plain rfl ?_
      refine EL_pur (v := .int .i64 ((w64 (j2 - (1 : Int))))) (P_int rfl rfl rfl) .plain rfl ?_
      refine EL_pur (v := .bool ((decide (u0 < (w64 (j2 - (1 : Int))))))) (P_int rfl rfl rfl) .plain rfl ?_
      refine EL_nil (thn_n ?_)
      rcases csome h with ⟨i8, h⟩ | ⟨i8, h⟩
      ·refine E_cond_true (Eq.trans (show ev _ _ = .bool ((decide (u0 < (w64 (j2 - (1 : Int)))))) from rfl) (congrArg Value.bool i8)) ?_
       exact E_skip (thn_n (xF () _ _ ⟨yD, hfr, z8, a9, e7, g7⟩ h))
      ·refine E_cond_false (Eq.trans (show ev _ _ = .bool ((decide (u0 < (w64 (j2 - (1 : Int)))))) from rfl) (congrArg Value.bool i8)) ?_
       refine E_exit ?_
       refine thn_e ?_
       refine thn_e ?_
       refine blk_hit ?_
       obtain rfl := Option.some.inj h
       exact hQ _ _ ⟨yD, hfr, z8, a9⟩
     ·rintro _ kI rJ ⟨bH, hfr, o4, j3, cC, d4⟩ h
      obtain ⟨j5, hx, h⟩ := bsome h
      refine E_join (fun e w => ∃ (g : Gh) , FrM iI gI wI g w ∧ e 0 = up0 ∧ OM 1 g w 62 (j5 : List FaultDamage) up0 ∧ e 10 = .int .i64 (j2) ∧ e 13 = .int .i64 (u0)) (fun Q' hQ => ?_) (fun lI sJ hR => ?_)
      ·replace h := hx
       clear hx
       refine E_block ?_
       obtain ⟨c8, mB, h⟩ := bsome h
       refine L_loadM (x := .tmp 69) Try.isAgg62 Try.sizeOf62 j3 mB fun cH b5 yF => ?_
       obtain ⟨zA, nB, h⟩ := bsome h
       refine L_loadM (x := .tmp 73) Try.isAgg62 Try.sizeOf62 j3 nB fun dH c5 zF => ?_
       obtain ⟨xG, oB, h⟩ := bsome h
       refine E_drawTL (g := bH) (n := 15) [2, 3, 4] [] [0, 1, 2, 3, 4, 5, 6, 7, 8, 9, 10, 11, 12, 13, 14] rfl mixed (by kernel_rfl) trivial rfl ?_
       refine L_pur (c := up0) rfl rfl .plain (fun _ _ hd => P_move o4) ?_
       refine L_pur (c := .int .i64 (u0)) rfl rfl .plain (fun _ _ hd => P_move d4) ?_
       refine L_purL (c := up0) rfl rfl .plain (P_move o4) ?_
       refine L_purL (c := .int .i64 (u0)) rfl rfl .plain (P_move d4) ?_
       refine L_purL (c := .int .i64 ((w64 (u0 + (1 : Int))))) rfl rfl .plain (P_int rfl rfl rfl) ?_
       refine L_pur (c := up0) rfl rfl .plain (fun _ _ hd => P_move o4) ?_
       refine L_pur (c := .int .i64 (u0)) rfl rfl .plain (fun _ _ hd => P_move d4) ?_
       refine L_pur (c := .int .i64 ((w64 (u0 + (1 : Int))))) rfl rfl .plain (fun _ _ hd => P_int rfl rfl rfl) ?_
       refine L_pur (c := ePtr up0 (w64 (u0 + (1 : Int))) 5) rfl rfl .plain (fun _ _ hd => P_indexAddrM (α := FaultDamage) Try.underlying29 Try.sizeOf62 rfl j3 rfl mB) ?_
       refine L_ld (c := cH) rfl rfl .plain (fun _ _ h => ⟨h.ch, fun b hb _ => h.below.block b hb⟩) yF rfl ?_
       refine L_pur (c := up0) rfl rfl .plain (fun _ _ hd => P_move o4) ?_
       refine L_pur (c := .int .i64 (u0)) rfl rfl .plain (fun _ _ hd => P_move d4) ?_
       refine L_pur (c := ePtr up0 u0 5) rfl rfl .plain (fun _ _ hd => P_indexAddrM (α := FaultDamage) Try.underlying29 Try.sizeOf62 rfl j3 rfl nB) ?_
       refine L_ld (c := dH) rfl rfl .plain (fun _ _ h => ⟨h.ch, fun b hb _ => h.below.block b hb⟩) zF rfl ?_
       refine L_pur (c := ePtr up0 u0 5) rfl rfl .plain (fun _ _ hd => P_indexAddrM (α := FaultDamage) Try.underlying29 Try.sizeOf62 rfl j3 rfl oB) ?_
       refine L_nil fun eH tJ hall => ?_
       have hs := hall.1
       have hfr := hfr.ext hs
       have j3 := j3.ext hs
       have b5 := b5.ext hs
       have c5 := c5.ext hs
       clear hs hall
       refine TL_do .plain rfl (D_storeM (g := eH) (α := FaultDamage) (a' := c8) Try.sizeOf62 rfl j3 oB rfl b5 fun gH uJ hs b399 => ?_)
       have hfr := hfr.stp hs
       have b5 := b5.stp hs
       have c5 := c5.stp hs
       obtain ⟨yG, pB, h⟩ := bsome h
       refine TL_pur (v := ePtr up0 (w64 (u0 + (1 : Int))) 5) (P_indexAddrM (α := FaultDamage) Try.underlying29 Try.sizeOf62 rfl b399 rfl pB) .plain rfl ?_
       refine TL_do .plain rfl (D_storeM (g := gH) (α := FaultDamage) (a' := zA) Try.sizeOf62 rfl b399 pB rfl c5 fun iH vJ hs b401 => ?_)
       have hfr := hfr.stp hs
       have b5 := b5.stp hs
       have c5 := c5.stp hs
       refine TL_nil ?_
       refine blk_n ?_
       obtain rfl := Option.some.inj h
       exact hQ _ _ ⟨iH, hfr, o4, b401, cC, d4⟩
      ·clear hx
       obtain ⟨jH, hfr, zD, aE, dC, eC⟩ := hR
       refine E_region (EL_pur (v := .int .i64 (u0)) (P_move eC) .plain rfl ?_)
       refine EL_pur (v := .int .i64 ((w64 (u0 + (1 : Int))))) (P_int rfl rfl rfl) .plain rfl ?_
       refine EL_pur (v := .int .i64 ((w64 (u0 + (1 : Int))))) (P_assign rfl) .plain rfl ?_
       exact EL_nil (thn_n (vF (j5, (w64 (u0 + (1 : Int)))) _ _ ⟨jH, hfr, zD, aE, dC, rfl⟩ h))
    ·clear hx
     obtain ⟨xJ, hfr, zH, bE⟩ := hR
     refine E_ret (thn_r ?_)
     obtain rfl := Option.some.inj h
     exact end0 rfl rfl ⟨_, hfr, rfl, j6.back bE⟩
  ·refine E_cond_false (Eq.trans (show ev _ _ = .bool (((w64 (x2 - x1)) == (1 : Int))) from rfl) (congrArg Value.bool d8)) ?_
   exact E_skip (thn_n (pF (x0) _ _ ⟨g0, hfr, rfl, mp0, rfl, rfl, rfl, rfl⟩ h))
 ·rintro z2 mI yJ ⟨cE, hfr, b9, c9, d9, m5, e9, g9⟩ h
  refine E_joinC h (fun (s : (List FaultDamage)) e w => ∃ (g : Gh) , FrM iI gI wI g w ∧ e 0 = up0 ∧ OM 1 g w 62 (s : List FaultDamage) up0 ∧ e 1 = .int .i64 (x1) ∧ e 2 = .int .i64 (x2) ∧ e 3 = .int .i64 (x3) ∧ e 4 = (.func (.func ff4) fa4 fc4)) (fun X608 bD aG h => ?_) ?_
  ·refine E_seq (E_region (EL_pur (v := .int .i64 (x3)) (P_move e9) .plain rfl ?_))
   refine EL_pur (v := .int .i64 (x2)) (P_move m5) .plain rfl ?_
   refine EL_pur (v := .int .i64 ((w64 (x3 - x2)))) (P_int rfl rfl rfl) .plain rfl ?_
   refine EL_pur (v := .bool (((w64 (x3 - x2)) == (1 : Int)))) (P_int rfl rfl rfl) .plain rfl ?_
   refine EL_nil (thn_n ?_)
   rcases csome h with ⟨j8, h⟩ | ⟨j8, h⟩
   ·refine E_cond_true (Eq.trans (show ev _ _ = .bool (((w64 (x3 - x2)) == (1 : Int))) from rfl) (congrArg Value.bool j8)) ?_
    refine E_seq (E_region (EL_pur (v := .int .i64 (x1)) (P_move d9) .plain rfl ?_))
    refine EL_pur (v := .int .i64 (x1)) (P_assign rfl) .plain rfl ?_
    refine EL_nil (thn_n (E_seq (E_region (EL_pur (v := .int .i64 (x2)) (P_move m5) .plain rfl ?_))))
    refine EL_pur (v := .int .i64 (x2)) (P_assign rfl) .plain rfl ?_
    refine EL_nil (thn_n ?_)
    obtain ⟨m2, hx, h⟩ := bsome h
    refine E_join (fun e w => ∃ (g : Gh) , FrM iI gI wI g w ∧ e 0 = up0 ∧ OM 1 g w 62 (z2 : List FaultDamage) up0 ∧ e 2 = .int .i64 (x2) ∧ e 14 = .int .i64 (m2)) (fun Q' hQ => ?_) (fun nI zJ hR => ?_)
    ·replace h := hx
     clear hx
     refine E_block ?_
     refine E_lp h (fun (s : Int × Int) e w => ∃ (g : Gh) , FrM iI gI wI g w ∧ e 0 = up0 ∧ OM 1 g w 62 (z2 : List FaultDamage) up0 ∧ e 2 = .int .i64 (x2) ∧ e 4 = (.func (.func ff4) fa4 fc4) ∧ e 14 = .int .i64 (s.1) ∧ e 15 = .int .i64 (s.2)) ⟨cE, hfr, b9, c9, m5, g9, rfl, rfl⟩ (fun X649 vA qB => ?_)
     rintro ⟨i1, z1⟩ oI aK ⟨dE, hfr, i9, j9, k9, eE, y5, i7⟩ h
     refine E_joinC h (fun (s : Unit) e w => ∃ (g : Gh) , FrM iI gI wI g w ∧ e 0 = up0 ∧ OM 1 g w 62 (z2 : List FaultDamage) up0 ∧ e 2 = .int .i64 (x2) ∧ e 4 = (.func (.func ff4) fa4 fc4) ∧ e 14 = .int .i64 (i1) ∧ e 15 = .int .i64 (z1)) (fun X652 eD bG h => ?_) ?_
     ·refine E_seq (E_region (EL_pur (v := .int .i64 (i1)) (P_move y5) .plain rfl ?_))
      refine EL_pur (v := .int .i64 (z1)) (P_move i7) .plain rfl ?_
      refine EL_pur (v := .bool ((decide (i1 < z1)))) (P_int rfl rfl rfl) .plain rfl ?_
      refine EL_nil (thn_n ?_)
      rcases csome h with ⟨k8, h⟩ | ⟨k8, h⟩
      ·refine E_cond_true (Eq.trans (show ev _ _ = .bool ((decide (i1 < z1))) from rfl) (congrArg Value.bool k8)) ?_
       exact E_skip (thn_n (bG () _ _ ⟨dE, hfr, i9, j9, k9, eE, y5, i7⟩ h))
      ·refine E_cond_false (Eq.trans (show ev _ _ = .bool ((decide (i1 < z1))) from rfl) (congrArg Value.bool k8)) ?_
       refine E_exit ?_
       refine thn_e ?_
       refine thn_e ?_
       refine blk_hit ?_
       obtain rfl := Option.some.inj h
       exact hQ _ _ ⟨dE, hfr, i9, j9, k9, y5⟩
     ·rintro _ pI bK ⟨kH, hfr, n5, m3, o6, p6, j7, l7⟩ h
      refine E_block ?_
      refine E_seq (E_region (EL_pur (v := .int .i64 (i1)) (P_move j7) .plain rfl ?_))
      refine EL_pur (v := .int .i64 (z1)) (P_move l7) .plain rfl ?_
      refine EL_pur (v := .int .i64 ((w64 (i1 + z1)))) (P_int rfl rfl rfl) .plain rfl ?_
      refine EL_pur (v := .int .u64 (wu64 (w64 (i1 + z1)))) (P_intu64 Try.underlying3 Try.underlying121 rfl) .plain rfl ?_
      obtain ⟨p2, cG, h⟩ := bsome h
      refine EL_pur (v := .int .u64 (p2)) (P_shrU rfl rfl cG) .plain rfl ?_
      refine EL_pur (v := .int .i64 ((w64 p2))) (P_u64int Try.underlying121 Try.underlying3 rfl) .plain rfl ?_
      refine EL_pur (v := .int .i64 ((w64 p2))) (P_assign rfl) .plain rfl ?_
      refine EL_nil (thn_n (E_seq ?_))
      obtain ⟨cD, rB, h⟩ := bsome h
      refine L_loadM (x := .tmp 95) Try.isAgg62 Try.sizeOf62 m3 rB fun gE cB dG => ?_
      obtain ⟨dD, sB, h⟩ := bsome h
      refine L_loadM (x := .tmp 99) Try.isAgg62 Try.sizeOf62 m3 sB fun iE dB eG => ?_
      obtain ⟨n4, gG, h⟩ := bsome h
      refine E_drawL (g := kH) (n := 12) [(9, (fun v g w => v = .int .i64 (n4)))] [0, 1, 2, 3, 4, 5, 6, 7, 8, 9, 10, 11] rfl mixed (by kernel_rfl) (⟨fun _ => up_eq _, trivial⟩) ?_
      refine L_pur (c := (.func (.func ff4) fa4 fc4)) rfl rfl .plain (fun _ _ hd => P_move p6) ?_
      refine L_pur (c := up0) rfl rfl .plain (fun _ _ hd => P_move n5) ?_
      refine L_pur (c := .int .i64 (x2)) rfl rfl .plain (fun _ _ hd => P_move o6) ?_
      refine L_pur (c := ePtr up0 x2 5) rfl rfl .plain (fun _ _ hd => P_indexAddrM (α := FaultDamage) Try.underlying29 Try.sizeOf62 rfl m3 rfl rB) ?_
      refine L_ld (c := gE) rfl rfl .plain (fun _ _ h => ⟨h.ch, fun b hb _ => h.below.block b hb⟩) dG rfl ?_
      refine L_pur (c := up0) rfl rfl .plain (fun _ _ hd => P_move n5) ?_
      refine L_pur (c := .int .i64 ((w64 p2))) rfl rfl .plain (fun _ _ hd => P_move rfl) ?_
      refine L_pur (c := ePtr up0 (w64 p2) 5) rfl rfl .plain (fun _ _ hd => P_indexAddrM (α := FaultDamage) Try.underlying29 Try.sizeOf62 rfl m3 rfl sB) ?_
      refine L_ld (c := iE) rfl rfl .plain (fun _ _ h => ⟨h.ch, fun b hb _ => h.below.block b hb⟩) eG rfl ?_
      refine L_do (φ := fun v g w => v = .int .i64 (n4)) rfl rfl .plain (fun g w hd => D_callv (g := g) (vs := [gE, iE]) rfl fen4 (.cons rfl (.cons rfl .nil)) (fcl4 _ _ (hfr.ext hd.1).ch _ _ _ _ _  (cB.ext hd.1) (dB.ext hd.1) gG) fun g' w' v hs hr => ⟨g', hs, RV_int.1 hr⟩) (fun cK hv => ?_)
      obtain ⟨_, _, _, rfl⟩ := hv
      refine L_pur (c := .bool ((decide (n4 < (0 : Int))))) rfl rfl .plain (fun _ _ hd => P_int rfl rfl rfl) ?_
      refine L_pur (c := .bool (!(decide (n4 < (0 : Int))))) rfl rfl .plain (fun _ _ hd => P_not rfl) ?_
      refine L_nil fun jE dK hall => ?_
      have hs := hall.1
      have hfr := hfr.ext hs
      have m3 := m3.ext hs
      have cB := cB.ext hs
      have dB := dB.ext hs
      clear hs hall
      refine EL_nil (thn_n ?_)
      rcases csome h with ⟨l8, h⟩ | ⟨l8, h⟩
      ·refine E_cond_true (Eq.trans (show ev _ _ = .bool ((!(decide (n4 < (0 : Int))))) from rfl) (congrArg Value.bool l8)) ?_
       refine E_region (EL_pur (v := .int .i64 ((w64 p2))) (P_move rfl) .plain rfl ?_)
       refine EL_pur (v := .int .i64 ((w64 ((w64 p2) + (1 : Int))))) (P_int rfl rfl rfl) .plain rfl ?_
       refine EL_pur (v := .int .i64 ((w64 ((w64 p2) + (1 : Int))))) (P_assign rfl) .plain rfl ?_
       exact EL_nil (blk_n (thn_n (qB ((w64 ((w64 p2) + (1 : Int))), z1) _ _ ⟨jE, hfr, n5, m3, o6, p6, rfl, l7⟩ h)))
      ·refine E_cond_false (Eq.trans (show ev _ _ = .bool ((!(decide (n4 < (0 : Int))))) from rfl) (congrArg Value.bool l8)) ?_
       refine E_region (EL_pur (v := .int .i64 ((w64 p2))) (P_move rfl) .plain rfl ?_)
       refine EL_pur (v := .int .i64 ((w64 p2))) (P_assign rfl) .plain rfl ?_
       exact EL_nil (blk_n (thn_n (qB (i1, (w64 p2)) _ _ ⟨jE, hfr, n5, m3, o6, p6, j7, rfl⟩ h)))
    ·clear hx
     obtain ⟨lH, hfr, kE, lE, mE, iC⟩ := hR
     obtain ⟨k6, hx, h⟩ := bsome h
     refine E_join (fun e w => ∃ (g : Gh) , FrM iI gI wI g w ∧ e 0 = up0 ∧ OM 1 g w 62 (k6 : List FaultDamage) up0) (fun Q' hQ => ?_) (fun qI eK hR => ?_)
     ·replace h := hx
      clear hx
      refine E_seq (E_region (EL_pur (v := .int .i64 (x2)) (P_move mE) .plain rfl ?_))
      refine EL_pur (v := .int .i64 (x2)) (P_assign rfl) .plain rfl ?_
      refine EL_nil (thn_n (E_block ?_))
      refine E_lp h (fun (s : (List FaultDamage) × Int) e w => ∃ (g : Gh) , FrM iI gI wI g w ∧ e 0 = up0 ∧ OM 1 g w 62 (s.1 : List FaultDamage) up0 ∧ e 14 = .int .i64 (m2) ∧ e 17 = .int .i64 (s.2)) ⟨lH, hfr, kE, lE, iC, rfl⟩ (fun X750 gD hG => ?_)
      rintro ⟨d3, o0⟩ rI gK ⟨nE, hfr, l9, m9, m7, n7⟩ h
      refine E_joinC h (fun (s : Unit) e w => ∃ (g : Gh) , FrM iI gI wI g w ∧ e 0 = up0 ∧ OM 1 g w 62 (d3 : List FaultDamage) up0 ∧ e 14 = .int .i64 (m2) ∧ e 17 = .int .i64 (o0)) (fun X753 iD iG h => ?_) ?_
      ·refine E_seq (E_region (EL_pur (v := .int .i64 (o0)) (P_move n7) .plain rfl ?_))
       refine EL_pur (v := .int .i64 (m2)) (P_move m7) .plain rfl ?_
       refine EL_pur (v := .bool ((decide (o0 > m2)))) (P_int rfl rfl rfl) .plain rfl ?_
       refine EL_nil (thn_n ?_)
       rcases csome h with ⟨m8, h⟩ | ⟨m8, h⟩
       ·refine E_cond_true (Eq.trans (show ev _ _ = .bool ((decide (o0 > m2))) from rfl) (congrArg Value.bool m8)) ?_
        exact E_skip (thn_n (iG () _ _ ⟨nE, hfr, l9, m9, m7, n7⟩ h))
       ·refine E_cond_false (Eq.trans (show ev _ _ = .bool ((decide (o0 > m2))) from rfl) (congrArg Value.bool m8)) ?_
        refine E_exit ?_
        refine thn_e ?_
        refine thn_e ?_
        refine blk_hit ?_
        obtain rfl := Option.some.inj h
        exact hQ _ _ ⟨nE, hfr, l9, m9⟩
      ·rintro _ sI iK ⟨mH, hfr, p4, o3, jC, e4⟩ h
       obtain ⟨i5, hx, h⟩ := bsome h
       refine E_join (fun e w => ∃ (g : Gh) , FrM iI gI wI g w ∧ e 0 = up0 ∧ OM 1 g w 62 (i5 : List FaultDamage) up0 ∧ e 14 = .int .i64 (m2) ∧ e 17 = .int .i64 (o0)) (fun Q' hQ => ?_) (fun tI jK hR => ?_)
       ·replace h := hx
        clear hx
        refine E_block ?_
        obtain ⟨b8, tB, h⟩ := bsome h
        refine L_loadM (x := .tmp 121) Try.isAgg62 Try.sizeOf62 o3 tB fun nH d5 jG => ?_
        obtain ⟨xA, uB, h⟩ := bsome h
        refine L_loadM (x := .tmp 125) Try.isAgg62 Try.sizeOf62 o3 uB fun oH e5 kG => ?_
        obtain ⟨uG, vB, h⟩ := bsome h
        refine E_drawTL (g := mH) (n := 15) [2, 3, 4] [] [0, 1, 2, 3, 4, 5, 6, 7, 8, 9, 10, 11, 12, 13, 14] rfl mixed (by kernel_rfl) trivial rfl ?_
        refine L_pur (c := up0) rfl rfl .plain (fun _ _ hd => P_move p4) ?_
        refine L_pur (c := .int .i64 (o0)) rfl rfl .plain (fun _ _ hd => P_move e4) ?_
        refine L_purL (c := up0) rfl rfl .plain (P_move p4) ?_
        refine L_purL (c := .int .i64 (o0)) rfl rfl .plain (P_move e4) ?_
        refine L_purL (c := .int .i64 ((w64 (o0 - (1 : Int))))) rfl rfl .plain (P_int rfl rfl rfl) ?_
        refine L_pur (c := up0) rfl rfl .plain (fun _ _ hd => P_move p4) ?_
        refine L_pur (c := .int .i64 (o0)) rfl rfl .plain (fun _ _ hd => P_move e4) ?_
        refine L_pur (c := .int .i64 ((w64 (o0 - (1 : Int))))) rfl rfl .plain (fun _ _ hd => P_int rfl rfl rfl) ?_
        refine L_pur (c := ePtr up0 (w64 (o0 - (1 : Int))) 5) rfl rfl .plain (fun _ _ hd => P_indexAddrM (α := FaultDamage) Try.underlying29 Try.sizeOf62 rfl o3 rfl tB) ?_
        refine L_ld (c := nH) rfl rfl .plain (fun _ _ h => ⟨h.ch, fun b hb _ => h.below.block b hb⟩) jG rfl ?_
        refine L_pur (c := up0) rfl rfl .plain (fun _ _ hd => P_move p4) ?_
        refine L_pur (c := .int .i64 (o0)) rfl rfl .plain (fun _ _ hd => P_move e4) ?_
        refine L_pur (c := ePtr up0 o0 5) rfl rfl .plain (fun _ _ hd => P_indexAddrM (α := FaultDamage) Try.underlying29 Try.sizeOf62 rfl o3 rfl uB) ?_
        refine L_ld (c := oH) rfl rfl .plain (fun _ _ h => ⟨h.ch, fun b hb _ => h.below.block b hb⟩) kG rfl ?_
        refine L_pur (c := ePtr up0 o0 5) rfl rfl .plain (fun _ _ hd => P_indexAddrM (α := FaultDamage) Try.underlying29 Try.sizeOf62 rfl o3 rfl vB) ?_
        refine L_nil fun pH kK hall => ?_
        have hs := hall.1
        have hfr := hfr.ext hs
        have o3 := o3.ext hs
        have d5 := d5.ext hs
        have e5 := e5.ext hs
        clear hs hall
        refine TL_do .plain rfl (D_storeM (g := pH) (α := FaultDamage) (a' := b8) Try.sizeOf62 rfl o3 vB rfl d5 fun qH lK hs b807 => ?_)
        have hfr := hfr.stp hs
        have d5 := d5.stp hs
        have e5 := e5.stp hs
        obtain ⟨vG, xB, h⟩ := bsome h
        refine TL_pur (v := ePtr up0 (w64 (o0 - (1 : Int))) 5) (P_indexAddrM (α := FaultDamage) Try.underlying29 Try.sizeOf62 rfl b807 rfl xB) .plain rfl ?_
        refine TL_do .plain rfl (D_storeM (g := qH) (α := FaultDamage) (a' := xA) Try.sizeOf62 rfl b807 xB rfl e5 fun rH mK hs b809 => ?_)
        have hfr := hfr.stp hs
        have d5 := d5.stp hs
        have e5 := e5.stp hs
        refine TL_nil ?_
        refine blk_n ?_
        obtain rfl := Option.some.inj h
        exact hQ _ _ ⟨rH, hfr, p4, b809, jC, e4⟩
       ·clear hx
        obtain ⟨sH, hfr, oE, pE, kC, lC⟩ := hR
        refine E_region (EL_pur (v := .int .i64 (o0)) (P_move lC) .plain rfl ?_)
        refine EL_pur (v := .int .i64 ((w64 (o0 - (1 : Int))))) (P_int rfl rfl rfl) .plain rfl ?_
        refine EL_pur (v := .int .i64 ((w64 (o0 - (1 : Int))))) (P_assign rfl) .plain rfl ?_
        exact EL_nil (thn_n (hG (i5, (w64 (o0 - (1 : Int)))) _ _ ⟨sH, hfr, oE, pE, kC, rfl⟩ h))
     ·clear hx
      obtain ⟨nK, hfr, aI, qE⟩ := hR
      refine E_ret (thn_r ?_)
      obtain rfl := Option.some.inj h
      exact end0 rfl rfl ⟨_, hfr, rfl, j6.back qE⟩
   ·refine E_cond_false (Eq.trans (show ev _ _ = .bool (((w64 (x3 - x2)) == (1 : Int))) from rfl) (congrArg Value.bool j8)) ?_
    exact E_skip (thn_n (aG (z2) _ _ ⟨cE, hfr, b9, c9, d9, m5, e9, g9⟩ h))
  ·rintro s2 uI oK ⟨rE, hfr, n9, o9, o5, q4, p5, p9⟩ h
   refine E_seq (E_region (EL_pur (v := .int .i64 (x1)) (P_move o5) .plain rfl ?_))
   refine EL_pur (v := .int .i64 (x3)) (P_move p5) .plain rfl ?_
   refine EL_pur (v := .int .i64 ((w64 (x1 + x3)))) (P_int rfl rfl rfl) .plain rfl ?_
   refine EL_pur (v := .int .u64 (wu64 (w64 (x1 + x3)))) (P_intu64 Try.underlying3 Try.underlying121 rfl) .plain rfl ?_
   obtain ⟨n0, lG, h⟩ := bsome h
   refine EL_pur (v := .int .u64 (n0)) (P_shrU rfl rfl lG) .plain rfl ?_
   refine EL_pur (v := .int .i64 ((w64 n0))) (P_u64int Try.underlying121 Try.underlying3 rfl) .plain rfl ?_
   refine EL_pur (v := .int .i64 ((w64 n0))) (P_assign rfl) .plain rfl ?_
   refine EL_nil (thn_n (E_seq (E_region (EL_pur (v := .int .i64 ((w64 n0))) (P_move rfl) .plain rfl ?_))))
   refine EL_pur (v := .int .i64 (x2)) (P_move q4) .plain rfl ?_
   refine EL_pur (v := .int .i64 ((w64 ((w64 n0) + x2)))) (P_int rfl rfl rfl) .plain rfl ?_
   refine EL_pur (v := .int .i64 ((w64 ((w64 n0) + x2)))) (P_assign rfl) .plain rfl ?_
   refine EL_nil (thn_n (E_seq (E_region (EL_pur (v := .int .i64 (0)) (P_assign rfl) .plain rfl ?_))))
   refine EL_pur (v := .int .i64 (0)) (P_assign rfl) .plain rfl ?_
   refine EL_nil (thn_n ?_)
   obtain ⟨⟨t5, u5⟩, hx, h⟩ := bsome h
   refine E_join (fun e w => ∃ (g : Gh) , FrM iI gI wI g w ∧ e 0 = up0 ∧ OM 1 g w 62 (s2 : List FaultDamage) up0 ∧ e 1 = .int .i64 (x1) ∧ e 2 = .int .i64 (x2) ∧ e 3 = .int .i64 (x3) ∧ e 4 = (.func (.func ff4) fa4 fc4) ∧ e 18 = .int .i64 ((w64 n0)) ∧ e 19 = .int .i64 ((w64 ((w64 n0) + x2))) ∧ e 20 = .int .i64 (t5) ∧ e 21 = .int .i64 (u5)) (fun Q' hQ => ?_) (fun vI pK hR => ?_)
   ·replace h := hx
    clear hx
    refine E_seq (E_region (EL_pur (v := .int .i64 (x2)) (P_move q4) .plain rfl ?_))
    refine EL_pur (v := .int .i64 ((w64 n0))) (P_move rfl) .plain rfl ?_
    refine EL_pur (v := .bool ((decide (x2 > (w64 n0))))) (P_int rfl rfl rfl) .plain rfl ?_
    refine EL_nil (thn_n ?_)
    rcases csome h with ⟨n8, h⟩ | ⟨n8, h⟩
    ·refine E_cond_true (Eq.trans (show ev _ _ = .bool ((decide (x2 > (w64 n0)))) from rfl) (congrArg Value.bool n8)) ?_
     refine E_seq (E_region (EL_pur (v := .int .i64 ((w64 ((w64 n0) + x2)))) (P_move rfl) .plain rfl ?_))
     refine EL_pur (v := .int .i64 (x3)) (P_move p5) .plain rfl ?_
     refine EL_pur (v := .int .i64 ((w64 ((w64 ((w64 n0) + x2)) - x3)))) (P_int rfl rfl rfl) .plain rfl ?_
     refine EL_pur (v := .int .i64 ((w64 ((w64 ((w64 n0) + x2)) - x3)))) (P_assign rfl) .plain rfl ?_
     refine EL_nil (thn_n (E_region (EL_pur (v := .int .i64 ((w64 n0))) (P_move rfl) .plain rfl ?_)))
     refine EL_pur (v := .int .i64 ((w64 n0))) (P_assign rfl) .plain rfl ?_
     refine EL_nil ?_
     obtain ⟨rfl, rfl⟩ := pairs2 h
     exact hQ _ _ ⟨rE, hfr, n9, o9, o5, q4, p5, p9, rfl, rfl, rfl, rfl⟩
    ·refine E_cond_false (Eq.trans (show ev _ _ = .bool ((decide (x2 > (w64 n0)))) from rfl) (congrArg Value.bool n8)) ?_
     refine E_seq (E_region (EL_pur (v := .int .i64 (x1)) (P_move o5) .plain rfl ?_))
     refine EL_pur (v := .int .i64 (x1)) (P_assign rfl) .plain rfl ?_
     refine EL_nil (thn_n (E_region (EL_pur (v := .int .i64 (x2)) (P_move q4) .plain rfl ?_)))
     refine EL_pur (v := .int .i64 (x2)) (P_assign rfl) .plain rfl ?_
     refine EL_nil ?_
     obtain ⟨rfl, rfl⟩ := pairs2 h
     exact hQ _ _ ⟨rE, hfr, n9, o9, o5, q4, p5, p9, rfl, rfl, rfl, rfl⟩
   ·clear hx
    obtain ⟨tH, hfr, sE, tE, uE, vE, xE, yE, mC, o7, nC, oC⟩ := hR
    refine E_seq (E_region (EL_pur (v := .int .i64 ((w64 ((w64 n0) + x2)))) (P_move o7) .plain rfl ?_))
    refine EL_pur (v := .int .i64 ((w64 ((w64 ((w64 n0) + x2)) - (1 : Int))))) (P_int rfl rfl rfl) .plain rfl ?_
    refine EL_pur (v := .int .i64 ((w64 ((w64 ((w64 n0) + x2)) - (1 : Int))))) (P_assign rfl) .plain rfl ?_
    refine EL_nil (thn_n ?_)
    obtain ⟨j0, hx, h⟩ := bsome h
    refine E_join (fun e w => ∃ (g : Gh) , FrM iI gI wI g w ∧ e 0 = up0 ∧ OM 1 g w 62 (s2 : List FaultDamage) up0 ∧ e 1 = .int .i64 (x1) ∧ e 2 = .int .i64 (x2) ∧ e 3 = .int .i64 (x3) ∧ e 4 = (.func (.func ff4) fa4 fc4) ∧ e 18 = .int .i64 ((w64 n0)) ∧ e 19 = .int .i64 ((w64 ((w64 n0) + x2))) ∧ e 20 = .int .i64 (j0)) (fun Q' hQ => ?_) (fun xI qK hR => ?_)
    ·replace h := hx
     clear hx
     refine E_block ?_
     refine E_lp h (fun (s : Int × Int) e w => ∃ (g : Gh) , FrM iI gI wI g w ∧ e 0 = up0 ∧ OM 1 g w 62 (s2 : List FaultDamage) up0 ∧ e 1 = .int .i64 (x1) ∧ e 2 = .int .i64 (x2) ∧ e 3 = .int .i64 (x3) ∧ e 4 = (.func (.func ff4) fa4 fc4) ∧ e 18 = .int .i64 ((w64 n0)) ∧ e 19 = .int .i64 ((w64 ((w64 n0) + x2))) ∧ e 20 = .int .i64 (s.1) ∧ e 21 = .int .i64 (s.2) ∧ e 22 = .int .i64 ((w64 ((w64 ((w64 n0) + x2)) - (1 : Int))))) ⟨tH, hfr, sE, tE, uE, vE, xE, yE, mC, o7, nC, oC, rfl⟩ (fun X863 uA yB => ?_)
     rintro ⟨y0, m1⟩ yI rK ⟨zE, hfr, q9, r9, s9, t9, u9, v9, p7, q7, z5, r7, pC⟩ h
     refine E_joinC h (fun (s : Unit) e w => ∃ (g : Gh) , FrM iI gI wI g w ∧ e 0 = up0 ∧ OM 1 g w 62 (s2 : List FaultDamage) up0 ∧ e 1 = .int .i64 (x1) ∧ e 2 = .int .i64 (x2) ∧ e 3 = .int .i64 (x3) ∧ e 4 = (.func (.func ff4) fa4 fc4) ∧ e 18 = .int .i64 ((w64 n0)) ∧ e 19 = .int .i64 ((w64 ((w64 n0) + x2))) ∧ e 20 = .int .i64 (y0) ∧ e 21 = .int .i64 (m1) ∧ e 22 = .int .i64 ((w64 ((w64 ((w64 n0) + x2)) - (1 : Int))))) (fun X866 xC mG h => ?_) ?_
     ·refine E_seq (E_region (EL_pur (v := .int .i64 (y0)) (P_move z5) .plain rfl ?_))
      refine EL_pur (v := .int .i64 (m1)) (P_move r7) .plain rfl ?_
      refine EL_pur (v := .bool ((decide (y0 < m1)))) (P_int rfl rfl rfl) .plain rfl ?_
      refine EL_nil (thn_n ?_)
      rcases csome h with ⟨o8, h⟩ | ⟨o8, h⟩
      ·refine E_cond_true (Eq.trans (show ev _ _ = .bool ((decide (y0 < m1))) from rfl) (congrArg Value.bool o8)) ?_
       exact E_skip (thn_n (mG () _ _ ⟨zE, hfr, q9, r9, s9, t9, u9, v9, p7, q7, z5, r7, pC⟩ h))
      ·refine E_cond_false (Eq.trans (show ev _ _ = .bool ((decide (y0 < m1))) from rfl) (congrArg Value.bool o8)) ?_
       refine E_exit ?_
       refine thn_e ?_
       refine thn_e ?_
       refine blk_hit ?_
       obtain rfl := Option.some.inj h
       exact hQ _ _ ⟨zE, hfr, q9, r9, s9, t9, u9, v9, p7, q7, z5⟩
     ·rintro _ zI sK ⟨uH, hfr, q5, p3, x9, y9, z9, q6, s7, t7, u7, v7, a6⟩ h
      refine E_block ?_
      refine E_seq (E_region (EL_pur (v := .int .i64 (y0)) (P_move u7) .plain rfl ?_))
      refine EL_pur (v := .int .i64 (m1)) (P_move v7) .plain rfl ?_
      refine EL_pur (v := .int .i64 ((w64 (y0 + m1)))) (P_int rfl rfl rfl) .plain rfl ?_
      refine EL_pur (v := .int .u64 (wu64 (w64 (y0 + m1)))) (P_intu64 Try.underlying3 Try.underlying121 rfl) .plain rfl ?_
      obtain ⟨i2, nG, h⟩ := bsome h
      refine EL_pur (v := .int .u64 (i2)) (P_shrU rfl rfl nG) .plain rfl ?_
      refine EL_pur (v := .int .i64 ((w64 i2))) (P_u64int Try.underlying121 Try.underlying3 rfl) .plain rfl ?_
      refine EL_pur (v := .int .i64 ((w64 i2))) (P_assign rfl) .plain rfl ?_
      refine EL_nil (thn_n (E_seq ?_))
      obtain ⟨uC, zB, h⟩ := bsome h
      refine L_loadM (x := .tmp 163) Try.isAgg62 Try.sizeOf62 p3 zB fun aF eB oG => ?_
      obtain ⟨vC, aC, h⟩ := bsome h
      refine L_loadM (x := .tmp 167) Try.isAgg62 Try.sizeOf62 p3 aC fun bF iB pG => ?_
      obtain ⟨i4, qG, h⟩ := bsome h
      refine E_drawL (g := uH) (n := 14) [(11, (fun v g w => v = .int .i64 (i4)))] [0, 1, 2, 3, 4, 5, 6, 7, 8, 9, 10, 11, 12, 13] rfl mixed (by kernel_rfl) (⟨fun _ => up_eq _, trivial⟩) ?_
      refine L_pur (c := (.func (.func ff4) fa4 fc4)) rfl rfl .plain (fun _ _ hd => P_move q6) ?_
      refine L_pur (c := up0) rfl rfl .plain (fun _ _ hd => P_move q5) ?_
      refine L_pur (c := .int .i64 ((w64 ((w64 ((w64 n0) + x2)) - (1 : Int))))) rfl rfl .plain (fun _ _ hd => P_move a6) ?_
      refine L_pur (c := .int .i64 ((w64 i2))) rfl rfl .plain (fun _ _ hd => P_move rfl) ?_
      refine L_pur (c := .int .i64 ((w64 ((w64 ((w64 ((w64 n0) + x2)) - (1 : Int))) - (w64 i2))))) rfl rfl .plain (fun _ _ hd => P_int rfl rfl rfl) ?_
      refine L_pur (c := ePtr up0 (w64 ((w64 ((w64 ((w64 n0) + x2)) - (1 : Int))) - (w64 i2))) 5) rfl rfl .plain (fun _ _ hd => P_indexAddrM (α := FaultDamage) Try.underlying29 Try.sizeOf62 rfl p3 rfl zB) ?_
      refine L_ld (c := aF) rfl rfl .plain (fun _ _ h => ⟨h.ch, fun b hb _ => h.below.block b hb⟩) oG rfl ?_
      refine L_pur (c := up0) rfl rfl .plain (fun _ _ hd => P_move q5) ?_
      refine L_pur (c := .int .i64 ((w64 i2))) rfl rfl .plain (fun _ _ hd => P_move rfl) ?_
      refine L_pur (c := ePtr up0 (w64 i2) 5) rfl rfl .plain (fun _ _ hd => P_indexAddrM (α := FaultDamage) Try.underlying29 Try.sizeOf62 rfl p3 rfl aC) ?_
      refine L_ld (c := bF) rfl rfl .plain (fun _ _ h => ⟨h.ch, fun b hb _ => h.below.block b hb⟩) pG rfl ?_
      refine L_do (φ := fun v g w => v = .int .i64 (i4)) rfl rfl .plain (fun g w hd => D_callv (g := g) (vs := [aF, bF]) rfl fen4 (.cons rfl (.cons rfl .nil)) (fcl4 _ _ (hfr.ext hd.1).ch _ _ _ _ _  (eB.ext hd.1) (iB.ext hd.1) qG) fun g' w' v hs hr => ⟨g', hs, RV_int.1 hr⟩) (fun tK hv => ?_)
      obtain ⟨_, _, _, rfl⟩ := hv
      refine L_pur (c := .bool ((decide (i4 < (0 : Int))))) rfl rfl .plain (fun _ _ hd => P_int rfl rfl rfl) ?_
      refine L_pur (c := .bool (!(decide (i4 < (0 : Int))))) rfl rfl .plain (fun _ _ hd => P_not rfl) ?_
      refine L_nil fun cF uK hall => ?_
      have hs := hall.1
      have hfr := hfr.ext hs
      have p3 := p3.ext hs
      have eB := eB.ext hs
      have iB := iB.ext hs
      clear hs hall
      refine EL_nil (thn_n ?_)
      rcases csome h with ⟨p8, h⟩ | ⟨p8, h⟩
      ·refine E_cond_true (Eq.trans (show ev _ _ = .bool ((!(decide (i4 < (0 : Int))))) from rfl) (congrArg Value.bool p8)) ?_
       refine E_region (EL_pur (v := .int .i64 ((w64 i2))) (P_move rfl) .plain rfl ?_)
       refine EL_pur (v := .int .i64 ((w64 ((w64 i2) + (1 : Int))))) (P_int rfl rfl rfl) .plain rfl ?_
       refine EL_pur (v := .int .i64 ((w64 ((w64 i2) + (1 : Int))))) (P_assign rfl) .plain rfl ?_
       exact EL_nil (blk_n (thn_n (yB ((w64 ((w64 i2) + (1 : Int))), m1) _ _ ⟨cF, hfr, q5, p3, x9, y9, z9, q6, s7, t7, rfl, v7, a6⟩ h)))
      ·refine E_cond_false (Eq.trans (show ev _ _ = .bool ((!(decide (i4 < (0 : Int))))) from rfl) (congrArg Value.bool p8)) ?_
       refine E_region (EL_pur (v := .int .i64 ((w64 i2))) (P_move rfl) .plain rfl ?_)
       refine EL_pur (v := .int .i64 ((w64 i2))) (P_assign rfl) .plain rfl ?_
       exact EL_nil (blk_n (thn_n (yB (y0, (w64 i2)) _ _ ⟨cF, hfr, q5, p3, x9, y9, z9, q6, s7, t7, u7, rfl, a6⟩ h)))
    ·clear hx
     obtain ⟨dF, hfr, aA, bA, cA, r5, dA, eA, x7, qC, r4⟩ := hR
     refine E_seq (E_region (EL_pur (v := .int .i64 ((w64 ((w64 n0) + x2)))) (P_move qC) .plain rfl ?_))
     refine EL_pur (v := .int .i64 (j0)) (P_move r4) .plain rfl ?_
     refine EL_pur (v := .int .i64 ((w64 ((w64 ((w64 n0) + x2)) - j0)))) (P_int rfl rfl rfl) .plain rfl ?_
     refine EL_pur (v := .int .i64 ((w64 ((w64 ((w64 n0) + x2)) - j0)))) (P_assign rfl) .plain rfl ?_
     refine EL_nil (thn_n ?_)
     obtain ⟨j4, hx, h⟩ := bsome h
     refine E_join (fun e w => ∃ (g : Gh) , FrM iI gI wI g w ∧ e 0 = up0 ∧ OM 1 g w 62 (j4 : List FaultDamage) up0 ∧ e 1 = .int .i64 (x1) ∧ e 3 = .int .i64 (x3) ∧ e 4 = (.func (.func ff4) fa4 fc4) ∧ e 18 = .int .i64 ((w64 n0)) ∧ e 20 = .int .i64 (j0) ∧ e 24 = .int .i64 ((w64 ((w64 ((w64 n0) + x2)) - j0)))) (fun Q' hQ => ?_) (fun aJ vK hR => ?_)
     ·replace h := hx
      clear hx
      obtain ⟨u3, hx, h⟩ := bsome h
      refine E_join (fun e w => ∃ (g : Gh) , FrM iI gI wI g w ∧ e 0 = up0 ∧ OM 1 g w 62 (s2 : List FaultDamage) up0 ∧ e 1 = .int .i64 (x1) ∧ e 2 = .int .i64 (x2) ∧ e 3 = .int .i64 (x3) ∧ e 4 = (.func (.func ff4) fa4 fc4) ∧ e 18 = .int .i64 ((w64 n0)) ∧ e 20 = .int .i64 (j0) ∧ e 24 = .int .i64 ((w64 ((w64 ((w64 n0) + x2)) - j0))) ∧ e 185 = .bool (u3)) (fun Q' hQ => ?_) (fun bJ xK hR => ?_)
      ·replace h := hx
       clear hx
       refine E_region (EL_pur (v := .int .i64 (j0)) (P_move r4) .plain rfl ?_)
       refine EL_pur (v := .int .i64 (x2)) (P_move r5) .plain rfl ?_
       refine EL_pur (v := .bool ((decide (j0 < x2)))) (P_int rfl rfl rfl) .plain rfl ?_
       refine EL_pur (v := .bool ((decide (j0 < x2)))) (P_move rfl) .plain rfl ?_
       rcases csome h with ⟨q3, h⟩ | ⟨q3, h⟩
       ·refine EL_pur (v := .int .i64 (x2)) (P_move r5) (.yes2 rfl rfl q3) rfl ?_
        refine EL_pur (v := .int .i64 ((w64 ((w64 ((w64 n0) + x2)) - j0)))) (P_move rfl) (.yes2 rfl rfl q3) rfl ?_
        refine EL_pur (v := .bool ((decide (x2 < (w64 ((w64 ((w64 n0) + x2)) - j0)))))) (P_int rfl rfl rfl) (.yes2 rfl rfl q3) rfl ?_
        refine EL_pur (v := .bool ((decide (x2 < (w64 ((w64 ((w64 n0) + x2)) - j0)))))) (P_pick (b := (decide (j0 < x2))) rfl (pick_t q3 rfl)) .plain rfl ?_
        refine EL_nil ?_
        obtain rfl := Option.some.inj h
        exact hQ _ _ ⟨dF, hfr, aA, bA, cA, r5, dA, eA, x7, r4, rfl, rfl⟩
       ·refine EL_skip (.no2 rfl rfl q3 rfl) rfl ?_
        refine EL_skip (.no2 rfl rfl q3 rfl) rfl ?_
        refine EL_skip (.no2 rfl rfl q3 rfl) rfl ?_
        refine EL_pur (v := .bool false) (P_pick (b := (decide (j0 < x2))) rfl (pick_f q3 rfl)) .plain rfl ?_
        refine EL_nil ?_
        obtain rfl := Option.some.inj h
        exact hQ _ _ ⟨dF, hfr, aA, bA, cA, r5, dA, eA, x7, r4, rfl, rfl⟩
      ·clear hx
       obtain ⟨eF, hfr, r6, gA, iA, gF, jA, s6, y7, b6, c6, t6⟩ := hR
       rcases csome h with ⟨q8, h⟩ | ⟨q8, h⟩
       ·refine E_cond_true (Eq.trans (show ev _ _ = .bool (u3) from t6) (congrArg Value.bool q8)) ?_
        refine E_region (EL_pur (v := up0) (P_move r6) .plain rfl ?_)
        refine EL_pur (v := .int .i64 (j0)) (P_move b6) .plain rfl ?_
        refine EL_pur (v := .int .i64 (x2)) (P_move gF) .plain rfl ?_
        refine EL_pur (v := .int .i64 ((w64 ((w64 ((w64 n0) + x2)) - j0)))) (P_move c6) .plain rfl ?_
        refine EL_pur (v := (.func (.func ff4) fa4 fc4)) (P_move s6) .plain rfl ?_
        obtain ⟨yC, rG, h⟩ := bsome h
        refine EL_do .plain rfl (D_callM (g := eF) (i := 1) (vs := [up0, .int .i64 (j0), .int .i64 (x2), .int .i64 ((w64 ((w64 ((w64 n0) + x2)) - j0))), (.func (.func ff4) fa4 fc4)]) en113 (.cons rfl (.cons rfl (.cons rfl (.cons rfl (.cons rfl .nil))))) (wk113 gA (FnV2.ch ⟨_, _, _, rfl, fen4, fcl4⟩ hfr.ch) rG) fun vH cJ yK hs hr => ?_)
        obtain ⟨hrv, b920⟩ := hr
        subst hrv
        have hfr := hfr.stp hs
        refine EL_nil ?_
        obtain rfl := Option.some.inj h
        exact hQ _ _ ⟨vH, hfr, r6, b920, iA, jA, s6, y7, b6, c6⟩
       ·refine E_cond_false (Eq.trans (show ev _ _ = .bool (u3) from t6) (congrArg Value.bool q8)) ?_
        refine E_skip ?_
        obtain rfl := Option.some.inj h
        exact hQ _ _ ⟨eF, hfr, r6, gA, iA, jA, s6, y7, b6, c6⟩
     ·clear hx
      obtain ⟨iF, hfr, kA, lA, u6, mA, nA, d6, s4, z7⟩ := hR
      obtain ⟨m4, hx, h⟩ := bsome h
      refine E_join (fun e w => ∃ (g : Gh) , FrM iI gI wI g w ∧ e 0 = up0 ∧ OM 1 g w 62 (m4 : List FaultDamage) up0 ∧ e 3 = .int .i64 (x3) ∧ e 4 = (.func (.func ff4) fa4 fc4) ∧ e 18 = .int .i64 ((w64 n0)) ∧ e 24 = .int .i64 ((w64 ((w64 ((w64 n0) + x2)) - j0)))) (fun Q' hQ => ?_) (fun dJ zK hR => ?_)
      ·replace h := hx
       clear hx
       obtain ⟨z3, hx, h⟩ := bsome h
       refine E_join (fun e w => ∃ (g : Gh) , FrM iI gI wI g w ∧ e 0 = up0 ∧ OM 1 g w 62 (j4 : List FaultDamage) up0 ∧ e 1 = .int .i64 (x1) ∧ e 3 = .int .i64 (x3) ∧ e 4 = (.func (.func ff4) fa4 fc4) ∧ e 18 = .int .i64 ((w64 n0)) ∧ e 20 = .int .i64 (j0) ∧ e 24 = .int .i64 ((w64 ((w64 ((w64 n0) + x2)) - j0))) ∧ e 199 = .bool (z3)) (fun Q' hQ => ?_) (fun eJ aL hR => ?_)
       ·replace h := hx
        clear hx
        refine E_region (EL_pur (v := .int .i64 (x1)) (P_move u6) .plain rfl ?_)
        refine EL_pur (v := .int .i64 (j0)) (P_move s4) .plain rfl ?_
        refine EL_pur (v := .bool ((decide (x1 < j0)))) (P_int rfl rfl rfl) .plain rfl ?_
        refine EL_pur (v := .bool ((decide (x1 < j0)))) (P_move rfl) .plain rfl ?_
        rcases csome h with ⟨r3, h⟩ | ⟨r3, h⟩
        ·refine EL_pur (v := .int .i64 (j0)) (P_move s4) (.yes2 rfl rfl r3) rfl ?_
         refine EL_pur (v := .int .i64 ((w64 n0))) (P_move d6) (.yes2 rfl rfl r3) rfl ?_
         refine EL_pur (v := .bool ((decide (j0 < (w64 n0))))) (P_int rfl rfl rfl) (.yes2 rfl rfl r3) rfl ?_
         refine EL_pur (v := .bool ((decide (j0 < (w64 n0))))) (P_pick (b := (decide (x1 < j0))) rfl (pick_t r3 rfl)) .plain rfl ?_
         refine EL_nil ?_
         obtain rfl := Option.some.inj h
         exact hQ _ _ ⟨iF, hfr, kA, lA, u6, mA, nA, d6, s4, z7, rfl⟩
        ·refine EL_skip (.no2 rfl rfl r3 rfl) rfl ?_
         refine EL_skip (.no2 rfl rfl r3 rfl) rfl ?_
         refine EL_skip (.no2 rfl rfl r3 rfl) rfl ?_
         refine EL_pur (v := .bool false) (P_pick (b := (decide (x1 < j0))) rfl (pick_f r3 rfl)) .plain rfl ?_
         refine EL_nil ?_
         obtain rfl := Option.some.inj h
         exact hQ _ _ ⟨iF, hfr, kA, lA, u6, mA, nA, d6, s4, z7, rfl⟩
       ·clear hx
        obtain ⟨jF, hfr, v6, oA, kF, pA, x6, e6, rC, a8, y6⟩ := hR
        rcases csome h with ⟨r8, h⟩ | ⟨r8, h⟩
        ·refine E_cond_true (Eq.trans (show ev _ _ = .bool (z3) from y6) (congrArg Value.bool r8)) ?_
         refine E_region (EL_pur (v := up0) (P_move v6) .plain rfl ?_)
         refine EL_pur (v := .int .i64 (x1)) (P_move kF) .plain rfl ?_
         refine EL_pur (v := .int .i64 (j0)) (P_move rC) .plain rfl ?_
         refine EL_pur (v := .int .i64 ((w64 n0))) (P_move e6) .plain rfl ?_
         refine EL_pur (v := (.func (.func ff4) fa4 fc4)) (P_move x6) .plain rfl ?_
         obtain ⟨zC, sG, h⟩ := bsome h
         refine EL_do .plain rfl (D_callM (g := jF) (i := 1) (vs := [up0, .int .i64 (x1), .int .i64 (j0), .int .i64 ((w64 n0)), (.func (.func ff4) fa4 fc4)]) en108 (.cons rfl (.cons rfl (.cons rfl (.cons rfl (.cons rfl .nil))))) (ih oA (FnV2.ch ⟨_, _, _, rfl, fen4, fcl4⟩ hfr.ch) sG) fun xH gJ bL hs hr => ?_)
         obtain ⟨hrv, b933⟩ := hr
         subst hrv
         have hfr := hfr.stp hs
         refine EL_nil ?_
         obtain rfl := Option.some.inj h
         exact hQ _ _ ⟨xH, hfr, v6, b933, pA, x6, e6, a8⟩
        ·refine E_cond_false (Eq.trans (show ev _ _ = .bool (z3) from y6) (congrArg Value.bool r8)) ?_
         refine E_skip ?_
         obtain rfl := Option.some.inj h
         exact hQ _ _ ⟨jF, hfr, v6, oA, pA, x6, e6, a8⟩
      ·clear hx
       obtain ⟨lF, hfr, qA, rA, z6, sA, i6, u4⟩ := hR
       obtain ⟨c4, hx, h⟩ := bsome h
       refine E_join (fun e w => ∃ (g : Gh) , FrM iI gI wI g w ∧ e 0 = up0 ∧ OM 1 g w 62 (m4 : List FaultDamage) up0 ∧ e 3 = .int .i64 (x3) ∧ e 4 = (.func (.func ff4) fa4 fc4) ∧ e 18 = .int .i64 ((w64 n0)) ∧ e 24 = .int .i64 ((w64 ((w64 ((w64 n0) + x2)) - j0))) ∧ e 213 = .bool (c4)) (fun Q' hQ => ?_) (fun iJ cL hR => ?_)
       ·replace h := hx
        clear hx
        refine E_region (EL_pur (v := .int .i64 ((w64 n0))) (P_move i6) .plain rfl ?_)
        refine EL_pur (v := .int .i64 ((w64 ((w64 ((w64 n0) + x2)) - j0)))) (P_move u4) .plain rfl ?_
        refine EL_pur (v := .bool ((decide ((w64 n0) < (w64 ((w64 ((w64 n0) + x2)) - j0)))))) (P_int rfl rfl rfl) .plain rfl ?_
        refine EL_pur (v := .bool ((decide ((w64 n0) < (w64 ((w64 ((w64 n0) + x2)) - j0)))))) (P_move rfl) .plain rfl ?_
        rcases csome h with ⟨s3, h⟩ | ⟨s3, h⟩
        ·refine EL_pur (v := .int .i64 ((w64 ((w64 ((w64 n0) + x2)) - j0)))) (P_move u4) (.yes2 rfl rfl s3) rfl ?_
         refine EL_pur (v := .int .i64 (x3)) (P_move z6) (.yes2 rfl rfl s3) rfl ?_
         refine EL_pur (v := .bool ((decide ((w64 ((w64 ((w64 n0) + x2)) - j0)) < x3)))) (P_int rfl rfl rfl) (.yes2 rfl rfl s3) rfl ?_
         refine EL_pur (v := .bool ((decide ((w64 ((w64 ((w64 n0) + x2)) - j0)) < x3)))) (P_pick (b := (decide ((w64 n0) < (w64 ((w64 ((w64 n0) + x2)) - j0))))) rfl (pick_t s3 rfl)) .plain rfl ?_
         refine EL_nil ?_
         obtain rfl := Option.some.inj h
         exact hQ _ _ ⟨lF, hfr, qA, rA, z6, sA, i6, u4, rfl⟩
        ·refine EL_skip (.no2 rfl rfl s3 rfl) rfl ?_
         refine EL_skip (.no2 rfl rfl s3 rfl) rfl ?_
         refine EL_skip (.no2 rfl rfl s3 rfl) rfl ?_
         refine EL_pur (v := .bool false) (P_pick (b := (decide ((w64 n0) < (w64 ((w64 ((w64 n0) + x2)) - j0))))) rfl (pick_f s3 rfl)) .plain rfl ?_
         refine EL_nil ?_
         obtain rfl := Option.some.inj h
         exact hQ _ _ ⟨lF, hfr, qA, rA, z6, sA, i6, u4, rfl⟩
       ·clear hx
        obtain ⟨yH, hfr, mF, tA, nF, oF, sC, tC, a7⟩ := hR
        rcases csome h with ⟨t8, h⟩ | ⟨t8, h⟩
        ·refine E_cond_true (Eq.trans (show ev _ _ = .bool (c4) from a7) (congrArg Value.bool t8)) ?_
         refine E_region (EL_pur (v := up0) (P_move mF) .plain rfl ?_)
         refine EL_pur (v := .int .i64 ((w64 n0))) (P_move sC) .plain rfl ?_
         refine EL_pur (v := .int .i64 ((w64 ((w64 ((w64 n0) + x2)) - j0)))) (P_move tC) .plain rfl ?_
         refine EL_pur (v := .int .i64 (x3)) (P_move nF) .plain rfl ?_
         refine EL_pur (v := (.func (.func ff4) fa4 fc4)) (P_move oF) .plain rfl ?_
         obtain ⟨aD, tG, h⟩ := bsome h
         refine EL_do .plain rfl (D_callM (g := yH) (i := 1) (vs := [up0, .int .i64 ((w64 n0)), .int .i64 ((w64 ((w64 ((w64 n0) + x2)) - j0))), .int .i64 (x3), (.func (.func ff4) fa4 fc4)]) en108 (.cons rfl (.cons rfl (.cons rfl (.cons rfl (.cons rfl .nil))))) (ih tA (FnV2.ch ⟨_, _, _, rfl, fen4, fcl4⟩ hfr.ch) tG) fun dL jJ eL hs hr => ?_)
         obtain ⟨hrv, b940⟩ := hr
         subst hrv
         have hfr := hfr.stp hs
         refine EL_nil ?_
         obtain rfl := Option.some.inj h
         exact end0n rfl rfl ⟨_, hfr, rfl, j6.back b940⟩
        ·refine E_cond_false (Eq.trans (show ev _ _ = .bool (c4) from a7) (congrArg Value.bool t8)) ?_
         refine E_skip ?_
         obtain rfl := Option.some.inj h
         exact end0n rfl rfl ⟨_, hfr, rfl, j6.back tA⟩
/-- griffe/grifferef05.Check -/
def f23 (x0 : FaultLoom) (x1 : List FaultDamage) : Option (Int) :=
 jn (σ := Unit) (fun (_ : Unit) =>
  jn (σ := Unit) (fun (_ : Unit) =>
   jn (σ := Unit) (fun (_ : Unit) =>
    some ((0 : Int))
    ) fun j4 =>
   lp (σ := Int) (fun m4 j0 =>
    jn (σ := Unit) (fun (_ : Unit) =>
     jn (σ := Unit) (fun (_ : Unit) =>
      m4 ((w64 (j0 + (1 : Int))))
      ) fun n4 =>
     (idx x1 j0).bind fun o4 =>
     (f59 x0 o4).bind fun u0 =>
     bif (!u0) then
      some ((2 : Int))
     else
      n4 ()
     ) fun p4 =>
    bif (decide (j0 < ((x1).length : Int))) then
     p4 ()
    else
     j4 ()
    ) big ((0 : Int))
   ) fun q4 =>
  bif (decide (((x1).length : Int) > (100 : Int))) then
   some ((5 : Int))
  else
   q4 ()
  ) fun k6 =>
 (f33 x0).bind fun y9 =>
 bif (y9 != (0 : Int)) then
  some (y9)
 else
  k6 ()
theorem en23 : Enters Try.prog 23 := enters_of Try.func23 (by kernel_rfl) rfl
theorem wk23 {gI : Gh} {wI : World} {x0 : FaultLoom} {x1 : List FaultDamage} {up0 : Value} (rp0 : RV gI.m wI x0 up0) {up1 : Value} (rp1 : RV gI.m wI x1 up1) {r : Int} (h : f23 x0 x1 = some r) : Fn Try.prog 23 #[up0, up1] gI wI (fun _ _ v => v = .int .i64 (r)) := by
 unfold f23 at h
 refine fn_of_E Try.func23 rfl (Nat.le_of_ble_eq_true rfl) fun g0 hm hfr => ?_
 have rp0 : RV g0.m wI x0 up0 := hm ▸ rp0
 have rp1 : RV g0.m wI x1 up1 := hm ▸ rp1
 show E _ 28 none _ _ _ _ _
 refine E_seq (E_region (EL_do .plain rfl (D_box (g := g0) rfl rp0 fun g1 w1 p1 hs q1 => ?_)))
 have hfr := hfr.ext hs
 have rp0 := rp0.ext hs
 have rp1 := rp1.ext hs
 refine EL_pur (v := .int .i64 (0)) (P_assign rfl) .plain rfl ?_
 refine EL_nil (thn_n (E_joinC h (fun (s : Unit) e w => ∃ (g : Gh) , Fr gI wI g w ∧ e 1 = up1 ∧ RV g.m w (x1 : List FaultDamage) up1 ∧ e 2 = p1 ∧ PT g.m w (x0 : FaultLoom) p1) (fun X6 k6 m5 h => ?_) ?_))
 ·refine E_seq (E_region (EL_do .plain rfl (D_load (g := g1) Try.isAgg28 Try.sizeOf28 rfl q1 fun v7 r7 => ?_)))
  obtain ⟨y9, n5, h⟩ := bsome h
  refine EL_do .plain rfl (D_call (g := g1) (vs := [v7]) en33 (.cons rfl .nil) (wk33 r7 n5) fun g8 w8_ v8 hs hr => ?_)
  have hfr := hfr.ext hs
  have rp0 := rp0.ext hs
  have rp1 := rp1.ext hs
  have q1 := q1.ext hs
  have r7 := r7.ext hs
  subst hr
  refine EL_pur (v := .int .i64 (y9)) (P_assign rfl) .plain rfl ?_
  refine EL_nil (thn_n (E_seq (E_region (EL_pur (v := .int .i64 (y9)) (P_move rfl) .plain rfl ?_))))
  refine EL_pur (v := .bool ((y9 != (0 : Int)))) (P_int rfl rfl rfl) .plain rfl ?_
  refine EL_nil (thn_n ?_)
  rcases csome h with ⟨i1, h⟩ | ⟨i1, h⟩
  ·refine E_cond_true (Eq.trans (show ev _ _ = .bool ((y9 != (0 : Int))) from rfl) (congrArg Value.bool i1)) ?_
   refine E_seq (E_region (EL_pur (v := .int .i64 (y9)) (P_move rfl) .plain rfl ?_))
   refine EL_pur (v := .int .i64 (y9)) (P_assign rfl) .plain rfl ?_
   refine EL_nil (thn_n (E_ret (thn_r ?_)))
   obtain rfl := Option.some.inj h
   exact end1 rfl rfl (show _ = .int .i64 (y9) from rfl) ⟨_, hfr, rfl⟩
  ·refine E_cond_false (Eq.trans (show ev _ _ = .bool ((y9 != (0 : Int))) from rfl) (congrArg Value.bool i1)) ?_
   exact E_skip (thn_n (m5 () _ _ ⟨g8, hfr, rfl, rp1, rfl, q1⟩ h))
 ·rintro _ x5 e6 ⟨o5, hfr, z1, d2, r3, s3⟩ h
  refine E_joinC h (fun (s : Unit) e w => ∃ (g : Gh) , Fr gI wI g w ∧ e 1 = up1 ∧ RV g.m w (x1 : List FaultDamage) up1 ∧ e 2 = p1 ∧ PT g.m w (x0 : FaultLoom) p1) (fun X13 q4 x4 h => ?_) ?_
  ·refine E_seq (E_region (EL_pur (v := up1) (P_move z1) .plain rfl ?_))
   refine EL_pur (v := .int .i64 ((x1).length : Int)) (P_len Try.underlying29 rfl d2) .plain rfl ?_
   refine EL_pur (v := .bool ((decide (((x1).length : Int) > (100 : Int))))) (P_int rfl rfl rfl) .plain rfl ?_
   refine EL_nil (thn_n ?_)
   rcases csome h with ⟨j1, h⟩ | ⟨j1, h⟩
   ·refine E_cond_true (Eq.trans (show ev _ _ = .bool ((decide (((x1).length : Int) > (100 : Int)))) from rfl) (congrArg Value.bool j1)) ?_
    refine E_seq (E_region (EL_pur (v := .int .i64 (5)) (P_assign rfl) .plain rfl ?_))
    refine EL_nil (thn_n (E_ret (thn_r ?_)))
    obtain rfl := Option.some.inj h
    exact end1 rfl rfl (show _ = .int .i64 (5) from rfl) ⟨_, hfr, rfl⟩
   ·refine E_cond_false (Eq.trans (show ev _ _ = .bool ((decide (((x1).length : Int) > (100 : Int)))) from rfl) (congrArg Value.bool j1)) ?_
    exact E_skip (thn_n (x4 () _ _ ⟨o5, hfr, z1, d2, r3, s3⟩ h))
  ·rintro _ y5 i6 ⟨p5, hfr, u3, z3, c4, d4⟩ h
   refine E_joinC h (fun (s : Unit) e w => ∃ (g : Gh) , Fr gI wI g w) (fun X60 j4 z4 h => ?_) ?_
   ·refine E_seq (E_region (EL_pur (v := .int .i64 (0)) (P_assign rfl) .plain rfl ?_))
    refine EL_nil (thn_n (E_block ?_))
    refine E_lp h (fun (s : Int) e w => ∃ (g : Gh) , Fr gI wI g w ∧ e 1 = up1 ∧ RV g.m w (x1 : List FaultDamage) up1 ∧ e 2 = p1 ∧ PT g.m w (x0 : FaultLoom) p1 ∧ e 6 = .int .i64 (s)) ⟨p5, hfr, u3, z3, c4, d4, rfl⟩ (fun X61 m4 b5 => ?_)
    rintro j0 z5 j6 ⟨r4, hfr, i2, j2, e4, i4, m2⟩ h
    refine E_joinC h (fun (s : Unit) e w => ∃ (g : Gh) , Fr gI wI g w ∧ e 1 = up1 ∧ RV g.m w (x1 : List FaultDamage) up1 ∧ e 2 = p1 ∧ PT g.m w (x0 : FaultLoom) p1 ∧ e 6 = .int .i64 (j0)) (fun X64 p4 c5 h => ?_) ?_
    ·refine E_seq (E_region (EL_pur (v := .int .i64 (j0)) (P_move m2) .plain rfl ?_))
     refine EL_pur (v := up1) (P_move i2) .plain rfl ?_
     refine EL_pur (v := .int .i64 ((x1).length : Int)) (P_len Try.underlying29 rfl j2) .plain rfl ?_
     refine EL_pur (v := .bool ((decide (j0 < ((x1).length : Int))))) (P_int rfl rfl rfl) .plain rfl ?_
     refine EL_nil (thn_n ?_)
     rcases csome h with ⟨m1, h⟩ | ⟨m1, h⟩
     ·refine E_cond_true (Eq.trans (show ev _ _ = .bool ((decide (j0 < ((x1).length : Int)))) from rfl) (congrArg Value.bool m1)) ?_
      exact E_skip (thn_n (c5 () _ _ ⟨r4, hfr, i2, j2, e4, i4, m2⟩ h))
     ·refine E_cond_false (Eq.trans (show ev _ _ = .bool ((decide (j0 < ((x1).length : Int)))) from rfl) (congrArg Value.bool m1)) ?_
      refine E_exit ?_
      refine thn_e ?_
      refine thn_e ?_
      refine blk_hit ?_
      exact thn_n (z4 () _ _ ⟨r4, hfr⟩ h)
    ·rintro _ a6 l6 ⟨q5, hfr, p2, n0, q2, o0, s2⟩ h
     refine E_joinC h (fun (s : Unit) e w => ∃ (g : Gh) , Fr gI wI g w ∧ e 1 = up1 ∧ RV g.m w (x1 : List FaultDamage) up1 ∧ e 2 = p1 ∧ PT g.m w (x0 : FaultLoom) p1 ∧ e 6 = .int .i64 (j0)) (fun X85 n4 d5 h => ?_) ?_
     ·refine E_block ?_
      refine E_seq (L_load (x := .tmp 2) Try.isAgg28 Try.sizeOf28 o0 fun s4 z2 e5 => ?_)
      obtain ⟨o4, d3, h⟩ := bsome h
      have e3 := PT_idx n0 d3
      refine L_load (x := .tmp 24) Try.isAgg62 Try.sizeOf62 e3 fun u4 i3 i5 => ?_
      obtain ⟨u0, j5, h⟩ := bsome h
      refine E_drawL (g := q5) (n := 7) [(5, (fun v g w => v = .bool (u0)))] [0, 1, 2, 3, 4, 5, 6] rfl mixed (by kernel_rfl) (⟨fun _ => up_eq _, trivial⟩) ?_
      refine L_ld (c := s4) rfl rfl .plain (fun _ _ h => h.ch) e5 q2 ?_
      refine L_pur (c := up1) rfl rfl .plain (fun _ _ hd => P_move p2) ?_
      refine L_pur (c := .int .i64 (j0)) rfl rfl .plain (fun _ _ hd => P_move s2) ?_
      refine L_pur (c := ePtr up1 j0 5) rfl rfl .plain (fun _ _ hd => P_indexAddr (α := FaultDamage) Try.underlying29 Try.sizeOf62 rfl n0 rfl d3) ?_
      refine L_ld (c := u4) rfl rfl .plain (fun _ _ h => h.ch) i5 rfl ?_
      refine L_do (φ := fun v g w => v = .bool (u0)) rfl rfl .plain (fun g w hd => D_call (g := g) (vs := [s4, u4]) en59 (.cons rfl (.cons rfl .nil)) (wk59 (z2.ext hd.1) (i3.ext hd.1) j5) fun g' w' v hs hr => ⟨g', hs, hr⟩) (fun m6 hv => ?_)
      obtain ⟨_, _, _, rfl⟩ := hv
      refine L_pur (c := .bool (!u0)) rfl rfl .plain (fun _ _ hd => P_not rfl) ?_
      refine L_nil fun r5 n6 hall => ?_
      have hs := hall.1
      have hfr := hfr.ext hs
      have n0 := n0.ext hs
      have o0 := o0.ext hs
      have z2 := z2.ext hs
      have e3 := e3.ext hs
      have i3 := i3.ext hs
      clear hs hall
      refine EL_nil (thn_n ?_)
      rcases csome h with ⟨y0, h⟩ | ⟨y0, h⟩
      ·refine E_cond_true (Eq.trans (show ev _ _ = .bool ((!u0)) from rfl) (congrArg Value.bool y0)) ?_
       refine E_seq (E_region (EL_pur (v := .int .i64 (2)) (P_assign rfl) .plain rfl ?_))
       refine EL_nil (thn_n (E_ret (blk_r ?_)))
       refine thn_r ?_
       refine thn_r ?_
       refine blk_r ?_
       refine thn_r ?_
       obtain rfl := Option.some.inj h
       exact end1 rfl rfl (show _ = .int .i64 (2) from rfl) ⟨_, hfr, rfl⟩
      ·refine E_cond_false (Eq.trans (show ev _ _ = .bool ((!u0)) from rfl) (congrArg Value.bool y0)) ?_
       exact E_skip (blk_n (thn_n (d5 () _ _ ⟨r5, hfr, p2, n0, q2, o0, s2⟩ h)))
     ·rintro _ t5 b6 ⟨l5, hfr, j3, m3, o3, p3, q3⟩ h
      refine E_region (EL_pur (v := .int .i64 (j0)) (P_move q3) .plain rfl ?_)
      refine EL_pur (v := .int .i64 ((w64 (j0 + (1 : Int))))) (P_int rfl rfl rfl) .plain rfl ?_
      refine EL_pur (v := .int .i64 ((w64 (j0 + (1 : Int))))) (P_assign rfl) .plain rfl ?_
      exact EL_nil (thn_n (b5 ((w64 (j0 + (1 : Int)))) _ _ ⟨l5, hfr, j3, m3, o3, p3, rfl⟩ h))
   ·rintro _ u5 c6 ⟨d6, hfr⟩ h
    refine E_seq (E_region (EL_pur (v := .int .i64 (0)) (P_assign rfl) .plain rfl ?_))
    refine EL_nil (thn_n (E_ret ?_))
    obtain rfl := Option.some.inj h
    exact end1 rfl rfl (show _ = .int .i64 (0) from rfl) ⟨_, hfr, rfl⟩
/-- griffe/fault.checkLoom -/
def f50 (x0 : FaultLoom) : Option (Int) :=
 jn (σ := Unit) (fun (_ : Unit) =>
  jn (σ := Unit) (fun (_ : Unit) =>
   jn (σ := Unit) (fun (_ : Unit) =>
    some ((0 : Int))
    ) fun k33 =>
   bif (((x0).Harness).Hooks != ((x0).Design).Hooks) then
    some ((4 : Int))
   else
    k33 ()
   ) fun k19 =>
  (f74 ((x0).Design)).bind fun y23 =>
  bif (y23 != (0 : Int)) then
   some (y23)
  else
   k19 ()
  ) fun k7 =>
 (f73 ((x0).Harness)).bind fun y11 =>
 bif (y11 != (0 : Int)) then
  some (y11)
 else
  k7 ()
theorem en50 : Enters Try.prog 50 := enters_of Try.func50 (by kernel_rfl) rfl
theorem wk50 {gI : Gh} {wI : World} {x0 : FaultLoom} {up0 : Value} (rp0 : RV gI.m wI x0 up0) {r : Int} (h : f50 x0 = some r) : Fn Try.prog 50 #[up0] gI wI (fun _ _ v => v = .int .i64 (r)) := by
 unfold f50 at h
 refine fn_of_E Try.func50 rfl (Nat.le_of_ble_eq_true rfl) fun g0 hm hfr => ?_
 have rp0 : RV g0.m wI x0 up0 := hm ▸ rp0
 show E _ 24 none _ _ _ _ _
 refine E_seq (E_region (EL_do .plain rfl (D_box (g := g0) rfl rp0 fun g1 w1 p1 hs q1 => ?_)))
 have hfr := hfr.ext hs
 have rp0 := rp0.ext hs
 refine EL_pur (v := .int .i64 (0)) (P_assign rfl) .plain rfl ?_
 refine EL_nil (thn_n (E_joinC h (fun (s : Unit) e w => ∃ (g : Gh) , Fr gI wI g w ∧ e 1 = p1 ∧ PT g.m w (x0 : FaultLoom) p1) (fun X7 k7 d3 h => ?_) ?_))
 ·refine E_seq (E_region (EL_pur (v := fPtr p1 0) (P_fieldAddr at_28_0 rfl (PT.ptr q1)) .plain rfl ?_))
  have q8 := PT_field (part_FaultLoom_0).1 q1
  refine EL_do .plain rfl (D_load (g := g1) Try.isAgg24 Try.sizeOf24 rfl q8 fun v9 r9 => ?_)
  obtain ⟨y11, p2, h⟩ := bsome h
  refine EL_do .plain rfl (D_call (g := g1) (vs := [v9]) en73 (.cons rfl .nil) (wk73 r9 p2) fun e3 r3 d4 hs hr => ?_)
  have hfr := hfr.ext hs
  have rp0 := rp0.ext hs
  have q1 := q1.ext hs
  have q8 := q8.ext hs
  have r9 := r9.ext hs
  subst hr
  refine EL_pur (v := .int .i64 (y11)) (P_assign rfl) .plain rfl ?_
  refine EL_nil (thn_n (E_seq (E_region (EL_pur (v := .int .i64 (y11)) (P_move rfl) .plain rfl ?_))))
  refine EL_pur (v := .bool ((y11 != (0 : Int)))) (P_int rfl rfl rfl) .plain rfl ?_
  refine EL_nil (thn_n ?_)
  rcases csome h with ⟨o0, h⟩ | ⟨o0, h⟩
  ·refine E_cond_true (Eq.trans (show ev _ _ = .bool ((y11 != (0 : Int))) from rfl) (congrArg Value.bool o0)) ?_
   refine E_seq (E_region (EL_pur (v := .int .i64 (y11)) (P_move rfl) .plain rfl ?_))
   refine EL_pur (v := .int .i64 (y11)) (P_assign rfl) .plain rfl ?_
   refine EL_nil (thn_n (E_ret (thn_r ?_)))
   obtain rfl := Option.some.inj h
   exact end1 rfl rfl (show _ = .int .i64 (y11) from rfl) ⟨_, hfr, rfl⟩
  ·refine E_cond_false (Eq.trans (show ev _ _ = .bool ((y11 != (0 : Int))) from rfl) (congrArg Value.bool o0)) ?_
   exact E_skip (thn_n (d3 () _ _ ⟨e3, hfr, rfl, q1⟩ h))
 ·rintro _ s3 e4 ⟨i2, hfr, i1, j0⟩ h
  refine E_joinC h (fun (s : Unit) e w => ∃ (g : Gh) , Fr gI wI g w ∧ e 1 = p1 ∧ PT g.m w (x0 : FaultLoom) p1) (fun X19 k19 q2 h => ?_) ?_
  ·refine E_seq (E_region (EL_pur (v := fPtr p1 2) (P_fieldAddr at_28_1 i1 (PT.ptr j0)) .plain rfl ?_))
   have m1 := PT_field (part_FaultLoom_1).1 j0
   refine EL_do .plain rfl (D_load (g := i2) Try.isAgg26 Try.sizeOf26 rfl m1 fun i3 z1 => ?_)
   obtain ⟨y23, s2, h⟩ := bsome h
   refine EL_do .plain rfl (D_call (g := i2) (vs := [i3]) en74 (.cons rfl .nil) (wk74 z1 s2) fun j3 u3 i4 hs hr => ?_)
   have hfr := hfr.ext hs
   have j0 := j0.ext hs
   have m1 := m1.ext hs
   have z1 := z1.ext hs
   subst hr
   refine EL_pur (v := .int .i64 (y23)) (P_assign rfl) .plain rfl ?_
   refine EL_nil (thn_n (E_seq (E_region (EL_pur (v := .int .i64 (y23)) (P_move rfl) .plain rfl ?_))))
   refine EL_pur (v := .bool ((y23 != (0 : Int)))) (P_int rfl rfl rfl) .plain rfl ?_
   refine EL_nil (thn_n ?_)
   rcases csome h with ⟨u0, h⟩ | ⟨u0, h⟩
   ·refine E_cond_true (Eq.trans (show ev _ _ = .bool ((y23 != (0 : Int))) from rfl) (congrArg Value.bool u0)) ?_
    refine E_seq (E_region (EL_pur (v := .int .i64 (y23)) (P_move rfl) .plain rfl ?_))
    refine EL_pur (v := .int .i64 (y23)) (P_assign rfl) .plain rfl ?_
    refine EL_nil (thn_n (E_ret (thn_r ?_)))
    obtain rfl := Option.some.inj h
    exact end1 rfl rfl (show _ = .int .i64 (y23) from rfl) ⟨_, hfr, rfl⟩
   ·refine E_cond_false (Eq.trans (show ev _ _ = .bool ((y23 != (0 : Int))) from rfl) (congrArg Value.bool u0)) ?_
    exact E_skip (thn_n (q2 () _ _ ⟨j3, hfr, i1, j0⟩ h))
  ·rintro _ z3 j4 ⟨d2, hfr, j1, n0⟩ h
   refine E_joinC h (fun (s : Unit) e w => ∃ (g : Gh) , Fr gI wI g w) (fun X33 k33 z2 h => ?_) ?_
   ·refine E_seq (E_region (EL_pur (v := fPtr p1 0) (P_fieldAddr at_28_0 j1 (PT.ptr n0)) .plain rfl ?_))
    have j2 := PT_field (part_FaultLoom_0).1 n0
    refine EL_pur (v := fPtr (fPtr p1 0) 0) (P_fieldAddr at_24_0 rfl (PT.ptr j2)) .plain rfl ?_
    have m3 := PT_field (part_TieHarness_0).1 j2
    refine EL_do .plain rfl (D_load (g := d2) Try.isAgg3 Try.sizeOf3 rfl m3 fun m4 o3 => ?_)
    obtain rfl := RV_int.1 o3
    refine EL_pur (v := fPtr p1 2) (P_fieldAddr at_28_1 j1 (PT.ptr n0)) .plain rfl ?_
    have m2 := PT_field (part_FaultLoom_1).1 n0
    refine EL_pur (v := fPtr (fPtr p1 2) 0) (P_fieldAddr at_26_0 rfl (PT.ptr m2)) .plain rfl ?_
    have p3 := PT_field (part_Design_0).1 m2
    refine EL_do .plain rfl (D_load (g := d2) Try.isAgg3 Try.sizeOf3 rfl p3 fun n4 q3 => ?_)
    obtain rfl := RV_int.1 q3
    refine EL_pur (v := .bool ((((x0).Harness).Hooks != ((x0).Design).Hooks))) (P_int rfl rfl rfl) .plain rfl ?_
    refine EL_nil (thn_n ?_)
    rcases csome h with ⟨y0, h⟩ | ⟨y0, h⟩
    ·refine E_cond_true (Eq.trans (show ev _ _ = .bool ((((x0).Harness).Hooks != ((x0).Design).Hooks)) from rfl) (congrArg Value.bool y0)) ?_
     refine E_seq (E_region (EL_pur (v := .int .i64 (4)) (P_assign rfl) .plain rfl ?_))
     refine EL_nil (thn_n (E_ret (thn_r ?_)))
     obtain rfl := Option.some.inj h
     exact end1 rfl rfl (show _ = .int .i64 (4) from rfl) ⟨_, hfr, rfl⟩
    ·refine E_cond_false (Eq.trans (show ev _ _ = .bool ((((x0).Harness).Hooks != ((x0).Design).Hooks)) from rfl) (congrArg Value.bool y0)) ?_
     exact E_skip (thn_n (z2 () _ _ ⟨d2, hfr⟩ h))
   ·rintro _ c4 o4 ⟨p4, hfr⟩ h
    refine E_seq (E_region (EL_pur (v := .int .i64 (0)) (P_assign rfl) .plain rfl ?_))
    refine EL_nil (thn_n (E_ret ?_))
    obtain rfl := Option.some.inj h
    exact end1 rfl rfl (show _ = .int .i64 (0) from rfl) ⟨_, hfr, rfl⟩
/-- (griffe/fault.loom).isDamage -/
def f52 (x0 : FaultFaultLoom) (x1 : FaultDamage) : Option (Bool) :=
 Option.bind (α := FaultDamage × Bool) (
  bif ((x1).Kind == (1 : Int)) then
   some ({ { (⟨(x1).Kind, 0, 0, 0, false⟩ : FaultDamage) with Pick := (x1).Pick } with Hook := (x1).Hook }, true)
  else
   bif ((x1).Kind == (2 : Int)) then
    some ({ { (⟨(x1).Kind, 0, 0, 0, false⟩ : FaultDamage) with Hook := (x1).Hook } with Up := (x1).Up }, true)
   else
    Option.bind (α := Bool) (
     bif ((x1).Kind == (3 : Int)) then
      some (((x1).Kind == (3 : Int)))
     else
      some (((x1).Kind == (4 : Int)))
     ) fun p3 =>
    bif p3 then
     some ({ (⟨(x1).Kind, 0, 0, 0, false⟩ : FaultDamage) with Pick := (x1).Pick }, true)
    else
     bif ((x1).Kind == (5 : Int)) then
      some ({ (⟨(x1).Kind, 0, 0, 0, false⟩ : FaultDamage) with Warp := (x1).Warp }, true)
     else
      some ((⟨(x1).Kind, 0, 0, 0, false⟩ : FaultDamage), false)
  ) fun (z2, e3) =>
 Option.bind (α := Bool) (
  bif e3 then
   bif (decide (x1 = z2)) then
    (f62 ((0 : Int)) ((w64 ((((((x0).FaultLoom).Design).Rows).length : Int) - (1 : Int)))) (([(x1).Pick] : List Int))).bind fun n4 =>
    bif n4 then
     (f62 ((0 : Int)) ((w64 ((((x0).FaultLoom).Design).Hooks - (1 : Int)))) (([(x1).Hook] : List Int))).bind fun o4 =>
     bif o4 then
      (f62 ((0 : Int)) ((w64 ((((((x0).FaultLoom).Harness).Warps).length : Int) - (1 : Int)))) (([(x1).Warp] : List Int))).bind fun j5 =>
      some (j5)
     else
      some (false)
    else
     some (false)
   else
    some (false)
  else
   some (false)
  ) fun i4 =>
 some (i4)
theorem en52 : Enters Try.prog 52 := enters_of Try.func52 (by kernel_rfl) rfl
theorem wk52 {gI : Gh} {wI : World} {x0 : FaultFaultLoom} {x1 : FaultDamage} {up0 : Value} (rp0 : RV gI.m wI x0 up0) {up1 : Value} (rp1 : RV gI.m wI x1 up1) {r : Bool} (h : f52 x0 x1 = some r) : Fn Try.prog 52 #[up0, up1] gI wI (fun _ _ v => v = .bool (r)) := by
 unfold f52 at h
 refine fn_of_E Try.func52 rfl (Nat.le_of_ble_eq_true rfl) fun g0 hm hfr => ?_
 have rp0 : RV g0.m wI x0 up0 := hm ▸ rp0
 have rp1 : RV g0.m wI x1 up1 := hm ▸ rp1
 show E _ 80 none _ _ _ _ _
 refine E_seq (E_region (EL_do .plain rfl (D_box (g := g0) rfl rp0 fun g1 w1 p1 hs q1 => ?_)))
 have hfr := hfr.ext hs
 have rp0 := rp0.ext hs
 have rp1 := rp1.ext hs
 refine EL_do .plain rfl (D_box (g := g1) rfl rp1 fun g2 w2 p2 hs q2 => ?_)
 have hfr := hfr.ext hs
 have rp0 := rp0.ext hs
 have rp1 := rp1.ext hs
 have q1 := q1.ext hs
 refine EL_pur (v := .bool false) (P_assign rfl) .plain rfl ?_
 refine EL_nil (thn_n (E_seq (E_region (EL_pur (v := fPtr p2 0) (P_fieldAddr at_62_0 rfl (PT.ptr q2)) .plain rfl ?_))))
 have q3 := PT_field (part_FaultDamage_0).1 q2
 refine EL_do .plain rfl (D_load (g := g2) Try.isAgg60 Try.sizeOf60 rfl q3 fun v4 r4 => ?_)
 obtain rfl := RV_int.1 r4
 have r5 : RV g2.m w2 (⟨(x1).Kind, 0, 0, 0, false⟩ : FaultDamage) (.agg (setCh [[.int .i64 0], [.int .i64 0], [.int .i64 0], [.int .i64 0], [.bool false]] [(0, .int .i64 ((x1).Kind))]).flatten.toArray) := RV_build rfl (rep_pair (rfl) (rep_pair (rep_int) (rep_pair (rep_int) (rep_pair (rep_int) (rep_last (rep_bool))))))
 generalize s7 : (Value.agg (setCh [[.int .i64 0], [.int .i64 0], [.int .i64 0], [.int .i64 0], [.bool false]] [(0, .int .i64 ((x1).Kind))]).flatten.toArray) = v5 at r5
 refine EL_pur (v := v5) (s7 ▸ P_build (vs := [(0, .int .i64 ((x1).Kind))]) [[.int .i64 0], [.int .i64 0], [.int .i64 0], [.int .i64 0], [.bool false]] lay_62 rfl rfl (.cons rfl .nil) ⟨⟨_, rfl, rfl⟩, trivial⟩) .plain rfl ?_
 refine EL_do .plain rfl (D_allocOc (g := g2) 2005 (⟨0, 0, 0, 0, false⟩ : FaultDamage) Try.zeroValue62 (fun m w => ⟨_, (rep_two rep_int (rep_two rep_int (rep_two rep_int (rep_two rep_int rep_bool)))), rfl⟩) fun g6 w6 p6 hs b6 cb => ?_)
 have hfr := hfr.stp hs
 have rp0 := rp0.stp hs
 have rp1 := rp1.stp hs
 have q1 := q1.stp hs
 have q2 := q2.stp hs
 have q3 := q3.stp hs
 have r5 := r5.stp hs
 clear cb
 refine EL_do .plain rfl (D_storeOc (g := g6) (v := v5) Try.sizeOf62 rfl b6 rfl r5 fun g7 w7 hs b7 cb => ?_)
 clear cb
 have hfr := hfr.stp hs
 have rp0 := rp0.stp hs
 have rp1 := rp1.stp hs
 have q1 := q1.stp hs
 have q2 := q2.stp hs
 have q3 := q3.stp hs
 have r5 := r5.stp hs
 refine EL_nil (thn_n (E_seq (E_region (EL_pur (v := .bool true) (P_assign rfl) .plain rfl ?_))))
 refine EL_nil (thn_n ?_)
 obtain ⟨⟨z2, e3⟩, hx, h⟩ := bsome h
 refine E_join (fun e w => ∃ (g : Gh) , Fr gI wI g w ∧ e 2 = p1 ∧ PT g.m w (x0 : FaultFaultLoom) p1 ∧ e 3 = p2 ∧ PT g.m w (x1 : FaultDamage) p2 ∧ e 5 = p6 ∧ OB 2005 g w 62 (z2 : FaultDamage) p6 ∧ e 6 = .bool (e3)) (fun Q' hQ => ?_) (fun y7 e8 hR => ?_)
 ·replace h := hx
  clear hx
  refine E_seq (E_region (EL_pur (v := fPtr p2 0) (P_fieldAddr at_62_0 rfl (PT.ptr q2)) .plain rfl ?_))
  have j4 := PT_field (part_FaultDamage_0).1 q2
  refine EL_do .plain rfl (D_load (g := g7) Try.isAgg60 Try.sizeOf60 rfl j4 fun n9 t7 => ?_)
  obtain rfl := RV_int.1 t7
  refine EL_nil (thn_n (E_block ?_))
  refine E_seq (E_region (EL_pur (v := .bool (((x1).Kind == (1 : Int)))) (P_int rfl rfl rfl) .plain rfl ?_))
  refine EL_pur (v := .bool (((x1).Kind == (1 : Int)))) (P_assign rfl) .plain rfl ?_
  refine EL_nil (thn_n ?_)
  rcases csome h with ⟨y5, h⟩ | ⟨y5, h⟩
  ·refine E_cond_true (Eq.trans (show ev _ _ = .bool (((x1).Kind == (1 : Int))) from rfl) (congrArg Value.bool y5)) ?_
   have t5 := PT_field (part_FaultDamage_1).1 q2
   refine L_load (x := .tmp 14) Try.isAgg3 Try.sizeOf3 t5 fun o9 u7 q6 => ?_
   obtain rfl := RV_int.1 u7
   have u5 := PT_field (part_FaultDamage_2).1 q2
   refine L_load (x := .tmp 16) Try.isAgg3 Try.sizeOf3 u5 fun p9 v7 r6 => ?_
   obtain rfl := RV_int.1 v7
   refine E_drawB (a0 := ((⟨(x1).Kind, 0, 0, 0, false⟩ : FaultDamage) : FaultDamage)) (a1 := ({ (⟨(x1).Kind, 0, 0, 0, false⟩ : FaultDamage) with Pick := (x1).Pick } : FaultDamage)) b7 (n := 6) [(5, (fun _ g w => OB 2005 g w 62 ({ (⟨(x1).Kind, 0, 0, 0, false⟩ : FaultDamage) with Pick := (x1).Pick } : FaultDamage) p6))] [0, 1, 2, 3, 4, 5] rfl mixed (by kernel_rfl) (⟨fun _ => up_box, trivial⟩) ?_
   refine L_pur (c := fPtr p2 1) rfl rfl .plain (fun _ _ hd => P_fieldAddr at_62_1 rfl (PT.ptr q2)) ?_
   refine L_ld (c := .int .i64 ((x1).Pick)) rfl rfl .plain (fun _ _ h => h.1.ch) q6 rfl ?_
   refine L_pur (c := fPtr p2 2) rfl rfl .plain (fun _ _ hd => P_fieldAddr at_62_2 rfl (PT.ptr q2)) ?_
   refine L_ld (c := .int .i64 ((x1).Hook)) rfl rfl .plain (fun _ _ h => h.1.ch) r6 rfl ?_
   refine L_pur (c := fPtr p6 1) rfl rfl .plain (fun _ _ hd => P_fieldAddr at_62_1 rfl (OB.ptr b7)) ?_
   refine L_do (φ := fun _ g w => OB 2005 g w 62 ({ (⟨(x1).Kind, 0, 0, 0, false⟩ : FaultDamage) with Pick := (x1).Pick } : FaultDamage) p6) rfl rfl .plain (fun g w hd => D_storeR (g := g) rfl rfl part_FaultDamage_1 Try.sizeOf3 rfl hd.1.2 rfl (RV_int.2 rfl)) (fun q9 hv => ?_)
   clear hv
   refine L_nil fun x7 r9 hall => ?_
   have hs := hall.1.1
   have hfr := hfr.stp hs
   have rp0 := rp0.stp hs
   have rp1 := rp1.stp hs
   have q1 := q1.stp hs
   have q2 := q2.stp hs
   have q3 := q3.stp hs
   have r5 := r5.stp hs
   have j4 := j4.stp hs
   have t5 := t5.stp hs
   have u5 := u5.stp hs
   have b104 := (word_all (A := fun g w => OB 2005 g w 62 ({ (⟨(x1).Kind, 0, 0, 0, false⟩ : FaultDamage) with Pick := (x1).Pick } : FaultDamage) p6) 5 rfl hall)
   clear hs hall
   refine EL_pur (v := fPtr p6 2) (P_fieldAddr at_62_2 rfl (OB.ptr b104)) .plain rfl ?_
   refine EL_do .plain rfl (D_storeFc (g := x7) part_FaultDamage_2 Try.sizeOf3 rfl b104 rfl (RV_int.2 rfl) fun s6 g8 hs b116 rst hos => ?_)
   clear rst hos
   have hfr := hfr.stp hs
   have rp0 := rp0.stp hs
   have rp1 := rp1.stp hs
   have q1 := q1.stp hs
   have q2 := q2.stp hs
   have q3 := q3.stp hs
   have r5 := r5.stp hs
   have j4 := j4.stp hs
   have t5 := t5.stp hs
   have u5 := u5.stp hs
   refine EL_nil (blk_n ?_)
   obtain ⟨rfl, rfl⟩ := pairs2 h
   exact hQ _ _ ⟨s6, hfr, rfl, q1, rfl, q2, rfl, b116, rfl⟩
  ·refine E_cond_false (Eq.trans (show ev _ _ = .bool (((x1).Kind == (1 : Int))) from rfl) (congrArg Value.bool y5)) ?_
   refine E_seq (E_region (EL_pur (v := .bool (((x1).Kind == (2 : Int)))) (P_int rfl rfl rfl) .plain rfl ?_))
   refine EL_pur (v := .bool (((x1).Kind == (2 : Int)))) (P_assign rfl) .plain rfl ?_
   refine EL_nil (thn_n ?_)
   rcases csome h with ⟨l5, h⟩ | ⟨l5, h⟩
   ·refine E_cond_true (Eq.trans (show ev _ _ = .bool (((x1).Kind == (2 : Int))) from rfl) (congrArg Value.bool l5)) ?_
    have s4 := PT_field (part_FaultDamage_2).1 q2
    refine L_load (x := .tmp 22) Try.isAgg3 Try.sizeOf3 s4 fun i8 t6 k6 => ?_
    obtain rfl := RV_int.1 t6
    have u4 := PT_field (part_FaultDamage_4).1 q2
    refine L_load (x := .tmp 24) Try.isAgg4 Try.sizeOf4 u4 fun j8 u6 l6 => ?_
    obtain rfl := RV_bool.1 u6
    refine E_drawB (a0 := ((⟨(x1).Kind, 0, 0, 0, false⟩ : FaultDamage) : FaultDamage)) (a1 := ({ (⟨(x1).Kind, 0, 0, 0, false⟩ : FaultDamage) with Hook := (x1).Hook } : FaultDamage)) b7 (n := 6) [(5, (fun _ g w => OB 2005 g w 62 ({ (⟨(x1).Kind, 0, 0, 0, false⟩ : FaultDamage) with Hook := (x1).Hook } : FaultDamage) p6))] [0, 1, 2, 3, 4, 5] rfl mixed (by kernel_rfl) (⟨fun _ => up_box, trivial⟩) ?_
    refine L_pur (c := fPtr p2 2) rfl rfl .plain (fun _ _ hd => P_fieldAddr at_62_2 rfl (PT.ptr q2)) ?_
    refine L_ld (c := .int .i64 ((x1).Hook)) rfl rfl .plain (fun _ _ h => h.1.ch) k6 rfl ?_
    refine L_pur (c := fPtr p2 4) rfl rfl .plain (fun _ _ hd => P_fieldAddr at_62_4 rfl (PT.ptr q2)) ?_
    refine L_ld (c := .bool ((x1).Up)) rfl rfl .plain (fun _ _ h => h.1.ch) l6 rfl ?_
    refine L_pur (c := fPtr p6 2) rfl rfl .plain (fun _ _ hd => P_fieldAddr at_62_2 rfl (OB.ptr b7)) ?_
    refine L_do (φ := fun _ g w => OB 2005 g w 62 ({ (⟨(x1).Kind, 0, 0, 0, false⟩ : FaultDamage) with Hook := (x1).Hook } : FaultDamage) p6) rfl rfl .plain (fun g w hd => D_storeR (g := g) rfl rfl part_FaultDamage_2 Try.sizeOf3 rfl hd.1.2 rfl (RV_int.2 rfl)) (fun k8 hv => ?_)
    clear hv
    refine L_nil fun v6 l8 hall => ?_
    have hs := hall.1.1
    have hfr := hfr.stp hs
    have rp0 := rp0.stp hs
    have rp1 := rp1.stp hs
    have q1 := q1.stp hs
    have q2 := q2.stp hs
    have q3 := q3.stp hs
    have r5 := r5.stp hs
    have j4 := j4.stp hs
    have s4 := s4.stp hs
    have u4 := u4.stp hs
    have b134 := (word_all (A := fun g w => OB 2005 g w 62 ({ (⟨(x1).Kind, 0, 0, 0, false⟩ : FaultDamage) with Hook := (x1).Hook } : FaultDamage) p6) 5 rfl hall)
    clear hs hall
    refine EL_pur (v := fPtr p6 4) (P_fieldAddr at_62_4 rfl (OB.ptr b134)) .plain rfl ?_
    refine EL_do .plain rfl (D_storeFc (g := v6) part_FaultDamage_4 Try.sizeOf4 rfl b134 rfl (RV_bool.2 rfl) fun x6 m8 hs b148 rst hos => ?_)
    clear rst hos
    have hfr := hfr.stp hs
    have rp0 := rp0.stp hs
    have rp1 := rp1.stp hs
    have q1 := q1.stp hs
    have q2 := q2.stp hs
    have q3 := q3.stp hs
    have r5 := r5.stp hs
    have j4 := j4.stp hs
    have s4 := s4.stp hs
    have u4 := u4.stp hs
    refine EL_nil (blk_n ?_)
    obtain ⟨rfl, rfl⟩ := pairs2 h
    exact hQ _ _ ⟨x6, hfr, rfl, q1, rfl, q2, rfl, b148, rfl⟩
   ·refine E_cond_false (Eq.trans (show ev _ _ = .bool (((x1).Kind == (2 : Int))) from rfl) (congrArg Value.bool l5)) ?_
    obtain ⟨p3, hx, h⟩ := bsome h
    refine E_join (fun e w => ∃ (g : Gh) , Fr gI wI g w ∧ e 2 = p1 ∧ PT g.m w (x0 : FaultFaultLoom) p1 ∧ e 3 = p2 ∧ PT g.m w (x1 : FaultDamage) p2 ∧ e 5 = p6 ∧ OB 2005 g w 62 ((⟨(x1).Kind, 0, 0, 0, false⟩ : FaultDamage) : FaultDamage) p6 ∧ e 6 = .bool (true) ∧ e 11 = .int .i64 ((x1).Kind) ∧ e 28 = .bool (p3)) (fun Q' hQ => ?_) (fun z7 n8 hR => ?_)
    ·replace h := hx
     clear hx
     refine E_seq (E_region (EL_pur (v := .bool (((x1).Kind == (3 : Int)))) (P_int rfl rfl rfl) .plain rfl ?_))
     refine EL_pur (v := .bool (((x1).Kind == (3 : Int)))) (P_assign rfl) .plain rfl ?_
     refine EL_nil (thn_n ?_)
     rcases csome h with ⟨m5, h⟩ | ⟨m5, h⟩
     ·refine E_cond_true (Eq.trans (show ev _ _ = .bool (((x1).Kind == (3 : Int))) from rfl) (congrArg Value.bool m5)) ?_
      refine E_skip ?_
      obtain rfl := Option.some.inj h
      exact hQ _ _ ⟨g7, hfr, rfl, q1, rfl, q2, rfl, b7, rfl, rfl, rfl⟩
     ·refine E_cond_false (Eq.trans (show ev _ _ = .bool (((x1).Kind == (3 : Int))) from rfl) (congrArg Value.bool m5)) ?_
      refine E_region (EL_pur (v := .bool (((x1).Kind == (4 : Int)))) (P_int rfl rfl rfl) .plain rfl ?_)
      refine EL_pur (v := .bool (((x1).Kind == (4 : Int)))) (P_assign rfl) .plain rfl ?_
      refine EL_nil ?_
      obtain rfl := Option.some.inj h
      exact hQ _ _ ⟨g7, hfr, rfl, q1, rfl, q2, rfl, b7, rfl, rfl, rfl⟩
    ·clear hx
     obtain ⟨x4, hfr, z4, i3, u3, j1, z3, c4, x5, d6, i5⟩ := hR
     rcases csome h with ⟨n5, h⟩ | ⟨n5, h⟩
     ·refine E_cond_true (Eq.trans (show ev _ _ = .bool (p3) from i5) (congrArg Value.bool n5)) ?_
      refine E_region (EL_pur (v := fPtr p2 1) (P_fieldAddr at_62_1 u3 (PT.ptr j1)) .plain rfl ?_)
      have z5 := PT_field (part_FaultDamage_1).1 j1
      refine EL_do .plain rfl (D_load (g := x4) Try.isAgg3 Try.sizeOf3 rfl z5 fun o8 y6 => ?_)
      obtain rfl := RV_int.1 y6
      refine EL_pur (v := fPtr p6 1) (P_fieldAddr at_62_1 z3 (OB.ptr c4)) .plain rfl ?_
      refine EL_do .plain rfl (D_storeFc (g := x4) part_FaultDamage_1 Try.sizeOf3 rfl c4 rfl (RV_int.2 rfl) fun z6 p8 hs b156 rst hos => ?_)
      clear rst hos
      have hfr := hfr.stp hs
      have i3 := i3.stp hs
      have j1 := j1.stp hs
      have z5 := z5.stp hs
      refine EL_nil (blk_n ?_)
      obtain ⟨rfl, rfl⟩ := pairs2 h
      exact hQ _ _ ⟨z6, hfr, z4, i3, u3, j1, z3, b156, x5⟩
     ·refine E_cond_false (Eq.trans (show ev _ _ = .bool (p3) from i5) (congrArg Value.bool n5)) ?_
      refine E_seq (E_region (EL_pur (v := .bool (((x1).Kind == (5 : Int)))) (P_int d6 rfl rfl) .plain rfl ?_))
      refine EL_pur (v := .bool (((x1).Kind == (5 : Int)))) (P_assign rfl) .plain rfl ?_
      refine EL_nil (thn_n ?_)
      rcases csome h with ⟨o5, h⟩ | ⟨o5, h⟩
      ·refine E_cond_true (Eq.trans (show ev _ _ = .bool (((x1).Kind == (5 : Int))) from rfl) (congrArg Value.bool o5)) ?_
       refine E_region (EL_pur (v := fPtr p2 3) (P_fieldAddr at_62_3 u3 (PT.ptr j1)) .plain rfl ?_)
       have a6 := PT_field (part_FaultDamage_3).1 j1
       refine EL_do .plain rfl (D_load (g := x4) Try.isAgg3 Try.sizeOf3 rfl a6 fun q8 a7 => ?_)
       obtain rfl := RV_int.1 a7
       refine EL_pur (v := fPtr p6 3) (P_fieldAddr at_62_3 z3 (OB.ptr c4)) .plain rfl ?_
       refine EL_do .plain rfl (D_storeFc (g := x4) part_FaultDamage_3 Try.sizeOf3 rfl c4 rfl (RV_int.2 rfl) fun c7 r8 hs b161 rst hos => ?_)
       clear rst hos
       have hfr := hfr.stp hs
       have i3 := i3.stp hs
       have j1 := j1.stp hs
       have a6 := a6.stp hs
       refine EL_nil (blk_n ?_)
       obtain ⟨rfl, rfl⟩ := pairs2 h
       exact hQ _ _ ⟨c7, hfr, z4, i3, u3, j1, z3, b161, x5⟩
      ·refine E_cond_false (Eq.trans (show ev _ _ = .bool (((x1).Kind == (5 : Int))) from rfl) (congrArg Value.bool o5)) ?_
       refine E_region (EL_pur (v := .bool false) (P_assign rfl) .plain rfl ?_)
       refine EL_nil (blk_n ?_)
       obtain ⟨rfl, rfl⟩ := pairs2 h
       exact hQ _ _ ⟨x4, hfr, z4, i3, u3, j1, z3, c4, rfl⟩
 ·clear hx
  obtain ⟨d4, hfr, b5, u0, m4, j0, e6, i1, i6⟩ := hR
  obtain ⟨i4, hx, h⟩ := bsome h
  refine E_join (fun e w => ∃ (g : Gh) , Fr gI wI g w ∧ e 4 = .bool (i4)) (fun Q' hQ => ?_) (fun a8 t8 hR => ?_)
  ·replace h := hx
   clear hx
   refine E_region (EL_pur (v := .bool (e3)) (P_move i6) .plain rfl ?_)
   refine EL_pur (v := .bool (e3)) (P_move rfl) .plain rfl ?_
   rcases csome h with ⟨d3, h⟩ | ⟨d3, h⟩
   ·refine EL_do (.yes2 rfl rfl d3) rfl (D_load (g := d4) Try.isAgg62 Try.sizeOf62 m4 j0 fun v8 d2 => ?_)
    refine EL_do (.yes2 rfl rfl d3) rfl (D_loadO (g := d4) Try.isAgg62 Try.sizeOf62 e6 i1 fun x8 i2 => ?_)
    refine EL_pur (v := .bool ((decide (x1 = z2)))) (P_seq seq_62 rfl eg_62 rfl rfl d2 i2) (.yes2 rfl rfl d3) rfl ?_
    refine EL_pur (v := .bool ((decide (x1 = z2)))) (P_pick (b := e3) rfl (pick_t d3 rfl)) .plain rfl ?_
    refine EL_pur (v := .bool ((decide (x1 = z2)))) (P_move rfl) .plain rfl ?_
    rcases csome h with ⟨n0, h⟩ | ⟨n0, h⟩
    ·refine EL_pur (v := fPtr p1 0) (P_fieldAddr at_98_0 b5 (PT.ptr u0)) (.yes2 rfl rfl n0) rfl ?_
     have m1 := PT_field (part_FaultFaultLoom_0).1 u0
     refine EL_pur (v := fPtr (fPtr p1 0) 2) (P_fieldAddr at_28_1 rfl (PT.ptr m1)) (.yes2 rfl rfl n0) rfl ?_
     have z1 := PT_field (part_FaultLoom_1).1 m1
     refine EL_pur (v := fPtr (fPtr (fPtr p1 0) 2) 1) (P_fieldAddr at_26_1 rfl (PT.ptr z1)) (.yes2 rfl rfl n0) rfl ?_
     have j2 := PT_field (part_Design_1).1 z1
     refine EL_do (.yes2 rfl rfl n0) rfl (D_load (g := d4) Try.isAgg22 Try.sizeOf22 rfl j2 fun y8 m2 => ?_)
     refine EL_pur (v := .int .i64 (((((x0).FaultLoom).Design).Rows).length : Int)) (P_len Try.underlying22 rfl m2) (.yes2 rfl rfl n0) rfl ?_
     refine EL_pur (v := .int .i64 ((w64 ((((((x0).FaultLoom).Design).Rows).length : Int) - (1 : Int))))) (P_int rfl rfl rfl) (.yes2 rfl rfl n0) rfl ?_
     refine EL_pur (v := fPtr p2 1) (P_fieldAddr at_62_1 m4 (PT.ptr j0)) (.yes2 rfl rfl n0) rfl ?_
     have s2 := PT_field (part_FaultDamage_1).1 j0
     refine EL_do (.yes2 rfl rfl n0) rfl (D_load (g := d4) Try.isAgg3 Try.sizeOf3 rfl s2 fun z8 d7 => ?_)
     obtain rfl := RV_int.1 d7
     refine EL_do (.yes2 rfl rfl n0) rfl (D_buildSlice (g := d4) 3054 (xs := ([(x1).Pick] : List Int)) (vs := [.int .i64 ((x1).Pick)]) Try.underlying22 Try.sizeOf3 Try.zeroValue3 rfl rfl (.cons rfl .nil) (RVs.cons (RV_int.2 rfl) RVs.nil) rfl rfl fun e7 a9 i7 hs o206 j3 hxt hfl => ?_)
     have hfr := hfr.stp hs
     have u0 := u0.stp hs
     have j0 := j0.stp hs
     have i1 := i1.stp hs rfl
     have d2 := d2.stp hs
     have i2 := i2.stp hs
     have m1 := m1.stp hs
     have z1 := z1.stp hs
     have j2 := j2.stp hs
     have m2 := m2.stp hs
     have s2 := s2.stp hs
     obtain ⟨n4, m6, h⟩ := bsome h
     refine EL_do (.yes2 rfl rfl n0) rfl (D_call (g := e7) (vs := [.int .i64 (0), .int .i64 ((w64 ((((((x0).FaultLoom).Design).Rows).length : Int) - (1 : Int)))), i7]) en62 (.cons rfl (.cons rfl (.cons rfl .nil))) (wk62 j3 m6) fun p5 b8 b9 hs hr => ?_)
     have hfr := hfr.ext hs
     have u0 := u0.ext hs
     have j0 := j0.ext hs
     have i1 := i1.ext hs
     have d2 := d2.ext hs
     have i2 := i2.ext hs
     have m1 := m1.ext hs
     have z1 := z1.ext hs
     have j2 := j2.ext hs
     have m2 := m2.ext hs
     have s2 := s2.ext hs
     have j3 := j3.ext hs
     have o206 := o206.ext hs
     subst hr
     refine EL_pur (v := .bool (n4)) (P_pick (b := (decide (x1 = z2))) rfl (pick_t n0 rfl)) .plain rfl ?_
     refine EL_pur (v := .bool (n4)) (P_move rfl) .plain rfl ?_
     rcases csome h with ⟨y0, h⟩ | ⟨y0, h⟩
     ·refine EL_pur (v := fPtr p1 0) (P_fieldAddr at_98_0 b5 (PT.ptr u0)) (.yes2 rfl rfl y0) rfl ?_
      have m3 := PT_field (part_FaultFaultLoom_0).1 u0
      refine EL_pur (v := fPtr (fPtr p1 0) 2) (P_fieldAddr at_28_1 rfl (PT.ptr m3)) (.yes2 rfl rfl y0) rfl ?_
      have o3 := PT_field (part_FaultLoom_1).1 m3
      refine EL_pur (v := fPtr (fPtr (fPtr p1 0) 2) 0) (P_fieldAddr at_26_0 rfl (PT.ptr o3)) (.yes2 rfl rfl y0) rfl ?_
      have r3 := PT_field (part_Design_0).1 o3
      refine EL_do (.yes2 rfl rfl y0) rfl (D_load (g := p5) Try.isAgg3 Try.sizeOf3 rfl r3 fun c9 j7 => ?_)
      obtain rfl := RV_int.1 j7
      refine EL_pur (v := .int .i64 ((w64 ((((x0).FaultLoom).Design).Hooks - (1 : Int))))) (P_int rfl rfl rfl) (.yes2 rfl rfl y0) rfl ?_
      refine EL_pur (v := fPtr p2 2) (P_fieldAddr at_62_2 m4 (PT.ptr j0)) (.yes2 rfl rfl y0) rfl ?_
      have s3 := PT_field (part_FaultDamage_2).1 j0
      refine EL_do (.yes2 rfl rfl y0) rfl (D_load (g := p5) Try.isAgg3 Try.sizeOf3 rfl s3 fun d9 l7 => ?_)
      obtain rfl := RV_int.1 l7
      refine EL_do (.yes2 rfl rfl y0) rfl (D_buildSlice (g := p5) 3065 (xs := ([(x1).Hook] : List Int)) (vs := [.int .i64 ((x1).Hook)]) Try.underlying22 Try.sizeOf3 Try.zeroValue3 rfl rfl (.cons rfl .nil) (RVs.cons (RV_int.2 rfl) RVs.nil) rfl rfl fun m7 e9 n7 hs o216 e4 hxt hfl => ?_)
      have hfr := hfr.stp hs
      have u0 := u0.stp hs
      have j0 := j0.stp hs
      have i1 := i1.stp hs rfl
      have d2 := d2.stp hs
      have i2 := i2.stp hs
      have m1 := m1.stp hs
      have z1 := z1.stp hs
      have j2 := j2.stp hs
      have m2 := m2.stp hs
      have s2 := s2.stp hs
      have j3 := j3.stp hs
      have o206 := o206.stp hs rfl
      have m3 := m3.stp hs
      have o3 := o3.stp hs
      have r3 := r3.stp hs
      have s3 := s3.stp hs
      obtain ⟨o4, n6, h⟩ := bsome h
      refine EL_do (.yes2 rfl rfl y0) rfl (D_call (g := m7) (vs := [.int .i64 (0), .int .i64 ((w64 ((((x0).FaultLoom).Design).Hooks - (1 : Int)))), n7]) en62 (.cons rfl (.cons rfl (.cons rfl .nil))) (wk62 e4 n6) fun q5 c8 g9 hs hr => ?_)
      have hfr := hfr.ext hs
      have u0 := u0.ext hs
      have j0 := j0.ext hs
      have i1 := i1.ext hs
      have d2 := d2.ext hs
      have i2 := i2.ext hs
      have m1 := m1.ext hs
      have z1 := z1.ext hs
      have j2 := j2.ext hs
      have m2 := m2.ext hs
      have s2 := s2.ext hs
      have j3 := j3.ext hs
      have o206 := o206.ext hs
      have m3 := m3.ext hs
      have o3 := o3.ext hs
      have r3 := r3.ext hs
      have s3 := s3.ext hs
      have e4 := e4.ext hs
      have o216 := o216.ext hs
      subst hr
      refine EL_pur (v := .bool (o4)) (P_pick (b := n4) rfl (pick_t y0 rfl)) .plain rfl ?_
      refine EL_pur (v := .bool (o4)) (P_move rfl) .plain rfl ?_
      rcases csome h with ⟨o0, h⟩ | ⟨o0, h⟩
      ·refine EL_pur (v := fPtr p1 0) (P_fieldAddr at_98_0 b5 (PT.ptr u0)) (.yes2 rfl rfl o0) rfl ?_
       have p4 := PT_field (part_FaultFaultLoom_0).1 u0
       refine EL_pur (v := fPtr (fPtr p1 0) 0) (P_fieldAddr at_28_0 rfl (PT.ptr p4)) (.yes2 rfl rfl o0) rfl ?_
       have q4 := PT_field (part_FaultLoom_0).1 p4
       refine EL_pur (v := fPtr (fPtr (fPtr p1 0) 0) 1) (P_fieldAddr at_24_1 rfl (PT.ptr q4)) (.yes2 rfl rfl o0) rfl ?_
       have c5 := PT_field (part_TieHarness_1).1 q4
       refine EL_do (.yes2 rfl rfl o0) rfl (D_load (g := q5) Try.isAgg22 Try.sizeOf22 rfl c5 fun i9 d5 => ?_)
       refine EL_pur (v := .int .i64 (((((x0).FaultLoom).Harness).Warps).length : Int)) (P_len Try.underlying22 rfl d5) (.yes2 rfl rfl o0) rfl ?_
       refine EL_pur (v := .int .i64 ((w64 ((((((x0).FaultLoom).Harness).Warps).length : Int) - (1 : Int))))) (P_int rfl rfl rfl) (.yes2 rfl rfl o0) rfl ?_
       refine EL_pur (v := fPtr p2 3) (P_fieldAddr at_62_3 m4 (PT.ptr j0)) (.yes2 rfl rfl o0) rfl ?_
       have e5 := PT_field (part_FaultDamage_3).1 j0
       refine EL_do (.yes2 rfl rfl o0) rfl (D_load (g := q5) Try.isAgg3 Try.sizeOf3 rfl e5 fun j9 o7 => ?_)
       obtain rfl := RV_int.1 o7
       refine EL_do (.yes2 rfl rfl o0) rfl (D_buildSlice (g := q5) 3077 (xs := ([(x1).Warp] : List Int)) (vs := [.int .i64 ((x1).Warp)]) Try.underlying22 Try.sizeOf3 Try.zeroValue3 rfl rfl (.cons rfl .nil) (RVs.cons (RV_int.2 rfl) RVs.nil) rfl rfl fun p7 k9 q7 hs o226 c6 hxt hfl => ?_)
       have hfr := hfr.stp hs
       have u0 := u0.stp hs
       have j0 := j0.stp hs
       have i1 := i1.stp hs rfl
       have d2 := d2.stp hs
       have i2 := i2.stp hs
       have m1 := m1.stp hs
       have z1 := z1.stp hs
       have j2 := j2.stp hs
       have m2 := m2.stp hs
       have s2 := s2.stp hs
       have j3 := j3.stp hs
       have o206 := o206.stp hs rfl
       have m3 := m3.stp hs
       have o3 := o3.stp hs
       have r3 := r3.stp hs
       have s3 := s3.stp hs
       have e4 := e4.stp hs
       have o216 := o216.stp hs rfl
       have p4 := p4.stp hs
       have q4 := q4.stp hs
       have c5 := c5.stp hs
       have d5 := d5.stp hs
       have e5 := e5.stp hs
       obtain ⟨j5, o6, h⟩ := bsome h
       refine EL_do (.yes2 rfl rfl o0) rfl (D_call (g := p7) (vs := [.int .i64 (0), .int .i64 ((w64 ((((((x0).FaultLoom).Harness).Warps).length : Int) - (1 : Int)))), q7]) en62 (.cons rfl (.cons rfl (.cons rfl .nil))) (wk62 c6 o6) fun r7 d8 l9 hs hr => ?_)
       have hfr := hfr.ext hs
       have u0 := u0.ext hs
       have j0 := j0.ext hs
       have i1 := i1.ext hs
       have d2 := d2.ext hs
       have i2 := i2.ext hs
       have m1 := m1.ext hs
       have z1 := z1.ext hs
       have j2 := j2.ext hs
       have m2 := m2.ext hs
       have s2 := s2.ext hs
       have j3 := j3.ext hs
       have o206 := o206.ext hs
       have m3 := m3.ext hs
       have o3 := o3.ext hs
       have r3 := r3.ext hs
       have s3 := s3.ext hs
       have e4 := e4.ext hs
       have o216 := o216.ext hs
       have p4 := p4.ext hs
       have q4 := q4.ext hs
       have c5 := c5.ext hs
       have d5 := d5.ext hs
       have e5 := e5.ext hs
       have c6 := c6.ext hs
       have o226 := o226.ext hs
       subst hr
       refine EL_pur (v := .bool (j5)) (P_pick (b := o4) rfl (pick_t o0 rfl)) .plain rfl ?_
       refine EL_pur (v := .bool (j5)) (P_assign rfl) .plain rfl ?_
       refine EL_nil ?_
       obtain rfl := Option.some.inj h
       exact hQ _ _ ⟨r7, hfr, rfl⟩
      ·refine EL_skip (.no2 rfl rfl o0 rfl) rfl ?_
       refine EL_skip (.no2 rfl rfl o0 rfl) rfl ?_
       refine EL_skip (.no2 rfl rfl o0 rfl) rfl ?_
       refine EL_skip (.no2 rfl rfl o0 rfl) rfl ?_
       refine EL_skip (.no2 rfl rfl o0 rfl) rfl ?_
       refine EL_skip (.no2 rfl rfl o0 rfl) rfl ?_
       refine EL_skip (.no2 rfl rfl o0 rfl) rfl ?_
       refine EL_skip (.no2 rfl rfl o0 rfl) rfl ?_
       refine EL_skip (.no2 rfl rfl o0 rfl) rfl ?_
       refine EL_skip (.no2 rfl rfl o0 rfl) rfl ?_
       refine EL_pur (v := .bool false) (P_pick (b := o4) rfl (pick_f o0 rfl)) .plain rfl ?_
       refine EL_pur (v := .bool false) (P_assign rfl) .plain rfl ?_
       refine EL_nil ?_
       obtain rfl := Option.some.inj h
       exact hQ _ _ ⟨q5, hfr, rfl⟩
     ·refine EL_skip (.no2 rfl rfl y0 rfl) rfl ?_
      refine EL_skip (.no2 rfl rfl y0 rfl) rfl ?_
      refine EL_skip (.no2 rfl rfl y0 rfl) rfl ?_
      refine EL_skip (.no2 rfl rfl y0 rfl) rfl ?_
      refine EL_skip (.no2 rfl rfl y0 rfl) rfl ?_
      refine EL_skip (.no2 rfl rfl y0 rfl) rfl ?_
      refine EL_skip (.no2 rfl rfl y0 rfl) rfl ?_
      refine EL_skip (.no2 rfl rfl y0 rfl) rfl ?_
      refine EL_skip (.no2 rfl rfl y0 rfl) rfl ?_
      refine EL_pur (v := .bool false) (P_pick (b := n4) rfl (pick_f y0 rfl)) .plain rfl ?_
      refine EL_dead 12 rfl ?_
      refine EL_pur (v := .bool false) (P_assign rfl) .plain rfl ?_
      refine EL_nil ?_
      obtain rfl := Option.some.inj h
      exact hQ _ _ ⟨p5, hfr, rfl⟩
    ·refine EL_skip (.no2 rfl rfl n0 rfl) rfl ?_
     refine EL_skip (.no2 rfl rfl n0 rfl) rfl ?_
     refine EL_skip (.no2 rfl rfl n0 rfl) rfl ?_
     refine EL_skip (.no2 rfl rfl n0 rfl) rfl ?_
     refine EL_skip (.no2 rfl rfl n0 rfl) rfl ?_
     refine EL_skip (.no2 rfl rfl n0 rfl) rfl ?_
     refine EL_skip (.no2 rfl rfl n0 rfl) rfl ?_
     refine EL_skip (.no2 rfl rfl n0 rfl) rfl ?_
     refine EL_skip (.no2 rfl rfl n0 rfl) rfl ?_
     refine EL_skip (.no2 rfl rfl n0 rfl) rfl ?_
     refine EL_pur (v := .bool false) (P_pick (b := (decide (x1 = z2))) rfl (pick_f n0 rfl)) .plain rfl ?_
     refine EL_dead 23 rfl ?_
     refine EL_pur (v := .bool false) (P_assign rfl) .plain rfl ?_
     refine EL_nil ?_
     obtain rfl := Option.some.inj h
     exact hQ _ _ ⟨d4, hfr, rfl⟩
   ·refine EL_skip (.no2 rfl rfl d3 rfl) rfl ?_
    refine EL_skip (.no2 rfl rfl d3 rfl) rfl ?_
    refine EL_skip (.no2 rfl rfl d3 rfl) rfl ?_
    refine EL_pur (v := .bool false) (P_pick (b := e3) rfl (pick_f d3 rfl)) .plain rfl ?_
    refine EL_dead 35 rfl ?_
    refine EL_pur (v := .bool false) (P_assign rfl) .plain rfl ?_
    refine EL_nil ?_
    obtain rfl := Option.some.inj h
    exact hQ _ _ ⟨d4, hfr, rfl⟩
  ·clear hx
   obtain ⟨m9, hfr, j6⟩ := hR
   refine E_ret ?_
   obtain rfl := Option.some.inj h
   exact end1 rfl rfl (show _ = .bool (i4) from j6) ⟨_, hfr, rfl⟩
theorem v86_0 {iO : Nat} {gI : Gh} {wI : World} {x0 : List Bool} {up0 : Value} (rp0 : RV gI.m wI x0 up0) {r : (List Bool)} (h : f86 x0 = some r) : FnG Try.prog 86 #[up0] gI wI (fun g w v => OM iO g w 4 (r) v) := by
 unfold f86 at h
 refine fnG_of_E Try.func86 rfl (Nat.le_of_ble_eq_true rfl) fun g0 hm hfr => ?_
 have rp0 : RV g0.m wI x0 up0 := hm ▸ rp0
 show E _ 21 none _ _ _ _ _
 refine E_seq (E_region (EL_pur (v := .slice none 0 0) (P_assign rfl) .plain rfl ?_))
 refine EL_nil (thn_n (E_seq (E_region (EL_do .plain rfl (D_buildSlice (g := g0) 3005 (xs := ([] : List Bool)) (vs := []) Try.underlying110 Try.sizeOf4 Try.zeroValue4 rfl rfl .nil RVs.nil rfl rfl fun g1 w1 v1 hs o1 r1 hxt hfl => ?_)))))
 have hfr := hfr.stp hs
 have rp0 := rp0.stp hs
 refine EL_pur (v := v1) (P_assign rfl) .plain rfl ?_
 refine EL_nil (thn_n ?_)
 obtain ⟨d2, hx, h⟩ := bsome h
 refine E_join (fun e w => ∃ (g : Gh) (v3 : Value), Fr gI wI g w ∧ e 3 = v3 ∧ RV g.m w (d2 : List Bool) v3 ∧ OS 3005 g w 4 (d2 : List Bool) v3) (fun Q' hQ => ?_) (fun b5 i5 hR => ?_)
 ·replace h := hx
  clear hx
  refine E_seq (E_region (EL_pur (v := up0) (P_move rfl) .plain rfl ?_))
  refine EL_pur (v := .int .i64 ((x0).length : Int)) (P_len Try.underlying110 rfl rp0) .plain rfl ?_
  refine EL_pur (v := .int .i64 ((w64 (((x0).length : Int) - (1 : Int))))) (P_int rfl rfl rfl) .plain rfl ?_
  refine EL_pur (v := .int .i64 ((w64 (((x0).length : Int) - (1 : Int))))) (P_assign rfl) .plain rfl ?_
  refine EL_nil (thn_n (E_block ?_))
  refine E_lp h (fun (s : (List Bool) × Int) e w => ∃ (g : Gh) (v3 : Value), Fr gI wI g w ∧ e 0 = up0 ∧ RV g.m w (x0 : List Bool) up0 ∧ e 3 = v3 ∧ RV g.m w (s.1 : List Bool) v3 ∧ OS 3005 g w 4 (s.1 : List Bool) v3 ∧ e 4 = .int .i64 (s.2)) ⟨g1, (v1), hfr, rfl, rp0, rfl, r1, o1, rfl⟩ (fun X21 j5 o4 => ?_)
  rintro ⟨i2, j0⟩ c5 l5 ⟨i4, o0, hfr, i3, j3, j2, m2, p2, q2⟩ h
  refine E_joinC h (fun (s : Unit) e w => ∃ (g : Gh) , Fr gI wI g w ∧ e 0 = up0 ∧ RV g.m w (x0 : List Bool) up0 ∧ e 3 = o0 ∧ RV g.m w (i2 : List Bool) o0 ∧ OS 3005 g w 4 (i2 : List Bool) o0 ∧ e 4 = .int .i64 (j0)) (fun X24 m5 p4 h => ?_) ?_
  ·refine E_seq (E_region (EL_pur (v := .int .i64 (j0)) (P_move q2) .plain rfl ?_))
   refine EL_pur (v := .bool ((decide (j0 ≥ (0 : Int))))) (P_int rfl rfl rfl) .plain rfl ?_
   refine EL_nil (thn_n ?_)
   rcases csome h with ⟨z1, h⟩ | ⟨z1, h⟩
   ·refine E_cond_true (Eq.trans (show ev _ _ = .bool ((decide (j0 ≥ (0 : Int)))) from rfl) (congrArg Value.bool z1)) ?_
    exact E_skip (thn_n (p4 () _ _ ⟨i4, hfr, i3, j3, j2, m2, p2, q2⟩ h))
   ·refine E_cond_false (Eq.trans (show ev _ _ = .bool ((decide (j0 ≥ (0 : Int)))) from rfl) (congrArg Value.bool z1)) ?_
    refine E_exit ?_
    refine thn_e ?_
    refine thn_e ?_
    refine blk_hit ?_
    obtain rfl := Option.some.inj h
    exact hQ _ _ ⟨i4, (o0), hfr, j2, m2, p2⟩
  ·rintro _ d5 n5 ⟨j4, hfr, s2, n0, m3, u0, y0, z2⟩ h
   obtain ⟨i1, hx, h⟩ := bsome h
   refine E_join (fun e w => ∃ (g : Gh) (v3 : Value), Fr gI wI g w ∧ e 0 = up0 ∧ RV g.m w (x0 : List Bool) up0 ∧ e 3 = v3 ∧ RV g.m w (i1 : List Bool) v3 ∧ OS 3005 g w 4 (i1 : List Bool) v3 ∧ e 4 = .int .i64 (j0)) (fun Q' hQ => ?_) (fun e5 o5 hR => ?_)
   ·replace h := hx
    clear hx
    refine E_block ?_
    refine E_region (EL_pur (v := o0) (P_move m3) .plain rfl ?_)
    refine EL_pur (v := up0) (P_move s2) .plain rfl ?_
    refine EL_pur (v := .int .i64 (j0)) (P_move z2) .plain rfl ?_
    obtain ⟨m4, d3, h⟩ := bsome h
    refine EL_pur (v := ePtr up0 j0 1) (P_indexAddr (α := Bool) Try.underlying110 Try.sizeOf4 rfl n0 rfl d3) .plain rfl ?_
    have m1 := PT_idx n0 d3
    refine EL_do .plain rfl (D_load (g := j4) Try.isAgg4 Try.sizeOf4 rfl m1 fun p5 r4 => ?_)
    obtain rfl := RV_bool.1 r4
    refine EL_do .plain rfl (D_buildSlice (g := j4) 3018 (xs := ([m4] : List Bool)) (vs := [.bool (m4)]) Try.underlying110 Try.sizeOf4 Try.zeroValue4 rfl rfl (.cons rfl .nil) (RVs.cons (RV_bool.2 rfl) RVs.nil) rfl rfl fun s4 q5 r5 hs o36 e3 hxt hfl => ?_)
    have hfr := hfr.stp hs
    have n0 := n0.stp hs
    have u0 := u0.stp hs
    have y0 := y0.stp hs rfl
    have m1 := m1.stp hs
    obtain ⟨t5, q4, h⟩ := bsome h
    refine EL_do .plain rfl (D_append (g := s4) (i := 3005) Try.underlying110 info_4 rfl rfl y0 u0 rfl e3 q4 fun u4 u5 n4 hs o37 x4 _ => ?_)
    have hfr := hfr.stp hs
    have n0 := n0.stp hs
    have u0 := u0.stp hs
    have m1 := m1.stp hs
    have e3 := e3.stp hs
    have o36 := o36.stp hs rfl
    refine EL_pur (v := n4) (P_assign rfl) .plain rfl ?_
    refine EL_nil (blk_n ?_)
    obtain rfl := Option.some.inj h
    exact hQ _ _ ⟨u4, (n4), hfr, s2, n0, rfl, x4, o37, z2⟩
   ·clear hx
    obtain ⟨z4, o3, hfr, p3, q3, r3, s3, u3, z3⟩ := hR
    refine E_region (EL_pur (v := .int .i64 (j0)) (P_move z3) .plain rfl ?_)
    refine EL_pur (v := .int .i64 ((w64 (j0 - (1 : Int))))) (P_int rfl rfl rfl) .plain rfl ?_
    refine EL_pur (v := .int .i64 ((w64 (j0 - (1 : Int))))) (P_assign rfl) .plain rfl ?_
    exact EL_nil (thn_n (o4 (i1, (w64 (j0 - (1 : Int)))) _ _ ⟨z4, (o3), hfr, p3, q3, r3, s3, u3, rfl⟩ h))
 ·clear hx
  obtain ⟨x5, j1, hfr, c4, d4, e4⟩ := hR
  refine E_seq (E_region (EL_pur (v := j1) (P_move c4) .plain rfl ?_))
  refine EL_pur (v := j1) (P_assign rfl) .plain rfl ?_
  refine EL_nil (thn_n (E_ret ?_))
  obtain rfl := Option.some.inj h
  obtain ⟨gh, hxh, homh⟩ := OM.hand (i := iO) plain_bool hfr e4 d4
  exact end1 rfl rfl (show _ = j1 from rfl) ⟨gh, hxh, homh⟩
/-- griffe/fault.Can$1 -/
def f61 (x0 : FaultSight) (z0 : FaultLoom) : Option (Bool) :=
 Option.bind (α := Bool) (
  (f62 ((0 : Int)) ((119 : Int)) (([(x0).Pick] : List Int))).bind fun y0 =>
  bif (!y0) then
   some (true)
  else
   (f62 ((0 : Int)) ((w64 (((((z0).Harness).Warps).length : Int) - (1 : Int)))) (([(x0).Warp] : List Int))).bind fun j1 =>
   some ((!j1))
  ) fun o0 =>
 some (o0)
theorem en61 : Enters Try.prog 61 := enters_of Try.func61 (by kernel_rfl) rfl
theorem wk61 {gI : Gh} {wI : World} {x0 : FaultSight} {z0 : FaultLoom} {up0 : Value} (rp0 : RV gI.m wI x0 up0) {pf0 : Value} (qf0 : PT gI.m wI z0 pf0) {r : Bool} (h : f61 x0 z0 = some r) : Fn Try.prog 61 #[up0, pf0] gI wI (fun _ _ v => v = .bool (r)) := by
 unfold f61 at h
 refine fn_of_E Try.func61 rfl (Nat.le_of_ble_eq_true rfl) fun g0 hm hfr => ?_
 have qf0 : PT g0.m wI z0 pf0 := hm ▸ qf0
 have rp0 : RV g0.m wI x0 up0 := hm ▸ rp0
 show E _ 21 none _ _ _ _ _
 refine E_seq (E_region (EL_do .plain rfl (D_box (g := g0) rfl rp0 fun g1 w1 p1 hs q1 => ?_)))
 have hfr := hfr.ext hs
 have rp0 := rp0.ext hs
 have qf0 := qf0.ext hs
 refine EL_pur (v := .bool false) (P_assign rfl) .plain rfl ?_
 refine EL_nil (thn_n ?_)
 obtain ⟨o0, hx, h⟩ := bsome h
 refine E_join (fun e w => ∃ (g : Gh) , Fr gI wI g w ∧ e 3 = .bool (o0)) (fun Q' hQ => ?_) (fun o3 r3 hR => ?_)
 ·replace h := hx
  clear hx
  refine E_region (EL_pur (v := fPtr p1 0) (P_fieldAddr at_56_0 rfl (PT.ptr q1)) .plain rfl ?_)
  have n0 := PT_field (part_FaultSight_0).1 q1
  refine EL_do .plain rfl (D_load (g := g1) Try.isAgg3 Try.sizeOf3 rfl n0 fun s3 s2 => ?_)
  obtain rfl := RV_int.1 s2
  refine EL_do .plain rfl (D_buildSlice (g := g1) 3006 (xs := ([(x0).Pick] : List Int)) (vs := [.int .i64 ((x0).Pick)]) Try.underlying22 Try.sizeOf3 Try.zeroValue3 rfl rfl (.cons rfl .nil) (RVs.cons (RV_int.2 rfl) RVs.nil) rfl rfl fun z2 u3 d3 hs o18 u0 hxt hfl => ?_)
  have hfr := hfr.stp hs
  have rp0 := rp0.stp hs
  have qf0 := qf0.stp hs
  have q1 := q1.stp hs
  have n0 := n0.stp hs
  obtain ⟨y0, p2, h⟩ := bsome h
  refine EL_do .plain rfl (D_call (g := z2) (vs := [.int .i64 (0), .int .i64 (119), d3]) en62 (.cons rfl (.cons rfl (.cons rfl .nil))) (wk62 u0 p2) fun i2 p3 z3 hs hr => ?_)
  have hfr := hfr.ext hs
  have rp0 := rp0.ext hs
  have qf0 := qf0.ext hs
  have q1 := q1.ext hs
  have n0 := n0.ext hs
  have u0 := u0.ext hs
  have o18 := o18.ext hs
  subst hr
  refine EL_pur (v := .bool (!y0)) (P_not rfl) .plain rfl ?_
  refine EL_pur (v := .bool (!y0)) (P_move rfl) .plain rfl ?_
  rcases csome h with ⟨j0, h⟩ | ⟨j0, h⟩
  ·refine EL_skip (.no2 rfl rfl j0 rfl) rfl ?_
   refine EL_skip (.no2 rfl rfl j0 rfl) rfl ?_
   refine EL_skip (.no2 rfl rfl j0 rfl) rfl ?_
   refine EL_skip (.no2 rfl rfl j0 rfl) rfl ?_
   refine EL_skip (.no2 rfl rfl j0 rfl) rfl ?_
   refine EL_skip (.no2 rfl rfl j0 rfl) rfl ?_
   refine EL_skip (.no2 rfl rfl j0 rfl) rfl ?_
   refine EL_skip (.no2 rfl rfl j0 rfl) rfl ?_
   refine EL_skip (.no2 rfl rfl j0 rfl) rfl ?_
   refine EL_skip (.no2 rfl rfl j0 rfl) rfl ?_
   refine EL_pur (v := .bool true) (P_pick (b := (!y0)) rfl (pick_t j0 rfl)) .plain rfl ?_
   refine EL_pur (v := .bool true) (P_assign rfl) .plain rfl ?_
   refine EL_nil ?_
   obtain rfl := Option.some.inj h
   exact hQ _ _ ⟨i2, hfr, rfl⟩
  ·refine EL_pur (v := fPtr pf0 0) (P_fieldAddr at_28_0 rfl (PT.ptr qf0)) (.yes2 rfl rfl j0) rfl ?_
   have i1 := PT_field (part_FaultLoom_0).1 qf0
   refine EL_pur (v := fPtr (fPtr pf0 0) 1) (P_fieldAddr at_24_1 rfl (PT.ptr i1)) (.yes2 rfl rfl j0) rfl ?_
   have m1 := PT_field (part_TieHarness_1).1 i1
   refine EL_do (.yes2 rfl rfl j0) rfl (D_load (g := i2) Try.isAgg22 Try.sizeOf22 rfl m1 fun c4 z1 => ?_)
   refine EL_pur (v := .int .i64 ((((z0).Harness).Warps).length : Int)) (P_len Try.underlying22 rfl z1) (.yes2 rfl rfl j0) rfl ?_
   refine EL_pur (v := .int .i64 ((w64 (((((z0).Harness).Warps).length : Int) - (1 : Int))))) (P_int rfl rfl rfl) (.yes2 rfl rfl j0) rfl ?_
   refine EL_pur (v := fPtr p1 1) (P_fieldAddr at_56_1 rfl (PT.ptr q1)) (.yes2 rfl rfl j0) rfl ?_
   have d2 := PT_field (part_FaultSight_1).1 q1
   refine EL_do (.yes2 rfl rfl j0) rfl (D_load (g := i2) Try.isAgg3 Try.sizeOf3 rfl d2 fun d4 e3 => ?_)
   obtain rfl := RV_int.1 e3
   refine EL_do (.yes2 rfl rfl j0) rfl (D_buildSlice (g := i2) 3017 (xs := ([(x0).Warp] : List Int)) (vs := [.int .i64 ((x0).Warp)]) Try.underlying22 Try.sizeOf3 Try.zeroValue3 rfl rfl (.cons rfl .nil) (RVs.cons (RV_int.2 rfl) RVs.nil) rfl rfl fun i3 e4 j3 hs o27 j2 hxt hfl => ?_)
   have hfr := hfr.stp hs
   have rp0 := rp0.stp hs
   have qf0 := qf0.stp hs
   have q1 := q1.stp hs
   have n0 := n0.stp hs
   have u0 := u0.stp hs
   have o18 := o18.stp hs rfl
   have i1 := i1.stp hs
   have m1 := m1.stp hs
   have z1 := z1.stp hs
   have d2 := d2.stp hs
   obtain ⟨j1, q2, h⟩ := bsome h
   refine EL_do (.yes2 rfl rfl j0) rfl (D_call (g := i3) (vs := [.int .i64 (0), .int .i64 ((w64 (((((z0).Harness).Warps).length : Int) - (1 : Int)))), j3]) en62 (.cons rfl (.cons rfl (.cons rfl .nil))) (wk62 j2 q2) fun m3 q3 i4 hs hr => ?_)
   have hfr := hfr.ext hs
   have rp0 := rp0.ext hs
   have qf0 := qf0.ext hs
   have q1 := q1.ext hs
   have n0 := n0.ext hs
   have u0 := u0.ext hs
   have o18 := o18.ext hs
   have i1 := i1.ext hs
   have m1 := m1.ext hs
   have z1 := z1.ext hs
   have d2 := d2.ext hs
   have j2 := j2.ext hs
   have o27 := o27.ext hs
   subst hr
   refine EL_pur (v := .bool (!j1)) (P_not rfl) (.yes2 rfl rfl j0) rfl ?_
   refine EL_pur (v := .bool (!j1)) (P_pick (b := (!y0)) rfl (pick_f j0 rfl)) .plain rfl ?_
   refine EL_pur (v := .bool (!j1)) (P_assign rfl) .plain rfl ?_
   refine EL_nil ?_
   obtain rfl := Option.some.inj h
   exact hQ _ _ ⟨m3, hfr, rfl⟩
 ·clear hx
  obtain ⟨j4, hfr, m2⟩ := hR
  refine E_ret ?_
  obtain rfl := Option.some.inj h
  exact end1 rfl rfl (show _ = .bool (o0) from m2) ⟨_, hfr, rfl⟩
/-- slices.stableCmpFunc[griffe/api.FaultDamage] -/
def f96 (x0 : List FaultDamage) (x1 : Int) (x2 : FaultDamage → FaultDamage → Option Int) : Option ((List FaultDamage)) :=
 Option.bind (α := (List FaultDamage) × Int) (
  lp (σ := (List FaultDamage) × Int × Int) (fun k9 (m1, i1, n0) =>
   jn (σ := Unit) (fun (_ : Unit) =>
    (f107 m1 i1 n0 x2).bind fun o5 =>
    k9 (o5, n0, (w64 (n0 + (20 : Int))))
    ) fun q6 =>
   bif (decide (n0 ≤ x1)) then
    q6 ()
   else
    some (m1, i1)
   ) big (x0, (0 : Int), (20 : Int))
  ) fun (p2, j1) =>
 (f107 p2 j1 x1 x2).bind fun r6 =>
 lp (σ := (List FaultDamage) × Int) (fun s6 (z1, j0) =>
  jn (σ := Unit) (fun (_ : Unit) =>
   Option.bind (α := (List FaultDamage) × Int) (
    lp (σ := (List FaultDamage) × Int × Int) (fun t6 (d2, y0, o0) =>
     jn (σ := Unit) (fun (_ : Unit) =>
      (f108 big d2 y0 ((w64 (y0 + j0))) o0 x2).bind fun p5 =>
      t6 (p5, o0, (w64 (o0 + (w64 ((2 : Int) * j0)))))
      ) fun u6 =>
     bif (decide (o0 ≤ x1)) then
      u6 ()
     else
      some (d2, y0)
     ) big (z1, (0 : Int), (w64 ((2 : Int) * j0)))
    ) fun (i2, u0) =>
   Option.bind (α := (List FaultDamage)) (
    bif (decide ((w64 (u0 + j0)) < x1)) then
     (f108 big i2 u0 ((w64 (u0 + j0))) x1 x2).bind fun v6 =>
     some (v6)
    else
     some (i2)
    ) fun j2 =>
   s6 (j2, (w64 (j0 * (2 : Int))))
   ) fun x6 =>
  bif (decide (j0 < x1)) then
   x6 ()
  else
   some (z1)
  ) big (r6, (20 : Int))
theorem en96 : Enters Try.prog 96 := enters_of Try.func96 (by kernel_rfl) rfl
theorem wk96 {iI : Nat} {gI : Gh} {wI : World} {x0 : List FaultDamage} {x1 : Int} {x2 : FaultDamage → FaultDamage → Option Int} {up0 : Value} (mp0 : OM iI gI wI 62 x0 up0) {up2 : Value} (rp2 : FnV2 Try.prog x2 up2 gI wI) {r : (List FaultDamage)} (h : f96 x0 x1 x2 = some r) : FnM Try.prog 96 #[up0, .int .i64 (x1), up2] iI gI wI (fun g w v => v = .tuple #[] ∧ OM iI g w 62 r up0) := by
 unfold f96 at h
 refine fnM_of_E Try.func96 rfl (Nat.le_of_ble_eq_true rfl) fun g0 hm hfr => ?_
 have q5 := mp0
 replace mp0 := mp0.enter
 rw [← hm] at mp0
 replace hm : g0.m = gI.m := by rw [hm]
 obtain ⟨ff2, fa2, fc2, rfl, fen2, fcl2⟩ := rp2
 show E _ 63 none _ _ _ _ _
 refine E_seq (E_region (EL_pur (v := .int .i64 (20)) (P_assign rfl) .plain rfl ?_))
 refine EL_nil (thn_n (E_seq (E_region (EL_pur (v := .int .i64 (20)) (P_move rfl) .plain rfl ?_))))
 refine EL_pur (v := .int .i64 (0)) (P_assign rfl) .plain rfl ?_
 refine EL_pur (v := .int .i64 (20)) (P_assign rfl) .plain rfl ?_
 refine EL_nil (thn_n ?_)
 obtain ⟨⟨p2, j1⟩, hx, h⟩ := bsome h
 refine E_join (fun e w => ∃ (g : Gh) , FrM iI gI wI g w ∧ e 0 = up0 ∧ OM 1 g w 62 (p2 : List FaultDamage) up0 ∧ e 1 = .int .i64 (x1) ∧ e 2 = (.func (.func ff2) fa2 fc2) ∧ e 6 = .int .i64 ((20 : Int)) ∧ e 7 = .int .i64 (j1)) (fun Q' hQ => ?_) (fun a8 b7 hR => ?_)
 ·replace h := hx
  clear hx
  refine E_block ?_
  refine E_lp h (fun (s : (List FaultDamage) × Int × Int) e w => ∃ (g : Gh) , FrM iI gI wI g w ∧ e 0 = up0 ∧ OM 1 g w 62 (s.1 : List FaultDamage) up0 ∧ e 1 = .int .i64 (x1) ∧ e 2 = (.func (.func ff2) fa2 fc2) ∧ e 6 = .int .i64 ((20 : Int)) ∧ e 7 = .int .i64 (s.2.1) ∧ e 8 = .int .i64 (s.2.2)) ⟨g0, hfr, rfl, mp0, rfl, rfl, rfl, rfl, rfl⟩ (fun X9 k9 o7 => ?_)
  rintro ⟨m1, i1, n0⟩ b8 o8 ⟨y6, hfr, s3, u3, q2, z3, c4, d4, e4⟩ h
  refine E_joinC h (fun (s : Unit) e w => ∃ (g : Gh) , FrM iI gI wI g w ∧ e 0 = up0 ∧ OM 1 g w 62 (m1 : List FaultDamage) up0 ∧ e 1 = .int .i64 (x1) ∧ e 2 = (.func (.func ff2) fa2 fc2) ∧ e 6 = .int .i64 ((20 : Int)) ∧ e 7 = .int .i64 (i1) ∧ e 8 = .int .i64 (n0)) (fun X12 q6 c7 h => ?_) ?_
  ·refine E_seq (E_region (EL_pur (v := .int .i64 (n0)) (P_move e4) .plain rfl ?_))
   refine EL_pur (v := .int .i64 (x1)) (P_move q2) .plain rfl ?_
   refine EL_pur (v := .bool ((decide (n0 ≤ x1)))) (P_int rfl rfl rfl) .plain rfl ?_
   refine EL_nil (thn_n ?_)
   rcases csome h with ⟨o3, h⟩ | ⟨o3, h⟩
   ·refine E_cond_true (Eq.trans (show ev _ _ = .bool ((decide (n0 ≤ x1))) from rfl) (congrArg Value.bool o3)) ?_
    exact E_skip (thn_n (c7 () _ _ ⟨y6, hfr, s3, u3, q2, z3, c4, d4, e4⟩ h))
   ·refine E_cond_false (Eq.trans (show ev _ _ = .bool ((decide (n0 ≤ x1))) from rfl) (congrArg Value.bool o3)) ?_
    refine E_exit ?_
    refine thn_e ?_
    refine thn_e ?_
    refine blk_hit ?_
    obtain ⟨rfl, rfl⟩ := pairs2 h
    exact hQ _ _ ⟨y6, hfr, s3, u3, q2, z3, c4, d4⟩
  ·rintro _ c8 p8 ⟨p7, hfr, i4, r5, t5, j4, m4, u5, s2⟩ h
   refine E_block ?_
   refine E_seq (E_region (EL_pur (v := up0) (P_move i4) .plain rfl ?_))
   refine EL_pur (v := .int .i64 (i1)) (P_move u5) .plain rfl ?_
   refine EL_pur (v := .int .i64 (n0)) (P_move s2) .plain rfl ?_
   refine EL_pur (v := (.func (.func ff2) fa2 fc2)) (P_move j4) .plain rfl ?_
   obtain ⟨o5, d7, h⟩ := bsome h
   refine EL_do .plain rfl (D_callM (g := p7) (i := 1) (vs := [up0, .int .i64 (i1), .int .i64 (n0), (.func (.func ff2) fa2 fc2)]) en107 (.cons rfl (.cons rfl (.cons rfl (.cons rfl .nil)))) (wk107 r5 (FnV2.ch ⟨_, _, _, rfl, fen2, fcl2⟩ hfr.ch) d7) fun q7 d8 q8 hs hr => ?_)
   obtain ⟨hrv, b15⟩ := hr
   subst hrv
   have hfr := hfr.stp hs
   refine EL_nil (thn_n (E_seq (E_region (EL_pur (v := .int .i64 (n0)) (P_move s2) .plain rfl ?_))))
   refine EL_pur (v := .int .i64 (n0)) (P_assign rfl) .plain rfl ?_
   refine EL_nil (thn_n (E_region (EL_pur (v := .int .i64 (n0)) (P_move s2) .plain rfl ?_)))
   refine EL_pur (v := .int .i64 ((20 : Int))) (P_move m4) .plain rfl ?_
   refine EL_pur (v := .int .i64 ((w64 (n0 + (20 : Int))))) (P_int rfl rfl rfl) .plain rfl ?_
   refine EL_pur (v := .int .i64 ((w64 (n0 + (20 : Int))))) (P_assign rfl) .plain rfl ?_
   exact EL_nil (blk_n (thn_n (o7 (o5, n0, (w64 (n0 + (20 : Int)))) _ _ ⟨q7, hfr, i4, b15, t5, j4, m4, rfl, rfl⟩ h)))
 ·clear hx
  obtain ⟨r7, hfr, n4, x5, o4, p4, y5, z5⟩ := hR
  refine E_seq (E_region (EL_pur (v := up0) (P_move n4) .plain rfl ?_))
  refine EL_pur (v := .int .i64 (j1)) (P_move z5) .plain rfl ?_
  refine EL_pur (v := .int .i64 (x1)) (P_move o4) .plain rfl ?_
  refine EL_pur (v := (.func (.func ff2) fa2 fc2)) (P_move p4) .plain rfl ?_
  obtain ⟨r6, e7, h⟩ := bsome h
  refine EL_do .plain rfl (D_callM (g := r7) (i := 1) (vs := [up0, .int .i64 (j1), .int .i64 (x1), (.func (.func ff2) fa2 fc2)]) en107 (.cons rfl (.cons rfl (.cons rfl (.cons rfl .nil)))) (wk107 x5 (FnV2.ch ⟨_, _, _, rfl, fen2, fcl2⟩ hfr.ch) e7) fun s7 b7 r8 hs hr => ?_)
  obtain ⟨hrv, b18⟩ := hr
  subst hrv
  have hfr := hfr.stp hs
  refine EL_nil (thn_n (E_block ?_))
  refine E_lp h (fun (s : (List FaultDamage) × Int) e w => ∃ (g : Gh) , FrM iI gI wI g w ∧ e 0 = up0 ∧ OM 1 g w 62 (s.1 : List FaultDamage) up0 ∧ e 1 = .int .i64 (x1) ∧ e 2 = (.func (.func ff2) fa2 fc2) ∧ e 6 = .int .i64 (s.2)) ⟨s7, hfr, n4, b18, o4, p4, y5⟩ (fun X20 s6 g7 => ?_)
  rintro ⟨z1, j0⟩ e8 t8 ⟨t7, hfr, a6, q4, r4, b6, s4⟩ h
  refine E_joinC h (fun (s : Unit) e w => ∃ (g : Gh) , FrM iI gI wI g w ∧ e 0 = up0 ∧ OM 1 g w 62 (z1 : List FaultDamage) up0 ∧ e 1 = .int .i64 (x1) ∧ e 2 = (.func (.func ff2) fa2 fc2) ∧ e 6 = .int .i64 (j0)) (fun X23 x6 i7 h => ?_) ?_
  ·refine E_seq (E_region (EL_pur (v := .int .i64 (j0)) (P_move s4) .plain rfl ?_))
   refine EL_pur (v := .int .i64 (x1)) (P_move r4) .plain rfl ?_
   refine EL_pur (v := .bool ((decide (j0 < x1)))) (P_int rfl rfl rfl) .plain rfl ?_
   refine EL_nil (thn_n ?_)
   rcases csome h with ⟨p3, h⟩ | ⟨p3, h⟩
   ·refine E_cond_true (Eq.trans (show ev _ _ = .bool ((decide (j0 < x1))) from rfl) (congrArg Value.bool p3)) ?_
    exact E_skip (thn_n (i7 () _ _ ⟨t7, hfr, a6, q4, r4, b6, s4⟩ h))
   ·refine E_cond_false (Eq.trans (show ev _ _ = .bool ((decide (j0 < x1))) from rfl) (congrArg Value.bool p3)) ?_
    refine E_exit ?_
    refine thn_e ?_
    refine thn_e ?_
    refine blk_hit ?_
    obtain rfl := Option.some.inj h
    exact end0n rfl rfl ⟨_, hfr, rfl, q5.back q4⟩
  ·rintro _ g8 v8 ⟨u7, hfr, c6, d6, e6, i6, u4⟩ h
   refine E_block ?_
   refine E_seq (E_region (EL_pur (v := .int .i64 (j0)) (P_move u4) .plain rfl ?_))
   refine EL_pur (v := .int .i64 ((w64 ((2 : Int) * j0)))) (P_int rfl rfl rfl) .plain rfl ?_
   refine EL_pur (v := .int .i64 (0)) (P_assign rfl) .plain rfl ?_
   refine EL_pur (v := .int .i64 ((w64 ((2 : Int) * j0)))) (P_assign rfl) .plain rfl ?_
   refine EL_nil (thn_n ?_)
   obtain ⟨⟨i2, u0⟩, hx, h⟩ := bsome h
   refine E_join (fun e w => ∃ (g : Gh) , FrM iI gI wI g w ∧ e 0 = up0 ∧ OM 1 g w 62 (i2 : List FaultDamage) up0 ∧ e 1 = .int .i64 (x1) ∧ e 2 = (.func (.func ff2) fa2 fc2) ∧ e 6 = .int .i64 (j0) ∧ e 7 = .int .i64 (u0)) (fun Q' hQ => ?_) (fun i8 x8 hR => ?_)
   ·replace h := hx
    clear hx
    refine E_block ?_
    refine E_lp h (fun (s : (List FaultDamage) × Int × Int) e w => ∃ (g : Gh) , FrM iI gI wI g w ∧ e 0 = up0 ∧ OM 1 g w 62 (s.1 : List FaultDamage) up0 ∧ e 1 = .int .i64 (x1) ∧ e 2 = (.func (.func ff2) fa2 fc2) ∧ e 6 = .int .i64 (j0) ∧ e 7 = .int .i64 (s.2.1) ∧ e 8 = .int .i64 (s.2.2)) ⟨u7, hfr, c6, d6, e6, i6, u4, rfl, rfl⟩ (fun X34 t6 j7 => ?_)
    rintro ⟨d2, y0, o0⟩ j8 y8 ⟨z6, hfr, x4, z4, z2, b5, c5, d5, e5⟩ h
    refine E_joinC h (fun (s : Unit) e w => ∃ (g : Gh) , FrM iI gI wI g w ∧ e 0 = up0 ∧ OM 1 g w 62 (d2 : List FaultDamage) up0 ∧ e 1 = .int .i64 (x1) ∧ e 2 = (.func (.func ff2) fa2 fc2) ∧ e 6 = .int .i64 (j0) ∧ e 7 = .int .i64 (y0) ∧ e 8 = .int .i64 (o0)) (fun X37 u6 l7 h => ?_) ?_
    ·refine E_seq (E_region (EL_pur (v := .int .i64 (o0)) (P_move e5) .plain rfl ?_))
     refine EL_pur (v := .int .i64 (x1)) (P_move z2) .plain rfl ?_
     refine EL_pur (v := .bool ((decide (o0 ≤ x1)))) (P_int rfl rfl rfl) .plain rfl ?_
     refine EL_nil (thn_n ?_)
     rcases csome h with ⟨q3, h⟩ | ⟨q3, h⟩
     ·refine E_cond_true (Eq.trans (show ev _ _ = .bool ((decide (o0 ≤ x1))) from rfl) (congrArg Value.bool q3)) ?_
      exact E_skip (thn_n (l7 () _ _ ⟨z6, hfr, x4, z4, z2, b5, c5, d5, e5⟩ h))
     ·refine E_cond_false (Eq.trans (show ev _ _ = .bool ((decide (o0 ≤ x1))) from rfl) (congrArg Value.bool q3)) ?_
      refine E_exit ?_
      refine thn_e ?_
      refine thn_e ?_
      refine blk_hit ?_
      obtain ⟨rfl, rfl⟩ := pairs2 h
      exact hQ _ _ ⟨z6, hfr, x4, z4, z2, b5, c5, d5⟩
    ·rintro _ k8 z8 ⟨v7, hfr, i5, j6, k6, j5, d3, l5, e3⟩ h
     refine E_block ?_
     refine E_seq (E_region (EL_pur (v := up0) (P_move i5) .plain rfl ?_))
     refine EL_pur (v := .int .i64 (y0)) (P_move l5) .plain rfl ?_
     refine EL_pur (v := .int .i64 (y0)) (P_move l5) .plain rfl ?_
     refine EL_pur (v := .int .i64 (j0)) (P_move d3) .plain rfl ?_
     refine EL_pur (v := .int .i64 ((w64 (y0 + j0)))) (P_int rfl rfl rfl) .plain rfl ?_
     refine EL_pur (v := .int .i64 (o0)) (P_move e3) .plain rfl ?_
     refine EL_pur (v := (.func (.func ff2) fa2 fc2)) (P_move j5) .plain rfl ?_
     obtain ⟨p5, m7, h⟩ := bsome h
     refine EL_do .plain rfl (D_callM (g := v7) (i := 1) (vs := [up0, .int .i64 (y0), .int .i64 ((w64 (y0 + j0))), .int .i64 (o0), (.func (.func ff2) fa2 fc2)]) en108 (.cons rfl (.cons rfl (.cons rfl (.cons rfl (.cons rfl .nil))))) (wk108 big j6 (FnV2.ch ⟨_, _, _, rfl, fen2, fcl2⟩ hfr.ch) m7) fun x7 l8 a9 hs hr => ?_)
     obtain ⟨hrv, b40⟩ := hr
     subst hrv
     have hfr := hfr.stp hs
     refine EL_nil (thn_n (E_seq (E_region (EL_pur (v := .int .i64 (o0)) (P_move e3) .plain rfl ?_))))
     refine EL_pur (v := .int .i64 (o0)) (P_assign rfl) .plain rfl ?_
     refine EL_nil (thn_n (E_region (EL_pur (v := .int .i64 (o0)) (P_move e3) .plain rfl ?_)))
     refine EL_pur (v := .int .i64 (j0)) (P_move d3) .plain rfl ?_
     refine EL_pur (v := .int .i64 ((w64 ((2 : Int) * j0)))) (P_int rfl rfl rfl) .plain rfl ?_
     refine EL_pur (v := .int .i64 ((w64 (o0 + (w64 ((2 : Int) * j0)))))) (P_int rfl rfl rfl) .plain rfl ?_
     refine EL_pur (v := .int .i64 ((w64 (o0 + (w64 ((2 : Int) * j0)))))) (P_assign rfl) .plain rfl ?_
     exact EL_nil (blk_n (thn_n (j7 (p5, o0, (w64 (o0 + (w64 ((2 : Int) * j0))))) _ _ ⟨x7, hfr, i5, b40, k6, j5, d3, rfl, rfl⟩ h)))
   ·clear hx
    obtain ⟨a7, hfr, i3, m5, m2, j3, m3, n5⟩ := hR
    obtain ⟨j2, hx, h⟩ := bsome h
    refine E_join (fun e w => ∃ (g : Gh) , FrM iI gI wI g w ∧ e 0 = up0 ∧ OM 1 g w 62 (j2 : List FaultDamage) up0 ∧ e 1 = .int .i64 (x1) ∧ e 2 = (.func (.func ff2) fa2 fc2) ∧ e 6 = .int .i64 (j0)) (fun Q' hQ => ?_) (fun m8 b9 hR => ?_)
    ·replace h := hx
     clear hx
     refine E_seq (E_region (EL_pur (v := .int .i64 (u0)) (P_move n5) .plain rfl ?_))
     refine EL_pur (v := .int .i64 (j0)) (P_move m3) .plain rfl ?_
     refine EL_pur (v := .int .i64 ((w64 (u0 + j0)))) (P_int rfl rfl rfl) .plain rfl ?_
     refine EL_pur (v := .int .i64 ((w64 (u0 + j0)))) (P_assign rfl) .plain rfl ?_
     refine EL_nil (thn_n (E_seq (E_region (EL_pur (v := .int .i64 ((w64 (u0 + j0)))) (P_move rfl) .plain rfl ?_))))
     refine EL_pur (v := .int .i64 (x1)) (P_move m2) .plain rfl ?_
     refine EL_pur (v := .bool ((decide ((w64 (u0 + j0)) < x1)))) (P_int rfl rfl rfl) .plain rfl ?_
     refine EL_nil (thn_n ?_)
     rcases csome h with ⟨r3, h⟩ | ⟨r3, h⟩
     ·refine E_cond_true (Eq.trans (show ev _ _ = .bool ((decide ((w64 (u0 + j0)) < x1))) from rfl) (congrArg Value.bool r3)) ?_
      refine E_region (EL_pur (v := up0) (P_move i3) .plain rfl ?_)
      refine EL_pur (v := .int .i64 (u0)) (P_move n5) .plain rfl ?_
      refine EL_pur (v := .int .i64 ((w64 (u0 + j0)))) (P_move rfl) .plain rfl ?_
      refine EL_pur (v := .int .i64 (x1)) (P_move m2) .plain rfl ?_
      refine EL_pur (v := (.func (.func ff2) fa2 fc2)) (P_move j3) .plain rfl ?_
      obtain ⟨v6, n7, h⟩ := bsome h
      refine EL_do .plain rfl (D_callM (g := a7) (i := 1) (vs := [up0, .int .i64 (u0), .int .i64 ((w64 (u0 + j0))), .int .i64 (x1), (.func (.func ff2) fa2 fc2)]) en108 (.cons rfl (.cons rfl (.cons rfl (.cons rfl (.cons rfl .nil))))) (wk108 big m5 (FnV2.ch ⟨_, _, _, rfl, fen2, fcl2⟩ hfr.ch) n7) fun y7 n8 c9 hs hr => ?_)
      obtain ⟨hrv, b47⟩ := hr
      subst hrv
      have hfr := hfr.stp hs
      refine EL_nil ?_
      obtain rfl := Option.some.inj h
      exact hQ _ _ ⟨y7, hfr, i3, b47, m2, j3, m3⟩
     ·refine E_cond_false (Eq.trans (show ev _ _ = .bool ((decide ((w64 (u0 + j0)) < x1))) from rfl) (congrArg Value.bool r3)) ?_
      refine E_skip ?_
      obtain rfl := Option.some.inj h
      exact hQ _ _ ⟨a7, hfr, i3, m5, m2, j3, m3⟩
    ·clear hx
     obtain ⟨z7, hfr, l6, m6, n6, o6, p6⟩ := hR
     refine E_region (EL_pur (v := .int .i64 (j0)) (P_move p6) .plain rfl ?_)
     refine EL_pur (v := .int .i64 ((w64 (j0 * (2 : Int))))) (P_int rfl rfl rfl) .plain rfl ?_
     refine EL_pur (v := .int .i64 ((w64 (j0 * (2 : Int))))) (P_assign rfl) .plain rfl ?_
     exact EL_nil (blk_n (thn_n (g7 (j2, (w64 (j0 * (2 : Int)))) _ _ ⟨z7, hfr, l6, m6, n6, o6, rfl⟩ h)))
/-- griffe/fault.Check$1 -/
def f51 (x0 : FaultDamage) (z0 : FaultLoom) : Option (Bool) :=
 (f52 ((⟨z0⟩ : FaultFaultLoom)) x0).bind fun y6 =>
 some ((!y6))
theorem en51 : Enters Try.prog 51 := enters_of Try.func51 (by kernel_rfl) rfl
theorem wk51 {gI : Gh} {wI : World} {x0 : FaultDamage} {z0 : FaultLoom} {up0 : Value} (rp0 : RV gI.m wI x0 up0) {pf0 : Value} (qf0 : PT gI.m wI z0 pf0) {r : Bool} (h : f51 x0 z0 = some r) : Fn Try.prog 51 #[up0, pf0] gI wI (fun _ _ v => v = .bool (r)) := by
 unfold f51 at h
 refine fn_of_E Try.func51 rfl (Nat.le_of_ble_eq_true rfl) fun g0 hm hfr => ?_
 have qf0 : PT g0.m wI z0 pf0 := hm ▸ qf0
 have rp0 : RV g0.m wI x0 up0 := hm ▸ rp0
 show E _ 9 none _ _ _ _ _
 refine E_seq (E_region (EL_do .plain rfl (D_box (g := g0) rfl rp0 fun g1 w1 p1 hs q1 => ?_)))
 have hfr := hfr.ext hs
 have rp0 := rp0.ext hs
 have qf0 := qf0.ext hs
 refine EL_pur (v := .bool false) (P_assign rfl) .plain rfl ?_
 refine EL_nil (thn_n (E_seq (E_region (EL_do .plain rfl (D_load (g := g1) Try.isAgg28 Try.sizeOf28 rfl qf0 fun v2 r2 => ?_)))))
 have r3 : RV g1.m _ (⟨z0⟩ : FaultFaultLoom) (.agg (setCh [[.int .i64 0, .slice none 0 0, .int .i64 0, .slice none 0 0]] [(0, v2)]).flatten.toArray) := RV_build rfl (rep_last (RV.cells r2))
 generalize hv3 : (Value.agg (setCh [[.int .i64 0, .slice none 0 0, .int .i64 0, .slice none 0 0]] [(0, v2)]).flatten.toArray) = v3 at r3
 refine EL_pur (v := v3) (hv3 ▸ P_build (vs := [(0, v2)]) [[.int .i64 0, .slice none 0 0, .int .i64 0, .slice none 0 0]] lay_98 rfl rfl (.cons rfl .nil) ⟨⟨_, rfl, cells_size r2⟩, trivial⟩) .plain rfl ?_
 refine EL_do .plain rfl (D_load (g := g1) Try.isAgg62 Try.sizeOf62 rfl q1 fun v4 r4 => ?_)
 obtain ⟨y6, j0, h⟩ := bsome h
 refine EL_do .plain rfl (D_call (g := g1) (vs := [v3, v4]) en52 (.cons rfl (.cons rfl .nil)) (wk52 r3 r4 j0) fun g5 w5_ v5 hs hr => ?_)
 have hfr := hfr.ext hs
 have rp0 := rp0.ext hs
 have qf0 := qf0.ext hs
 have q1 := q1.ext hs
 have r2 := r2.ext hs
 have r3 := r3.ext hs
 have r4 := r4.ext hs
 subst hr
 refine EL_pur (v := .bool (!y6)) (P_not rfl) .plain rfl ?_
 refine EL_pur (v := .bool (!y6)) (P_assign rfl) .plain rfl ?_
 refine EL_nil (thn_n (E_ret ?_))
 obtain rfl := Option.some.inj h
 exact end1 rfl rfl (show _ = .bool (!y6) from rfl) ⟨_, hfr, rfl⟩
/-- griffe/grifferef05.Cards -/
def f60 (x0 : FaultLoom) (x1 : List FaultDamage) : Option ((List (List Bool))) :=
 (f85 ((x0).Design)).bind fun y5 =>
 Option.bind (α := (List (List Bool))) (
  lp (σ := (List (List Bool)) × Int) (fun l5 (z1, m1) =>
   jn (σ := Unit) (fun (_ : Unit) =>
    Option.bind (α := (List (List Bool))) (
     (idx x1 m1).bind fun o0 =>
     bif ((o0).Kind == (1 : Int)) then
      (idx z1 (o0).Pick).bind fun b5 =>
      (idx z1 (o0).Pick).bind fun m5 =>
      (idx m5 (o0).Hook).bind fun q3 =>
      (idx b5 (o0).Hook).bind fun m7 =>
      some ((List.set z1 (Int.toNat (o0).Pick) (List.set b5 (Int.toNat (o0).Hook) ((!q3)))))
     else
      bif ((o0).Kind == (3 : Int)) then
       (idx z1 ((o0).Pick)).bind fun n5 =>
       (f86 n5).bind fun s3 =>
       some ((List.set z1 (Int.toNat (o0).Pick) s3))
      else
       bif ((o0).Kind == (4 : Int)) then
        (rem64 (w64 ((o0).Pick + (1 : Int))) ((z1).length : Int)).bind fun j2 =>
        (idx z1 (o0).Pick).bind fun o5 =>
        (idx z1 j2).bind fun p5 =>
        (idx z1 (o0).Pick).bind fun n7 =>
        some ((List.set (List.set z1 (Int.toNat (o0).Pick) p5) (Int.toNat j2) o5))
       else
        some (z1)
     ) fun p3 =>
    l5 (p3, (w64 (m1 + (1 : Int))))
    ) fun q5 =>
   bif (decide (m1 < ((x1).length : Int))) then
    q5 ()
   else
    some (z1)
   ) big (y5, (0 : Int))
  ) fun u3 =>
 some (u3)
theorem en60 : Enters Try.prog 60 := enters_of Try.func60 (by kernel_rfl) rfl
theorem wk60 {gI : Gh} {wI : World} {x0 : FaultLoom} {x1 : List FaultDamage} {up0 : Value} (rp0 : RV gI.m wI x0 up0) {up1 : Value} (rp1 : RV gI.m wI x1 up1) {r : (List (List Bool))} (h : f60 x0 x1 = some r) : Fn Try.prog 60 #[up0, up1] gI wI (fun m w v => RV m w (r) v) := by
 unfold f60 at h
 refine fn_of_E Try.func60 rfl (Nat.le_of_ble_eq_true rfl) fun g0 hm hfr => ?_
 have rp0 : RV g0.m wI x0 up0 := hm ▸ rp0
 have rp1 : RV g0.m wI x1 up1 := hm ▸ rp1
 show E _ 85 none _ _ _ _ _
 refine E_seq (E_region (EL_do .plain rfl (D_box (g := g0) rfl rp0 fun g1 w1 p1 hs q1 => ?_)))
 have hfr := hfr.ext hs
 have rp0 := rp0.ext hs
 have rp1 := rp1.ext hs
 refine EL_pur (v := .slice none 0 0) (P_assign rfl) .plain rfl ?_
 refine EL_nil (thn_n (E_seq (E_region (EL_pur (v := fPtr p1 2) (P_fieldAddr at_28_1 rfl (PT.ptr q1)) .plain rfl ?_))))
 have q2 := PT_field (part_FaultLoom_1).1 q1
 refine EL_do .plain rfl (D_load (g := g1) Try.isAgg26 Try.sizeOf26 rfl q2 fun v3 r3 => ?_)
 obtain ⟨y5, k8, h⟩ := bsome h
 refine EL_do .plain rfl (D_callG (g := g1) (vs := [v3]) en85 (.cons rfl .nil) (v85_0 (iO := 9013) (jO := 9513) r3 k8) fun g4 w4_ v4 hs hr => ?_)
 have hfr := hfr.ext hs
 have rp0 := rp0.ext hs
 have rp1 := rp1.ext hs
 have q1 := q1.ext hs
 have q2 := q2.ext hs
 have r3 := r3.ext hs
 obtain ⟨q4, b4, c4⟩ := hr
 refine EL_pur (v := v4) (P_assign rfl) .plain rfl ?_
 refine EL_nil (thn_n ?_)
 obtain ⟨u3, hx, h⟩ := bsome h
 refine E_join (fun e w => ∃ (g : Gh) , Fr gI wI g w ∧ e 5 = v4 ∧ NS (RM (α := Bool) 4) 9013 9513 g w 110 (u3 : List (List Bool)) v4) (fun Q' hQ => ?_) (fun p8 v8 hR => ?_)
 ·replace h := hx
  clear hx
  refine E_seq (E_region (EL_pur (v := .int .i64 (0)) (P_assign rfl) .plain rfl ?_))
  refine EL_nil (thn_n (E_block ?_))
  refine E_lp h (fun (s : (List (List Bool)) × Int) e w => ∃ (g : Gh) , Fr gI wI g w ∧ e 1 = up1 ∧ RV g.m w (x1 : List FaultDamage) up1 ∧ e 5 = v4 ∧ NS (RM (α := Bool) 4) 9013 9513 g w 110 (s.1 : List (List Bool)) v4 ∧ e 6 = .int .i64 (s.2)) ⟨g4, hfr, rfl, rp1, rfl, ⟨_, b4, c4⟩, rfl⟩ (fun X309 l5 l6 => ?_)
  rintro ⟨z1, m1⟩ q8 x8 ⟨r5, hfr, p4, r4, s4, ⟨l8, u4, x4⟩, z4⟩ h
  refine E_joinC h (fun (s : Unit) e w => ∃ (g : Gh) , Fr gI wI g w ∧ e 1 = up1 ∧ RV g.m w (x1 : List FaultDamage) up1 ∧ e 5 = v4 ∧ NS (RM (α := Bool) 4) 9013 9513 g w 110 (z1 : List (List Bool)) v4 ∧ e 6 = .int .i64 (m1)) (fun X312 q5 m6 h => ?_) ?_
  ·refine E_seq (E_region (EL_pur (v := .int .i64 (m1)) (P_move z4) .plain rfl ?_))
   refine EL_pur (v := up1) (P_move p4) .plain rfl ?_
   refine EL_pur (v := .int .i64 ((x1).length : Int)) (P_len Try.underlying29 rfl r4) .plain rfl ?_
   refine EL_pur (v := .bool ((decide (m1 < ((x1).length : Int))))) (P_int rfl rfl rfl) .plain rfl ?_
   refine EL_nil (thn_n ?_)
   rcases csome h with ⟨d4, h⟩ | ⟨d4, h⟩
   ·refine E_cond_true (Eq.trans (show ev _ _ = .bool ((decide (m1 < ((x1).length : Int)))) from rfl) (congrArg Value.bool d4)) ?_
    exact E_skip (thn_n (m6 () _ _ ⟨r5, hfr, p4, r4, s4, ⟨_, u4, x4⟩, z4⟩ h))
   ·refine E_cond_false (Eq.trans (show ev _ _ = .bool ((decide (m1 < ((x1).length : Int)))) from rfl) (congrArg Value.bool d4)) ?_
    refine E_exit ?_
    refine thn_e ?_
    refine thn_e ?_
    refine blk_hit ?_
    obtain rfl := Option.some.inj h
    exact hQ _ _ ⟨r5, hfr, s4, ⟨_, u4, x4⟩⟩
  ·rintro _ r8 y8 ⟨t5, hfr, d3, n0, d2, ⟨m8, j0, u0⟩, e3⟩ h
   obtain ⟨p3, hx, h⟩ := bsome h
   refine E_join (fun e w => ∃ (g : Gh) , Fr gI wI g w ∧ e 1 = up1 ∧ RV g.m w (x1 : List FaultDamage) up1 ∧ e 5 = v4 ∧ NS (RM (α := Bool) 4) 9013 9513 g w 110 (p3 : List (List Bool)) v4 ∧ e 6 = .int .i64 (m1)) (fun Q' hQ => ?_) (fun t8 z8 hR => ?_)
   ·replace h := hx
    clear hx
    refine E_block ?_
    refine E_seq (E_region (EL_pur (v := up1) (P_move d3) .plain rfl ?_))
    refine EL_pur (v := .int .i64 (m1)) (P_move e3) .plain rfl ?_
    obtain ⟨o0, e5, h⟩ := bsome h
    refine EL_pur (v := ePtr up1 m1 5) (P_indexAddr (α := FaultDamage) Try.underlying29 Try.sizeOf62 rfl n0 rfl e5) .plain rfl ?_
    have y0 := PT_idx n0 e5
    refine EL_do .plain rfl (D_load (g := t5) Try.isAgg62 Try.sizeOf62 rfl y0 fun o7 i1 => ?_)
    refine EL_do .plain rfl (D_allocOc (g := t5) 2007 (⟨0, 0, 0, 0, false⟩ : FaultDamage) Try.zeroValue62 (fun m w => ⟨_, (rep_two rep_int (rep_two rep_int (rep_two rep_int (rep_two rep_int rep_bool)))), rfl⟩) fun p7 a9 i2 hs b466 cb => ?_)
    have hfr := hfr.stp hs
    have n0 := n0.stp hs
    have j0 := j0.stp hs rfl
    have u0 := u0.stp (rowM _) hs rfl
    have y0 := y0.stp hs
    have i1 := i1.stp hs
    clear cb
    refine EL_do .plain rfl (D_storeOc (g := p7) (v := o7) Try.sizeOf62 rfl b466 rfl i1 fun b9 c9 hs b467 cb => ?_)
    clear cb
    have hfr := hfr.stp hs
    have n0 := n0.stp hs
    have j0 := j0.stp hs rfl
    have u0 := u0.stp (rowM _) hs rfl
    have y0 := y0.stp hs
    have i1 := i1.stp hs
    obtain ⟨gp467, hs, qp467⟩ := OB.pub b467
    have hfr := hfr.stp hs
    have n0 := n0.stp hs
    have j0 := j0.stp hs rfl
    have u0 := u0.stp (rowM _) hs rfl
    have y0 := y0.stp hs
    have i1 := i1.stp hs
    refine EL_nil (thn_n (E_seq (E_region (EL_pur (v := fPtr i2 0) (P_fieldAddr at_62_0 rfl (PT.ptr qp467)) .plain rfl ?_))))
    have j1 := PT_field (part_FaultDamage_0).1 qp467
    refine EL_do .plain rfl (D_load (g := gp467) Try.isAgg60 Try.sizeOf60 rfl j1 fun d9 q7 => ?_)
    obtain rfl := RV_int.1 q7
    refine EL_nil (thn_n (E_block ?_))
    refine E_seq (E_region (EL_pur (v := .bool (((o0).Kind == (1 : Int)))) (P_int rfl rfl rfl) .plain rfl ?_))
    refine EL_pur (v := .bool (((o0).Kind == (1 : Int)))) (P_assign rfl) .plain rfl ?_
    refine EL_nil (thn_n ?_)
    rcases csome h with ⟨e4, h⟩ | ⟨e4, h⟩
    ·refine E_cond_true (Eq.trans (show ev _ _ = .bool (((o0).Kind == (1 : Int))) from rfl) (congrArg Value.bool e4)) ?_
     have m2 := PT_field (part_FaultDamage_1).1 qp467
     refine L_load (x := .tmp 29) Try.isAgg3 Try.sizeOf3 m2 fun e9 r7 n6 => ?_
     obtain rfl := RV_int.1 r7
     obtain ⟨b5, o6, h⟩ := bsome h
     obtain ⟨c5, hri474, hrn474, hxn474⟩ := Pool.idx u0 o6
     refine L_loadM (x := .tmp 31) (α := Fv) Try.isAgg110 Try.sizeOf110 (RO.toM j0) hri474 fun g9 s7 p6 => ?_
     obtain rfl := RV_fv.1 s7
     have p2 := PT_field (part_FaultDamage_2).1 qp467
     refine L_load (x := .tmp 33) Try.isAgg3 Try.sizeOf3 p2 fun i9 t7 q6 => ?_
     obtain rfl := RV_int.1 t7
     have s2 := PT_field (part_FaultDamage_1).1 qp467
     refine L_load (x := .tmp 36) Try.isAgg3 Try.sizeOf3 s2 fun j9 u7 r6 => ?_
     obtain rfl := RV_int.1 u7
     obtain ⟨m5, s6, h⟩ := bsome h
     obtain ⟨u5, hri481, hrn481, hxn481⟩ := Pool.idx u0 s6
     refine L_loadM (x := .tmp 38) (α := Fv) Try.isAgg110 Try.sizeOf110 (RO.toM j0) hri481 fun k9 v7 t6 => ?_
     obtain rfl := RV_fv.1 v7
     have z2 := PT_field (part_FaultDamage_2).1 qp467
     refine L_load (x := .tmp 40) Try.isAgg3 Try.sizeOf3 z2 fun l9 x7 u6 => ?_
     obtain rfl := RV_int.1 x7
     obtain ⟨q3, i5, h⟩ := bsome h
     refine L_loadM (x := .tmp 42) (α := Bool) Try.isAgg4 Try.sizeOf4 (u0.2.1 _ _ _ (by simp) hrn481 hxn481) i5 fun m9 y7 v6 => ?_
     obtain rfl := RV_bool.1 y7
     obtain ⟨m7, j5, h⟩ := bsome h
     refine E_drawL (g := gp467) (n := 18) [] [0, 1, 2, 3, 4, 5, 6, 7, 8, 9, 10, 11, 12, 13, 14, 15, 16, 17] rfl mixed (by kernel_rfl) trivial ?_
     refine L_pur (c := v4) rfl rfl .plain (fun _ _ hd => P_move d2) ?_
     refine L_pur (c := fPtr i2 1) rfl rfl .plain (fun _ _ hd => P_fieldAddr at_62_1 rfl (PT.ptr qp467)) ?_
     refine L_ld (c := .int .i64 ((o0).Pick)) rfl rfl .plain (fun _ _ h => h.ch) n6 rfl ?_
     refine L_pur (c := ePtr v4 (o0).Pick 1) rfl rfl .plain (fun _ _ hd => P_indexAddrM (α := Fv) Try.underlying108 Try.sizeOf110 rfl (RO.toM j0) rfl hri474) ?_
     refine L_ld (c := c5.v) rfl rfl .plain (fun _ _ h => ⟨h.ch, fun b hb _ => h.below.block b hb⟩) p6 rfl ?_
     refine L_pur (c := fPtr i2 2) rfl rfl .plain (fun _ _ hd => P_fieldAddr at_62_2 rfl (PT.ptr qp467)) ?_
     refine L_ld (c := .int .i64 ((o0).Hook)) rfl rfl .plain (fun _ _ h => h.ch) q6 rfl ?_
     refine L_pur (c := v4) rfl rfl .plain (fun _ _ hd => P_move d2) ?_
     refine L_pur (c := fPtr i2 1) rfl rfl .plain (fun _ _ hd => P_fieldAddr at_62_1 rfl (PT.ptr qp467)) ?_
     refine L_ld (c := .int .i64 ((o0).Pick)) rfl rfl .plain (fun _ _ h => h.ch) r6 rfl ?_
     refine L_pur (c := ePtr v4 (o0).Pick 1) rfl rfl .plain (fun _ _ hd => P_indexAddrM (α := Fv) Try.underlying108 Try.sizeOf110 rfl (RO.toM j0) rfl hri481) ?_
     refine L_ld (c := u5.v) rfl rfl .plain (fun _ _ h => ⟨h.ch, fun b hb _ => h.below.block b hb⟩) t6 rfl ?_
     refine L_pur (c := fPtr i2 2) rfl rfl .plain (fun _ _ hd => P_fieldAddr at_62_2 rfl (PT.ptr qp467)) ?_
     refine L_ld (c := .int .i64 ((o0).Hook)) rfl rfl .plain (fun _ _ h => h.ch) u6 rfl ?_
     refine L_pur (c := ePtr (u5.v) (o0).Hook 1) rfl rfl .plain (fun _ _ hd => P_indexAddrM (α := Bool) Try.underlying110 Try.sizeOf4 rfl (u0.2.1 _ _ _ (by simp) hrn481 hxn481) rfl i5) ?_
     refine L_ld (c := .bool (q3)) rfl rfl .plain (fun _ _ h => ⟨h.ch, fun b hb _ => h.below.block b hb⟩) v6 rfl ?_
     refine L_pur (c := .bool (!q3)) rfl rfl .plain (fun _ _ hd => P_not rfl) ?_
     refine L_pur (c := ePtr (c5.v) (o0).Hook 1) rfl rfl .plain (fun _ _ hd => P_indexAddrM (α := Bool) Try.underlying110 Try.sizeOf4 rfl (u0.2.1 _ _ _ (by simp) hrn474 hxn474) rfl j5) ?_
     refine L_nil fun n9 o9 hall => ?_
     have hs := hall.1
     have hfr := hfr.ext hs
     have n0 := n0.ext hs
     have j0 := j0.ext hs
     have u0 := u0.ext (rowM _) hs
     have y0 := y0.ext hs
     have i1 := i1.ext hs
     have qp467 := qp467.ext hs
     have j1 := j1.ext hs
     have m2 := m2.ext hs
     have p2 := p2.ext hs
     have s2 := s2.ext hs
     have z2 := z2.ext hs
     clear hs hall
     obtain ⟨ga519, _, hs, hw519, ck519⟩ := Pool.take (rowM _) u0 hrn474 hxn474 10319
     have hfr := hfr.stp hs
     have n0 := n0.stp hs
     have j0 := j0.stp hs rfl
     have y0 := y0.stp hs
     have i1 := i1.stp hs
     have qp467 := qp467.stp hs
     have j1 := j1.stp hs
     have m2 := m2.stp hs
     have p2 := p2.stp hs
     have s2 := s2.stp hs
     have z2 := z2.stp hs
     refine EL_do .plain rfl (D_storeM (g := ga519) (α := Bool) (a' := ((!q3))) Try.sizeOf4 rfl hw519 j5 rfl (RV_bool.2 rfl) fun p9 q9 hs b519 => ?_)
     have hfr := hfr.stp hs
     have n0 := n0.stp hs
     have j0 := j0.stp hs rfl
     have ck519 := ck519.stp (rowM _) hs rfl
     have y0 := y0.stp hs
     have i1 := i1.stp hs
     have qp467 := qp467.stp hs
     have j1 := j1.stp hs
     have m2 := m2.stp hs
     have p2 := p2.stp hs
     have s2 := s2.stp hs
     have z2 := z2.stp hs
     obtain ⟨gb519, _, hs, cp519⟩ := Pool.put (rowM _) ck519 c5 b519 rfl
     rw [set_same hrn474] at cp519
     have hfr := hfr.stp hs
     have n0 := n0.stp hs
     have j0 := j0.stp hs rfl
     have y0 := y0.stp hs
     have i1 := i1.stp hs
     have qp467 := qp467.stp hs
     have j1 := j1.stp hs
     have m2 := m2.stp hs
     have p2 := p2.stp hs
     have s2 := s2.stp hs
     have z2 := z2.stp hs
     refine EL_nil (blk_n (blk_n ?_))
     obtain rfl := Option.some.inj h
     exact hQ _ _ ⟨gb519, hfr, d3, n0, d2, ⟨_, j0, cp519⟩, e3⟩
    ·refine E_cond_false (Eq.trans (show ev _ _ = .bool (((o0).Kind == (1 : Int))) from rfl) (congrArg Value.bool e4)) ?_
     refine E_seq (E_region (EL_pur (v := .bool (((o0).Kind == (3 : Int)))) (P_int rfl rfl rfl) .plain rfl ?_))
     refine EL_pur (v := .bool (((o0).Kind == (3 : Int)))) (P_assign rfl) .plain rfl ?_
     refine EL_nil (thn_n ?_)
     rcases csome h with ⟨i4, h⟩ | ⟨i4, h⟩
     ·refine E_cond_true (Eq.trans (show ev _ _ = .bool (((o0).Kind == (3 : Int))) from rfl) (congrArg Value.bool i4)) ?_
      obtain ⟨n5, x6, h⟩ := bsome h
      obtain ⟨x5, hri521, hrn521, hxn521⟩ := Pool.idx u0 x6
      obtain ⟨ga521, _, hs, hw521, ck521⟩ := Pool.take (rowM _) u0 hrn521 hxn521 9910
      have hfr := hfr.stp hs
      have n0 := n0.stp hs
      have j0 := j0.stp hs rfl
      have y0 := y0.stp hs
      have i1 := i1.stp hs
      have qp467 := qp467.stp hs
      have j1 := j1.stp hs
      obtain ⟨gp521, hs, rp521⟩ := OM.pub hw521
      have hfr := hfr.stp hs
      have n0 := n0.stp hs
      have j0 := j0.stp hs rfl
      have ck521 := ck521.stp (rowM _) hs rfl
      have y0 := y0.stp hs
      have i1 := i1.stp hs
      have qp467 := qp467.stp hs
      have j1 := j1.stp hs
      have i3 := PT_field (part_FaultDamage_1).1 qp467
      refine L_load (x := .tmp 49) Try.isAgg3 Try.sizeOf3 i3 fun r9 z7 y6 => ?_
      obtain rfl := RV_int.1 z7
      have j3 := PT_field (part_FaultDamage_1).1 qp467
      refine L_load (x := .tmp 52) Try.isAgg3 Try.sizeOf3 j3 fun s9 a8 z6 => ?_
      obtain rfl := RV_int.1 a8
      refine L_loadM (x := .tmp 54) (α := Fv) Try.isAgg110 Try.sizeOf110 (RO.toM j0) hri521 fun t9 b8 a7 => ?_
      obtain rfl := RV_fv.1 b8
      obtain ⟨s3, b7, h⟩ := bsome h
      refine E_drawL (g := gp521) (n := 10) [(8, (fun v g w => OM 9756 g w 4 s3 v))] [0, 1, 2, 3, 4, 5, 6, 7, 8, 9] rfl mixed (by kernel_rfl) (⟨fun _ => up_om, trivial⟩) ?_
      refine L_pur (c := v4) rfl rfl .plain (fun _ _ hd => P_move d2) ?_
      refine L_pur (c := fPtr i2 1) rfl rfl .plain (fun _ _ hd => P_fieldAddr at_62_1 rfl (PT.ptr qp467)) ?_
      refine L_ld (c := .int .i64 ((o0).Pick)) rfl rfl .plain (fun _ _ h => h.ch) y6 rfl ?_
      refine L_pur (c := v4) rfl rfl .plain (fun _ _ hd => P_move d2) ?_
      refine L_pur (c := fPtr i2 1) rfl rfl .plain (fun _ _ hd => P_fieldAddr at_62_1 rfl (PT.ptr qp467)) ?_
      refine L_ld (c := .int .i64 ((o0).Pick)) rfl rfl .plain (fun _ _ h => h.ch) z6 rfl ?_
      refine L_pur (c := ePtr v4 (o0).Pick 1) rfl rfl .plain (fun _ _ hd => P_indexAddrM (α := Fv) Try.underlying108 Try.sizeOf110 rfl (RO.toM j0) rfl hri521) ?_
      refine L_ld (c := x5.v) rfl rfl .plain (fun _ _ h => ⟨h.ch, fun b hb _ => h.below.block b hb⟩) a7 rfl ?_
      refine L_do (φ := fun v g w => OM 9756 g w 4 s3 v) rfl rfl .plain (fun g w hd => D_callG (g := g) (vs := [x5.v]) en86 (.cons rfl .nil) (v86_0 (iO := 9756) (rp521.ext hd.1) b7) fun g' w' v hs hr => ⟨g', hs, hr⟩) (fun d5 hv => ?_)
      obtain ⟨_, _, _, rq528⟩ := hv
      have one528 := K_one (rowM (α := Bool) 4) rq528
      refine L_pur (c := ePtr v4 (o0).Pick 1) rfl rfl .plain (fun _ _ hd => P_indexAddrM (α := Fv) Try.underlying108 Try.sizeOf110 rfl (RO.toM j0) rfl hri521) ?_
      refine L_nil fun u9 v9 hall => ?_
      have hs := hall.1
      have hfr := hfr.ext hs
      have n0 := n0.ext hs
      have j0 := j0.ext hs
      have ck521 := ck521.ext (rowM _) hs
      have y0 := y0.ext hs
      have i1 := i1.ext hs
      have qp467 := qp467.ext hs
      have j1 := j1.ext hs
      have rp521 := rp521.ext hs
      have i3 := i3.ext hs
      have j3 := j3.ext hs
      have b554 := (word_all (A := fun g w => OM 9756 g w 4 s3 d5) 8 rfl hall)
      clear hs hall
      obtain ⟨gb556, _, hs, cp556⟩ := Pool.put (rowM _) ck521 ⟨d5, one528⟩ b554 rfl
      have hfr := hfr.stp hs
      have n0 := n0.stp hs
      have j0 := j0.stp hs rfl
      have y0 := y0.stp hs
      have i1 := i1.stp hs
      have qp467 := qp467.stp hs
      have j1 := j1.stp hs
      have rp521 := rp521.stp hs
      have i3 := i3.stp hs
      have j3 := j3.stp hs
      refine EL_do .plain rfl (D_storeRO (g := gb556) ⟨d5, one528⟩ Try.sizeOf110 rfl j0 hri521 rfl fun x9 hs b556 => ?_)
      have hfr := hfr.stp hs
      have n0 := n0.stp hs
      have cp556 := cp556.stp (rowM _) hs rfl
      have y0 := y0.stp hs
      have i1 := i1.stp hs
      have qp467 := qp467.stp hs
      have j1 := j1.stp hs
      have rp521 := rp521.stp hs
      have i3 := i3.stp hs
      have j3 := j3.stp hs
      refine EL_nil (blk_n (blk_n ?_))
      obtain rfl := Option.some.inj h
      exact hQ _ _ ⟨gb556, hfr, d3, n0, d2, ⟨_, b556, cp556⟩, e3⟩
     ·refine E_cond_false (Eq.trans (show ev _ _ = .bool (((o0).Kind == (3 : Int))) from rfl) (congrArg Value.bool i4)) ?_
      refine E_seq (E_region (EL_pur (v := .bool (((o0).Kind == (4 : Int)))) (P_int rfl rfl rfl) .plain rfl ?_))
      refine EL_pur (v := .bool (((o0).Kind == (4 : Int)))) (P_assign rfl) .plain rfl ?_
      refine EL_nil (thn_n ?_)
      rcases csome h with ⟨j4, h⟩ | ⟨j4, h⟩
      ·refine E_cond_true (Eq.trans (show ev _ _ = .bool (((o0).Kind == (4 : Int))) from rfl) (congrArg Value.bool j4)) ?_
       refine E_seq (E_region (EL_pur (v := fPtr i2 1) (P_fieldAddr at_62_1 rfl (PT.ptr qp467)) .plain rfl ?_))
       have m3 := PT_field (part_FaultDamage_1).1 qp467
       refine EL_do .plain rfl (D_load (g := gp467) Try.isAgg3 Try.sizeOf3 rfl m3 fun y9 c8 => ?_)
       obtain rfl := RV_int.1 c8
       refine EL_pur (v := .int .i64 ((w64 ((o0).Pick + (1 : Int))))) (P_int rfl rfl rfl) .plain rfl ?_
       refine EL_pur (v := v4) (P_move d2) .plain rfl ?_
       refine EL_pur (v := .int .i64 ((z1).length : Int)) (P_lenN Try.underlying108 rfl j0 u0) .plain rfl ?_
       obtain ⟨j2, c7, h⟩ := bsome h
       refine EL_pur (v := .int .i64 (j2)) (P_int rfl rfl (congrArg (Option.map (Value.int .i64)) c7)) .plain rfl ?_
       refine EL_pur (v := .int .i64 (j2)) (P_assign rfl) .plain rfl ?_
       refine EL_nil (thn_n (E_seq ?_))
       have o3 := PT_field (part_FaultDamage_1).1 qp467
       refine L_load (x := .tmp 67) Try.isAgg3 Try.sizeOf3 o3 fun z9 d8 d7 => ?_
       obtain rfl := RV_int.1 d8
       obtain ⟨o5, e7, h⟩ := bsome h
       obtain ⟨m4, hri564, hrn564, hxn564⟩ := Pool.idx u0 e7
       refine L_loadM (x := .tmp 69) (α := Fv) Try.isAgg110 Try.sizeOf110 (RO.toM j0) hri564 fun aA e8 g7 => ?_
       obtain rfl := RV_fv.1 e8
       obtain ⟨p5, i7, h⟩ := bsome h
       obtain ⟨n4, hri567, hrn567, hxn567⟩ := Pool.idx u0 i7
       refine L_loadM (x := .tmp 73) (α := Fv) Try.isAgg110 Try.sizeOf110 (RO.toM j0) hri567 fun bA g8 j7 => ?_
       obtain rfl := RV_fv.1 g8
       refine E_drawL (g := gp467) (n := 11) [] [0, 1, 2, 3, 4, 5, 6, 7, 8, 9, 10] rfl mixed (by kernel_rfl) trivial ?_
       refine L_pur (c := v4) rfl rfl .plain (fun _ _ hd => P_move d2) ?_
       refine L_pur (c := fPtr i2 1) rfl rfl .plain (fun _ _ hd => P_fieldAddr at_62_1 rfl (PT.ptr qp467)) ?_
       refine L_ld (c := .int .i64 ((o0).Pick)) rfl rfl .plain (fun _ _ h => h.ch) d7 rfl ?_
       refine L_pur (c := ePtr v4 (o0).Pick 1) rfl rfl .plain (fun _ _ hd => P_indexAddrM (α := Fv) Try.underlying108 Try.sizeOf110 rfl (RO.toM j0) rfl hri564) ?_
       refine L_ld (c := m4.v) rfl rfl .plain (fun _ _ h => ⟨h.ch, fun b hb _ => h.below.block b hb⟩) g7 rfl ?_
       refine L_pur (c := v4) rfl rfl .plain (fun _ _ hd => P_move d2) ?_
       refine L_pur (c := .int .i64 (j2)) rfl rfl .plain (fun _ _ hd => P_move rfl) ?_
       refine L_pur (c := ePtr v4 j2 1) rfl rfl .plain (fun _ _ hd => P_indexAddrM (α := Fv) Try.underlying108 Try.sizeOf110 rfl (RO.toM j0) rfl hri567) ?_
       refine L_ld (c := n4.v) rfl rfl .plain (fun _ _ h => ⟨h.ch, fun b hb _ => h.below.block b hb⟩) j7 rfl ?_
       refine L_pur (c := m4.v) rfl rfl .plain (fun _ _ hd => P_assign rfl) ?_
       refine L_pur (c := n4.v) rfl rfl .plain (fun _ _ hd => P_assign rfl) ?_
       refine L_nil fun o4 cA hall => ?_
       have hs := hall.1
       have hfr := hfr.ext hs
       have n0 := n0.ext hs
       have j0 := j0.ext hs
       have u0 := u0.ext (rowM _) hs
       have y0 := y0.ext hs
       have i1 := i1.ext hs
       have qp467 := qp467.ext hs
       have j1 := j1.ext hs
       have m3 := m3.ext hs
       have o3 := o3.ext hs
       clear hs hall
       refine EL_nil (thn_n (E_seq (E_region (EL_pur (v := v4) (P_move d2) .plain rfl ?_))))
       refine EL_pur (v := fPtr i2 1) (P_fieldAddr at_62_1 rfl (PT.ptr qp467)) .plain rfl ?_
       have z3 := PT_field (part_FaultDamage_1).1 qp467
       refine EL_do .plain rfl (D_load (g := o4) Try.isAgg3 Try.sizeOf3 rfl z3 fun dA i8 => ?_)
       obtain rfl := RV_int.1 i8
       refine EL_pur (v := n4.v) (P_move rfl) .plain rfl ?_
       obtain ⟨n7, l7, h⟩ := bsome h
       obtain ⟨eA, hri607, hrn607, hxn607⟩ := Pool.idx u0 l7
       refine EL_pur (v := ePtr v4 (o0).Pick 1) (P_indexAddrM (α := Fv) Try.underlying108 Try.sizeOf110 rfl (RO.toM j0) rfl hri607) .plain rfl ?_
       refine EL_do .plain rfl (D_storeRO (g := o4) n4 Try.sizeOf110 rfl j0 hri607 rfl fun gA hs b608 => ?_)
       have hfr := hfr.stp hs
       have n0 := n0.stp hs
       have u0 := u0.stp (rowM _) hs rfl
       have y0 := y0.stp hs
       have i1 := i1.stp hs
       have qp467 := qp467.stp hs
       have j1 := j1.stp hs
       have m3 := m3.stp hs
       have o3 := o3.stp hs
       have z3 := z3.stp hs
       refine EL_nil (thn_n (E_region (EL_pur (v := v4) (P_move d2) .plain rfl ?_)))
       refine EL_pur (v := .int .i64 (j2)) (P_move rfl) .plain rfl ?_
       refine EL_pur (v := m4.v) (P_move rfl) .plain rfl ?_
       obtain ⟨iA, hri609⟩ := idx_set hri567
       refine EL_pur (v := ePtr v4 j2 1) (P_indexAddrM (α := Fv) Try.underlying108 Try.sizeOf110 rfl (RO.toM b608) rfl hri609) .plain rfl ?_
       refine EL_do .plain rfl (D_storeRO (g := o4) m4 Try.sizeOf110 rfl b608 hri609 rfl fun jA hs b610 => ?_)
       have hfr := hfr.stp hs
       have n0 := n0.stp hs
       have u0 := u0.stp (rowM _) hs rfl
       have y0 := y0.stp hs
       have i1 := i1.stp hs
       have qp467 := qp467.stp hs
       have j1 := j1.stp hs
       have m3 := m3.stp hs
       have o3 := o3.stp hs
       have z3 := z3.stp hs
       have cp610 := Pool.swap u0 hrn564 hrn567 hxn564 hxn567
       refine EL_nil (blk_n (blk_n ?_))
       obtain rfl := Option.some.inj h
       exact hQ _ _ ⟨o4, hfr, d3, n0, d2, ⟨_, b610, cp610⟩, e3⟩
      ·refine E_cond_false (Eq.trans (show ev _ _ = .bool (((o0).Kind == (4 : Int))) from rfl) (congrArg Value.bool j4)) ?_
       refine E_skip (blk_n (blk_n ?_))
       obtain rfl := Option.some.inj h
       exact hQ _ _ ⟨gp467, hfr, d3, n0, d2, ⟨_, j0, u0⟩, e3⟩
   ·clear hx
    obtain ⟨j8, hfr, z5, a6, b6, ⟨n8, c6, d6⟩, e6⟩ := hR
    refine E_region (EL_pur (v := .int .i64 (m1)) (P_move e6) .plain rfl ?_)
    refine EL_pur (v := .int .i64 ((w64 (m1 + (1 : Int))))) (P_int rfl rfl rfl) .plain rfl ?_
    refine EL_pur (v := .int .i64 ((w64 (m1 + (1 : Int))))) (P_assign rfl) .plain rfl ?_
    exact EL_nil (thn_n (l6 (p3, (w64 (m1 + (1 : Int)))) _ _ ⟨j8, hfr, z5, a6, b6, ⟨_, c6, d6⟩, rfl⟩ h))
 ·clear hx
  obtain ⟨kA, hfr, i6, ⟨o8, j6, k6⟩⟩ := hR
  refine E_seq (E_region (EL_pur (v := v4) (P_move i6) .plain rfl ?_))
  refine EL_pur (v := v4) (P_assign rfl) .plain rfl ?_
  refine EL_nil (thn_n (E_ret ?_))
  obtain ⟨gq613, gp613, hs, hs2, rp613⟩ := NS.pubM (et2 := 4) ⟨_, j6, k6⟩ rfl
  have hfr := hfr.stp hs
  have hfr := hfr.stp hs2
  obtain rfl := Option.some.inj h
  exact end1 rfl rfl (show _ = v4 from rfl) ⟨_, hfr, rp613⟩
/-- slices.SortStableFunc[[]griffe/api.FaultDamage,griffe/api.FaultDamage] -/
def f78 (x0 : List FaultDamage) (x1 : FaultDamage → FaultDamage → Option Int) : Option ((List FaultDamage)) :=
 (f96 x0 (((x0).length : Int)) x1).bind fun y2 =>
 some (y2)
theorem en78 : Enters Try.prog 78 := enters_of Try.func78 (by kernel_rfl) rfl
theorem wk78 {iI : Nat} {gI : Gh} {wI : World} {x0 : List FaultDamage} {x1 : FaultDamage → FaultDamage → Option Int} {up0 : Value} (mp0 : OM iI gI wI 62 x0 up0) {up1 : Value} (rp1 : FnV2 Try.prog x1 up1 gI wI) {r : (List FaultDamage)} (h : f78 x0 x1 = some r) : FnM Try.prog 78 #[up0, up1] iI gI wI (fun g w v => v = .tuple #[] ∧ OM iI g w 62 r up0) := by
 unfold f78 at h
 refine fnM_of_E Try.func78 rfl (Nat.le_of_ble_eq_true rfl) fun g0 hm hfr => ?_
 have j0 := mp0
 replace mp0 := mp0.enter
 rw [← hm] at mp0
 replace hm : g0.m = gI.m := by rw [hm]
 obtain ⟨ff1, fa1, fc1, rfl, fen1, fcl1⟩ := rp1
 show E _ 9 none _ _ _ _ _
 refine E_region (EL_pur (v := up0) (P_move rfl) .plain rfl ?_)
 refine EL_pur (v := up0) (P_move rfl) .plain rfl ?_
 refine EL_pur (v := .int .i64 ((x0).length : Int)) (P_lenM Try.underlying29 rfl mp0) .plain rfl ?_
 refine EL_pur (v := (.func (.func ff1) fa1 fc1)) (P_move rfl) .plain rfl ?_
 obtain ⟨y2, n0, h⟩ := bsome h
 refine EL_do .plain rfl (D_callM (g := g0) (i := 1) (vs := [up0, .int .i64 ((x0).length : Int), (.func (.func ff1) fa1 fc1)]) en96 (.cons rfl (.cons rfl (.cons rfl .nil))) (wk96 mp0 (FnV2.ch ⟨_, _, _, rfl, fen1, fcl1⟩ hfr.ch) n0) fun g1 w1_ v1 hs hr => ?_)
 obtain ⟨hrv, b1⟩ := hr
 subst hrv
 have hfr := hfr.stp hs
 refine EL_nil ?_
 obtain rfl := Option.some.inj h
 exact end0n rfl rfl ⟨_, hfr, rfl, j0.back b1⟩
end Go.Proofs.Ytpiaipiehjcflaa
