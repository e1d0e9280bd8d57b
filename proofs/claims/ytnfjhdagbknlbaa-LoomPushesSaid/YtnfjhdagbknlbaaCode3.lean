import Derived.Test.YtnfjhdagbknlbaaCode2
set_option maxRecDepth 8000
set_option maxHeartbeats 4000000
namespace Go.Proofs.Ytnfjhdagbknlbaa
open Go.RowKit
/-- griffe/grifferef08.Check -/
def f20 (x0 : LoomMill) (x1 : List LoomOrder) : Option (Int) :=
 jn (σ := Unit) (fun (_ : Unit) =>
  jn (σ := Unit) (fun (_ : Unit) =>
   jn (σ := Unit) (fun (_ : Unit) =>
    jn (σ := Unit) (fun (_ : Unit) =>
     some ((0 : Int))
     ) fun t6 =>
    lp (σ := Int) (fun u6 o0 =>
     jn (σ := Unit) (fun (_ : Unit) =>
      jn (σ := Unit) (fun (_ : Unit) =>
       u6 ((w64 (o0 + (1 : Int))))
       ) fun v6 =>
      (idx x1 o0).bind fun i3 =>
      Option.bind (α := Bool) (
       (f36 ((i3).Width) ((1 : Int)) ((100 : Int))).bind fun n4 =>
       bif (!n4) then
        some (true)
       else
        (f36 ((i3).Chain) ((0 : Int)) ((100 : Int))).bind fun d4 =>
        bif (!d4) then
         some (true)
        else
         (f36 ((i3).Woven) ((1 : Int)) ((100 : Int))).bind fun i4 =>
         bif (!i4) then
          some (true)
         else
          (f36 ((i3).Early) ((0 : Int)) ((300 : Int))).bind fun j4 =>
          bif (!j4) then
           some (true)
          else
           (f36 ((i3).Late) ((0 : Int)) ((300 : Int))).bind fun d5 =>
           some ((!d5))
       ) fun j3 =>
      bif j3 then
       some ((2 : Int))
      else
       v6 ()
      ) fun x6 =>
     bif (decide (o0 < ((x1).length : Int))) then
      x6 ()
     else
      t6 ()
     ) big ((0 : Int))
    ) fun x8 =>
   Option.bind (α := Bool) (
    bif ((((x0).Widths).length : Int) == (0 : Int)) then
     some (true)
    else
     (f36 ((x0).Change) ((0 : Int)) ((20 : Int))).bind fun i5 =>
     some ((!i5))
    ) fun o3 =>
   bif o3 then
    some ((2 : Int))
   else
    x8 ()
   ) fun y8 =>
  lp (σ := Int) (fun z8 u0 =>
   jn (σ := Unit) (fun (_ : Unit) =>
    jn (σ := Unit) (fun (_ : Unit) =>
     z8 ((w64 (u0 + (1 : Int))))
     ) fun a9 =>
    (idx ((x0).Widths) u0).bind fun y6 =>
    (f36 y6 ((1 : Int)) ((100 : Int))).bind fun y74 =>
    bif (!y74) then
     some ((2 : Int))
    else
     a9 ()
    ) fun b9 =>
   bif (decide (u0 < (((x0).Widths).length : Int))) then
    b9 ()
   else
    y8 ()
   ) big ((0 : Int))
  ) fun c9 =>
 Option.bind (α := Bool) (
  bif (decide ((((x0).Widths).length : Int) > (3 : Int))) then
   some (true)
  else
   some ((decide (((x1).length : Int) > (7 : Int))))
  ) fun c4 =>
 bif c4 then
  some ((5 : Int))
 else
  c9 ()
theorem en20 : Enters Try.prog 20 := enters_of Try.func20 (by kernel_rfl) rfl
theorem wk20 {gI : Gh} {wI : World} {x0 : LoomMill} {x1 : List LoomOrder} {up0 : Value} (rp0 : RV gI.m wI x0 up0) {up1 : Value} (rp1 : RV gI.m wI x1 up1) {r : Int} (h : f20 x0 x1 = some r) : Fn Try.prog 20 #[up0, up1] gI wI (fun _ _ v => v = .int .i64 (r)) := by
 unfold f20 at h
 refine fn_of_E Try.func20 rfl (Nat.le_of_ble_eq_true rfl) fun g0 hm hfr => ?_
 have rp0 : RV g0.m wI x0 up0 := hm ▸ rp0
 have rp1 : RV g0.m wI x1 up1 := hm ▸ rp1
 show E _ 79 none _ _ _ _ _
 refine E_seq (E_region (EL_do .plain rfl (D_box (g := g0) rfl rp0 fun g1 w1 p1 hs q1 => ?_)))
 have hfr := hfr.ext hs
 have rp1 := rp1.ext hs
 refine EL_at (.int .i64 (0)) rfl rfl ?_
 refine EL_nil (thn_n (E_joinC h (fun (s : Unit) e w => ∃ (g : Gh) , Fr gI wI g w ∧ e 1 = up1 ∧ RV g.m w (x1 : List LoomOrder) up1 ∧ e 2 = p1 ∧ PT g.m w (x0 : LoomMill) p1) (fun X10 c9 e9 h => ?_) ?_))
 ·obtain ⟨c4, hx, h⟩ := bsome h
  refine E_join (fun e w => ∃ (g : Gh) , Fr gI wI g w ∧ e 1 = up1 ∧ RV g.m w (x1 : List LoomOrder) up1 ∧ e 2 = p1 ∧ PT g.m w (x0 : LoomMill) p1 ∧ e 16 = .bool (c4)) (fun Q' hQ => ?_) (fun mB uC hR => ?_)
  ·replace h := hx
   clear hx
   refine E_region (EL_pur (v := fPtr p1 0) (P_fieldAddr at_24_0 rfl (PT.ptr q1)) .plain rfl ?_)
   have jA := PT_field (part_LoomMill_0).1 q1
   refine EL_do .plain rfl (D_load (g := g1) Try.isAgg22 Try.sizeOf22 rfl jA fun vC kA => ?_)
   refine EL_pur (v := .int .i64 (((x0).Widths).length : Int)) (P_len Try.underlying22 rfl kA) .plain rfl ?_
   refine EL_pur (v := .bool ((decide ((((x0).Widths).length : Int) > (3 : Int))))) (P_int rfl rfl rfl) .plain rfl ?_
   refine EL_pur (v := .bool ((decide ((((x0).Widths).length : Int) > (3 : Int))))) (P_move rfl) .plain rfl ?_
   rcases csome h with ⟨z3, h⟩ | ⟨z3, h⟩
   ·refine EL_skip (.no2 rfl rfl z3 rfl) rfl ?_
    refine EL_skip (.no2 rfl rfl z3 rfl) rfl ?_
    refine EL_skip (.no2 rfl rfl z3 rfl) rfl ?_
    refine EL_pur (v := .bool true) (P_pick (b := (decide ((((x0).Widths).length : Int) > (3 : Int)))) rfl (pick_t z3 rfl)) .plain rfl ?_
    refine EL_nil ?_
    obtain rfl := sinj h
    exact hQ _ _ ⟨g1, hfr, rfl, rp1, rfl, q1, rfl⟩
   ·refine EL_pur (v := up1) (P_move rfl) (.yes2 rfl rfl z3) rfl ?_
    refine EL_pur (v := .int .i64 ((x1).length : Int)) (P_len Try.underlying25 rfl rp1) (.yes2 rfl rfl z3) rfl ?_
    refine EL_pur (v := .bool ((decide (((x1).length : Int) > (7 : Int))))) (P_int rfl rfl rfl) (.yes2 rfl rfl z3) rfl ?_
    refine EL_pur (v := .bool ((decide (((x1).length : Int) > (7 : Int))))) (P_pick (b := (decide ((((x0).Widths).length : Int) > (3 : Int)))) rfl (pick_f z3 rfl)) .plain rfl ?_
    refine EL_nil ?_
    obtain rfl := sinj h
    exact hQ _ _ ⟨g1, hfr, rfl, rp1, rfl, q1, rfl⟩
  ·clear hx
   obtain ⟨lA, hfr, t7, u7, v7, x7, p5⟩ := hR
   rcases csome h with ⟨x5, h⟩ | ⟨x5, h⟩
   ·refine E_cond_true (Eq.trans (show ev _ _ = .bool (c4) from p5) (congrArg Value.bool x5)) ?_
    refine E_seq (E_region (EL_at (.int .i64 (5)) rfl rfl ?_))
    refine EL_nil (thn_n (E_ret (thn_r ?_)))
    obtain rfl := sinj h
    exact end1 rfl rfl (show _ = .int .i64 (5) from rfl) ⟨_, hfr, rfl⟩
   ·refine E_cond_false (Eq.trans (show ev _ _ = .bool (c4) from p5) (congrArg Value.bool x5)) ?_
    exact E_skip (thn_n (e9 () _ _ ⟨lA, hfr, t7, u7, v7, x7⟩ h))
 ·rintro _ nB xC ⟨mA, hfr, y7, z7, a8, b8⟩ h
  refine E_joinC h (fun (s : Unit) e w => ∃ (g : Gh) , Fr gI wI g w ∧ e 1 = up1 ∧ RV g.m w (x1 : List LoomOrder) up1 ∧ e 2 = p1 ∧ PT g.m w (x0 : LoomMill) p1) (fun X48 y8 g9 h => ?_) ?_
  ·refine E_seq (E_region (EL_at (.int .i64 (0)) rfl rfl ?_))
   refine EL_nil (thn_n (E_block ?_))
   refine E_lp h (fun (s : Int) e w => ∃ (g : Gh) , Fr gI wI g w ∧ e 1 = up1 ∧ RV g.m w (x1 : List LoomOrder) up1 ∧ e 2 = p1 ∧ PT g.m w (x0 : LoomMill) p1 ∧ e 5 = .int .i64 (s)) ⟨mA, hfr, y7, z7, a8, b8, rfl⟩ (fun X49 z8 i9 => ?_)
   rintro u0 oB yC ⟨z6, hfr, j6, k6, j5, o4, l6⟩ h
   refine E_joinC h (fun (s : Unit) e w => ∃ (g : Gh) , Fr gI wI g w ∧ e 1 = up1 ∧ RV g.m w (x1 : List LoomOrder) up1 ∧ e 2 = p1 ∧ PT g.m w (x0 : LoomMill) p1 ∧ e 5 = .int .i64 (u0)) (fun X54 b9 j9 h => ?_) ?_
   ·refine E_seq (E_region (EL_mv l6 rfl ?_))
    refine EL_pur (v := fPtr p1 0) (P_fieldAddr at_24_0 j5 (PT.ptr o4)) .plain rfl ?_
    have nA := PT_field (part_LoomMill_0).1 o4
    refine EL_do .plain rfl (D_load (g := z6) Try.isAgg22 Try.sizeOf22 rfl nA fun zC oA => ?_)
    refine EL_pur (v := .int .i64 (((x0).Widths).length : Int)) (P_len Try.underlying22 rfl oA) .plain rfl ?_
    refine EL_pur (v := .bool ((decide (u0 < (((x0).Widths).length : Int))))) (P_int rfl rfl rfl) .plain rfl ?_
    refine EL_nil (thn_n ?_)
    rcases csome h with ⟨y5, h⟩ | ⟨y5, h⟩
    ·refine E_ct y5 rfl ?_
     exact E_skip (thn_n (j9 () _ _ ⟨z6, hfr, j6, k6, j5, o4, l6⟩ h))
    ·refine E_cf y5 rfl ?_
     refine E_exit ?_
     refine thn_e ?_
     refine thn_e ?_
     refine blk_hit ?_
     exact thn_n (g9 () _ _ ⟨z6, hfr, j6, k6, j5, o4⟩ h)
   ·rintro _ pB aD ⟨a7, hfr, c8, l5, m6, m4, n6⟩ h
    refine E_joinC h (fun (s : Unit) e w => ∃ (g : Gh) , Fr gI wI g w ∧ e 1 = up1 ∧ RV g.m w (x1 : List LoomOrder) up1 ∧ e 2 = p1 ∧ PT g.m w (x0 : LoomMill) p1 ∧ e 5 = .int .i64 (u0)) (fun X67 a9 k9 h => ?_) ?_
    ·refine E_block ?_
     refine E_seq (E_region (EL_pur (v := fPtr p1 0) (P_fieldAddr at_24_0 m6 (PT.ptr m4)) .plain rfl ?_))
     have pA := PT_field (part_LoomMill_0).1 m4
     refine EL_do .plain rfl (D_load (g := a7) Try.isAgg22 Try.sizeOf22 rfl pA fun qA d9 => ?_)
     refine EL_mv n6 rfl ?_
     obtain ⟨y6, b7, h⟩ := bsome h
     refine EL_pur (v := ePtr qA u0 1) (P_indexAddr (α := Int) Try.underlying22 Try.sizeOf3 rfl d9 rfl b7) .plain rfl ?_
     have rA := PT_idx d9 b7
     refine EL_do .plain rfl (D_load (g := a7) Try.isAgg3 Try.sizeOf3 rfl rA fun bD sA => ?_)
     obtain rfl := RV_int.1 sA
     obtain ⟨y74, l9, h⟩ := bsome h
     refine EL_do .plain rfl (D_call (g := a7) (vs := [.int .i64 (y6), .int .i64 (1), .int .i64 (100)]) en36 (.cons rfl (.cons rfl (.cons rfl .nil))) (wk36  l9) fun tA qB cD hs hr => ?_)
     have hfr := hfr.ext hs
     have l5 := l5.ext hs
     have m4 := m4.ext hs
     subst hr
     refine EL_pur (v := .bool (!y74)) (P_not rfl) .plain rfl ?_
     refine EL_nil (thn_n ?_)
     rcases csome h with ⟨z5, h⟩ | ⟨z5, h⟩
     ·refine E_ct z5 rfl ?_
      refine E_seq (E_region (EL_at (.int .i64 (2)) rfl rfl ?_))
      refine EL_nil (thn_n (E_ret (blk_r ?_)))
      refine thn_r ?_
      refine thn_r ?_
      refine blk_r ?_
      refine thn_r ?_
      obtain rfl := sinj h
      exact end1 rfl rfl (show _ = .int .i64 (2) from rfl) ⟨_, hfr, rfl⟩
     ·refine E_cf z5 rfl ?_
      exact E_skip (blk_n (thn_n (k9 () _ _ ⟨tA, hfr, c8, l5, m6, m4, n6⟩ h)))
    ·rintro _ rB dD ⟨uA, hfr, d8, e8, g8, i8, j8⟩ h
     refine E_region (EL_mv j8 rfl ?_)
     refine EL_in (.int .i64 ((w64 (u0 + (1 : Int))))) rfl rfl rfl rfl ?_
     refine EL_at (.int .i64 ((w64 (u0 + (1 : Int))))) rfl rfl ?_
     exact EL_nil (thn_n (i9 ((w64 (u0 + (1 : Int)))) _ _ ⟨uA, hfr, d8, e8, g8, i8, rfl⟩ h))
  ·rintro _ sB eD ⟨o6, hfr, p6, p4, q6, u4⟩ h
   refine E_joinC h (fun (s : Unit) e w => ∃ (g : Gh) , Fr gI wI g w ∧ e 1 = up1 ∧ RV g.m w (x1 : List LoomOrder) up1) (fun X94 x8 m9 h => ?_) ?_
   ·obtain ⟨o3, hx, h⟩ := bsome h
    refine E_join (fun e w => ∃ (g : Gh) , Fr gI wI g w ∧ e 1 = up1 ∧ RV g.m w (x1 : List LoomOrder) up1 ∧ e 40 = .bool (o3)) (fun Q' hQ => ?_) (fun vA tB hR => ?_)
    ·replace h := hx
     clear hx
     refine E_region (EL_pur (v := fPtr p1 0) (P_fieldAddr at_24_0 q6 (PT.ptr u4)) .plain rfl ?_)
     have n9 := PT_field (part_LoomMill_0).1 u4
     refine EL_do .plain rfl (D_load (g := o6) Try.isAgg22 Try.sizeOf22 rfl n9 fun uB o9 => ?_)
     refine EL_pur (v := .int .i64 (((x0).Widths).length : Int)) (P_len Try.underlying22 rfl o9) .plain rfl ?_
     refine EL_in (.bool (((((x0).Widths).length : Int) == (0 : Int)))) rfl rfl rfl rfl ?_
     refine EL_mw (.bool (((((x0).Widths).length : Int) == (0 : Int)))) rfl rfl ?_
     rcases csome h with ⟨j1, h⟩ | ⟨j1, h⟩
     ·refine EL_skip (.no2 rfl rfl j1 rfl) rfl ?_
      refine EL_skip (.no2 rfl rfl j1 rfl) rfl ?_
      refine EL_skip (.no2 rfl rfl j1 rfl) rfl ?_
      refine EL_skip (.no2 rfl rfl j1 rfl) rfl ?_
      refine EL_pur (v := .bool true) (P_pick (b := ((((x0).Widths).length : Int) == (0 : Int))) rfl (pick_t j1 rfl)) .plain rfl ?_
      refine EL_nil ?_
      obtain rfl := sinj h
      exact hQ _ _ ⟨o6, hfr, p6, p4, rfl⟩
     ·refine EL_pur (v := fPtr p1 1) (P_fieldAddr at_24_1 q6 (PT.ptr u4)) (.yes2 rfl rfl j1) rfl ?_
      have p9 := PT_field (part_LoomMill_1).1 u4
      refine EL_do (.yes2 rfl rfl j1) rfl (D_load (g := o6) Try.isAgg3 Try.sizeOf3 rfl p9 fun vB q9 => ?_)
      obtain rfl := RV_int.1 q9
      obtain ⟨i5, k8, h⟩ := bsome h
      refine EL_do (.yes2 rfl rfl j1) rfl (D_call (g := o6) (vs := [.int .i64 ((x0).Change), .int .i64 (0), .int .i64 (20)]) en36 (.cons rfl (.cons rfl (.cons rfl .nil))) (wk36  k8) fun r9 xA xB hs hr => ?_)
      have hfr := hfr.ext hs
      have p4 := p4.ext hs
      subst hr
      refine EL_pur (v := .bool (!i5)) (P_not rfl) (.yes2 rfl rfl j1) rfl ?_
      refine EL_pur (v := .bool (!i5)) (P_pick (b := ((((x0).Widths).length : Int) == (0 : Int))) rfl (pick_f j1 rfl)) .plain rfl ?_
      refine EL_nil ?_
      obtain rfl := sinj h
      exact hQ _ _ ⟨r9, hfr, p6, p4, rfl⟩
    ·clear hx
     obtain ⟨t9, hfr, c7, d7, z4⟩ := hR
     rcases csome h with ⟨m5, h⟩ | ⟨m5, h⟩
     ·refine E_cond_true (Eq.trans (show ev _ _ = .bool (o3) from z4) (congrArg Value.bool m5)) ?_
      refine E_seq (E_region (EL_at (.int .i64 (2)) rfl rfl ?_))
      refine EL_nil (thn_n (E_ret (thn_r ?_)))
      obtain rfl := sinj h
      exact end1 rfl rfl (show _ = .int .i64 (2) from rfl) ⟨_, hfr, rfl⟩
     ·refine E_cond_false (Eq.trans (show ev _ _ = .bool (o3) from z4) (congrArg Value.bool m5)) ?_
      exact E_skip (thn_n (m9 () _ _ ⟨t9, hfr, c7, d7⟩ h))
   ·rintro _ yA yB ⟨u9, hfr, e7, g7⟩ h
    refine E_joinC h (fun (s : Unit) e w => ∃ (g : Gh) , Fr gI wI g w) (fun X230 t6 l8 h => ?_) ?_
    ·refine E_seq (E_region (EL_at (.int .i64 (0)) rfl rfl ?_))
     refine EL_nil (thn_n (E_block ?_))
     refine E_lp h (fun (s : Int) e w => ∃ (g : Gh) , Fr gI wI g w ∧ e 1 = up1 ∧ RV g.m w (x1 : List LoomOrder) up1 ∧ e 6 = .int .i64 (s)) ⟨u9, hfr, e7, g7, rfl⟩ (fun X231 u6 m8 => ?_)
     rintro o0 zA zB ⟨i7, hfr, q5, t5, u5⟩ h
     refine E_joinC h (fun (s : Unit) e w => ∃ (g : Gh) , Fr gI wI g w ∧ e 1 = up1 ∧ RV g.m w (x1 : List LoomOrder) up1 ∧ e 6 = .int .i64 (o0)) (fun X234 x6 n8 h => ?_) ?_
     ·refine E_seq (E_region (EL_mv u5 rfl ?_))
      refine EL_mv q5 rfl ?_
      refine EL_pur (v := .int .i64 ((x1).length : Int)) (P_len Try.underlying25 rfl t5) .plain rfl ?_
      refine EL_in (.bool ((decide (o0 < ((x1).length : Int))))) rfl rfl rfl rfl ?_
      refine EL_nil (thn_n ?_)
      rcases csome h with ⟨n5, h⟩ | ⟨n5, h⟩
      ·refine E_ct n5 rfl ?_
       exact E_skip (thn_n (n8 () _ _ ⟨i7, hfr, q5, t5, u5⟩ h))
      ·refine E_cf n5 rfl ?_
       refine E_exit ?_
       refine thn_e ?_
       refine thn_e ?_
       refine blk_hit ?_
       exact thn_n (l8 () _ _ ⟨i7, hfr⟩ h)
     ·rintro _ aB aC ⟨j7, hfr, p3, j0, u3⟩ h
      refine E_joinC h (fun (s : Unit) e w => ∃ (g : Gh) , Fr gI wI g w ∧ e 1 = up1 ∧ RV g.m w (x1 : List LoomOrder) up1 ∧ e 6 = .int .i64 (o0)) (fun X292 v6 o8 h => ?_) ?_
      ·refine E_block ?_
       refine E_seq (E_region (EL_mv p3 rfl ?_))
       refine EL_mv u3 rfl ?_
       obtain ⟨i3, r6, h⟩ := bsome h
       refine EL_pur (v := ePtr up1 o0 5) (P_indexAddr (α := LoomOrder) Try.underlying25 Try.sizeOf82 rfl j0 rfl r6) .plain rfl ?_
       have v9 := PT_idx j0 r6
       refine EL_do .plain rfl (D_load (g := j7) Try.isAgg82 Try.sizeOf82 rfl v9 fun x9 a6 => ?_)
       refine EL_do .plain rfl (D_allocOc (g := j7) 2007 (⟨0, 0, 0, 0, 0⟩ : LoomOrder) Try.zeroValue82 (fun m w => ⟨_, (rep_two rep_int (rep_two rep_int (rep_two rep_int (rep_two rep_int rep_int)))), rfl⟩) fun y9 bC x4 hs b296 cb => ?_)
       have hfr := hfr.stp hs
       have j0 := j0.stp hs
       have a6 := a6.stp hs
       clear cb
       refine EL_do .plain rfl (D_storeOc (g := y9) (v := x9) Try.sizeOf82 rfl b296 rfl a6 fun l7 cC hs b297 cb => ?_)
       clear cb
       have hfr := hfr.stp hs
       have j0 := j0.stp hs
       refine EL_nil (thn_n ?_)
       obtain ⟨j3, hx, h⟩ := bsome h
       refine E_join (fun e w => ∃ (g : Gh) , Fr gI wI g w ∧ e 1 = up1 ∧ RV g.m w (x1 : List LoomOrder) up1 ∧ e 6 = .int .i64 (o0) ∧ e 78 = .bool (j3)) (fun Q' hQ => ?_) (fun bB dC hR => ?_)
       ·replace h := hx
        clear hx
        refine E_region (EL_pur (v := fPtr x4 0) (P_fieldAddr at_82_0 rfl (OB.ptr b297)) .plain rfl ?_)
        refine EL_do .plain rfl (D_loadF (g := l7) part_LoomOrder_0.1 Try.isAgg3 Try.sizeOf3 rfl b297 fun eC z9 => ?_)
        obtain rfl := RV_int.1 z9
        obtain ⟨n4, p8, h⟩ := bsome h
        refine EL_do .plain rfl (D_call (g := l7) (vs := [.int .i64 ((i3).Width), .int .i64 (1), .int .i64 (100)]) en36 (.cons rfl (.cons rfl (.cons rfl .nil))) (wk36  p8) fun b6 cB iC hs hr => ?_)
        have hfr := hfr.ext hs
        have j0 := j0.ext hs
        have b297 := b297.ext hs
        subst hr
        refine EL_pur (v := .bool (!n4)) (P_not rfl) .plain rfl ?_
        refine EL_mw (.bool (!n4)) rfl rfl ?_
        rcases csome h with ⟨z1, h⟩ | ⟨z1, h⟩
        ·refine EL_skip (.no2 rfl rfl z1 rfl) rfl ?_
         refine EL_skip (.no2 rfl rfl z1 rfl) rfl ?_
         refine EL_skip (.no2 rfl rfl z1 rfl) rfl ?_
         refine EL_skip (.no2 rfl rfl z1 rfl) rfl ?_
         refine EL_pur (v := .bool true) (P_pick (b := (!n4)) rfl (pick_t z1 rfl)) .plain rfl ?_
         refine EL_dead 18 rfl ?_
         refine EL_nil ?_
         obtain rfl := sinj h
         exact hQ _ _ ⟨b6, hfr, p3, j0, u3, rfl⟩
        ·refine EL_pur (v := fPtr x4 1) (P_fieldAddr at_82_1 rfl (OB.ptr b297)) (.yes2 rfl rfl z1) rfl ?_
         refine EL_do (.yes2 rfl rfl z1) rfl (D_loadF (g := b6) part_LoomOrder_1.1 Try.isAgg3 Try.sizeOf3 rfl b297 fun jC aA => ?_)
         obtain rfl := RV_int.1 aA
         obtain ⟨d4, q8, h⟩ := bsome h
         refine EL_do (.yes2 rfl rfl z1) rfl (D_call (g := b6) (vs := [.int .i64 ((i3).Chain), .int .i64 (0), .int .i64 (100)]) en36 (.cons rfl (.cons rfl (.cons rfl .nil))) (wk36  q8) fun c6 dB kC hs hr => ?_)
         have hfr := hfr.ext hs
         have j0 := j0.ext hs
         have b297 := b297.ext hs
         subst hr
         refine EL_pur (v := .bool (!d4)) (P_not rfl) (.yes2 rfl rfl z1) rfl ?_
         refine EL_pur (v := .bool (!d4)) (P_pick (b := (!n4)) rfl (pick_f z1 rfl)) .plain rfl ?_
         refine EL_mw (.bool (!d4)) rfl rfl ?_
         rcases csome h with ⟨j2, h⟩ | ⟨j2, h⟩
         ·refine EL_skip (.no2 rfl rfl j2 rfl) rfl ?_
          refine EL_skip (.no2 rfl rfl j2 rfl) rfl ?_
          refine EL_skip (.no2 rfl rfl j2 rfl) rfl ?_
          refine EL_skip (.no2 rfl rfl j2 rfl) rfl ?_
          refine EL_pur (v := .bool true) (P_pick (b := (!d4)) rfl (pick_t j2 rfl)) .plain rfl ?_
          refine EL_dead 12 rfl ?_
          refine EL_nil ?_
          obtain rfl := sinj h
          exact hQ _ _ ⟨c6, hfr, p3, j0, u3, rfl⟩
         ·refine EL_pur (v := fPtr x4 2) (P_fieldAddr at_82_2 rfl (OB.ptr b297)) (.yes2 rfl rfl j2) rfl ?_
          refine EL_do (.yes2 rfl rfl j2) rfl (D_loadF (g := c6) part_LoomOrder_2.1 Try.isAgg3 Try.sizeOf3 rfl b297 fun lC bA => ?_)
          obtain rfl := RV_int.1 bA
          obtain ⟨i4, r8, h⟩ := bsome h
          refine EL_do (.yes2 rfl rfl j2) rfl (D_call (g := c6) (vs := [.int .i64 ((i3).Woven), .int .i64 (1), .int .i64 (100)]) en36 (.cons rfl (.cons rfl (.cons rfl .nil))) (wk36  r8) fun d6 eB mC hs hr => ?_)
          have hfr := hfr.ext hs
          have j0 := j0.ext hs
          have b297 := b297.ext hs
          subst hr
          refine EL_pur (v := .bool (!i4)) (P_not rfl) (.yes2 rfl rfl j2) rfl ?_
          refine EL_pur (v := .bool (!i4)) (P_pick (b := (!d4)) rfl (pick_f j2 rfl)) .plain rfl ?_
          refine EL_mw (.bool (!i4)) rfl rfl ?_
          rcases csome h with ⟨z2, h⟩ | ⟨z2, h⟩
          ·refine EL_skip (.no2 rfl rfl z2 rfl) rfl ?_
           refine EL_skip (.no2 rfl rfl z2 rfl) rfl ?_
           refine EL_skip (.no2 rfl rfl z2 rfl) rfl ?_
           refine EL_skip (.no2 rfl rfl z2 rfl) rfl ?_
           refine EL_pur (v := .bool true) (P_pick (b := (!i4)) rfl (pick_t z2 rfl)) .plain rfl ?_
           refine EL_dead 6 rfl ?_
           refine EL_nil ?_
           obtain rfl := sinj h
           exact hQ _ _ ⟨d6, hfr, p3, j0, u3, rfl⟩
          ·refine EL_pur (v := fPtr x4 3) (P_fieldAddr at_82_3 rfl (OB.ptr b297)) (.yes2 rfl rfl z2) rfl ?_
           refine EL_do (.yes2 rfl rfl z2) rfl (D_loadF (g := d6) part_LoomOrder_3.1 Try.isAgg3 Try.sizeOf3 rfl b297 fun nC cA => ?_)
           obtain rfl := RV_int.1 cA
           obtain ⟨j4, t8, h⟩ := bsome h
           refine EL_do (.yes2 rfl rfl z2) rfl (D_call (g := d6) (vs := [.int .i64 ((i3).Early), .int .i64 (0), .int .i64 (300)]) en36 (.cons rfl (.cons rfl (.cons rfl .nil))) (wk36  t8) fun i6 iB oC hs hr => ?_)
           have hfr := hfr.ext hs
           have j0 := j0.ext hs
           have b297 := b297.ext hs
           subst hr
           refine EL_pur (v := .bool (!j4)) (P_not rfl) (.yes2 rfl rfl z2) rfl ?_
           refine EL_pur (v := .bool (!j4)) (P_pick (b := (!i4)) rfl (pick_f z2 rfl)) .plain rfl ?_
           refine EL_mw (.bool (!j4)) rfl rfl ?_
           rcases csome h with ⟨d3, h⟩ | ⟨d3, h⟩
           ·refine EL_skip (.no2 rfl rfl d3 rfl) rfl ?_
            refine EL_skip (.no2 rfl rfl d3 rfl) rfl ?_
            refine EL_skip (.no2 rfl rfl d3 rfl) rfl ?_
            refine EL_skip (.no2 rfl rfl d3 rfl) rfl ?_
            refine EL_pur (v := .bool true) (P_pick (b := (!j4)) rfl (pick_t d3 rfl)) .plain rfl ?_
            refine EL_nil ?_
            obtain rfl := sinj h
            exact hQ _ _ ⟨i6, hfr, p3, j0, u3, rfl⟩
           ·refine EL_pur (v := fPtr x4 4) (P_fieldAddr at_82_4 rfl (OB.ptr b297)) (.yes2 rfl rfl d3) rfl ?_
            refine EL_do (.yes2 rfl rfl d3) rfl (D_loadF (g := i6) part_LoomOrder_4.1 Try.isAgg3 Try.sizeOf3 rfl b297 fun pC dA => ?_)
            obtain rfl := RV_int.1 dA
            obtain ⟨d5, v8, h⟩ := bsome h
            refine EL_do (.yes2 rfl rfl d3) rfl (D_call (g := i6) (vs := [.int .i64 ((i3).Late), .int .i64 (0), .int .i64 (300)]) en36 (.cons rfl (.cons rfl (.cons rfl .nil))) (wk36  v8) fun eA jB qC hs hr => ?_)
            have hfr := hfr.ext hs
            have j0 := j0.ext hs
            subst hr
            refine EL_pur (v := .bool (!d5)) (P_not rfl) (.yes2 rfl rfl d3) rfl ?_
            refine EL_pur (v := .bool (!d5)) (P_pick (b := (!j4)) rfl (pick_f d3 rfl)) .plain rfl ?_
            refine EL_nil ?_
            obtain rfl := sinj h
            exact hQ _ _ ⟨eA, hfr, p3, j0, u3, rfl⟩
       ·clear hx
        obtain ⟨gA, hfr, m7, n7, o7, c5⟩ := hR
        rcases csome h with ⟨o5, h⟩ | ⟨o5, h⟩
        ·refine E_cond_true (Eq.trans (show ev _ _ = .bool (j3) from c5) (congrArg Value.bool o5)) ?_
         refine E_seq (E_region (EL_at (.int .i64 (2)) rfl rfl ?_))
         refine EL_nil (thn_n (E_ret (blk_r ?_)))
         refine thn_r ?_
         refine thn_r ?_
         refine blk_r ?_
         refine thn_r ?_
         obtain rfl := sinj h
         exact end1 rfl rfl (show _ = .int .i64 (2) from rfl) ⟨_, hfr, rfl⟩
        ·refine E_cond_false (Eq.trans (show ev _ _ = .bool (j3) from c5) (congrArg Value.bool o5)) ?_
         exact E_skip (blk_n (thn_n (o8 () _ _ ⟨gA, hfr, m7, n7, o7⟩ h)))
      ·rintro _ kB rC ⟨iA, hfr, p7, q7, r7⟩ h
       refine E_region (EL_mv r7 rfl ?_)
       refine EL_in (.int .i64 ((w64 (o0 + (1 : Int))))) rfl rfl rfl rfl ?_
       refine EL_at (.int .i64 ((w64 (o0 + (1 : Int))))) rfl rfl ?_
       exact EL_nil (thn_n (m8 ((w64 (o0 + (1 : Int)))) _ _ ⟨iA, hfr, p7, q7, rfl⟩ h))
    ·rintro _ lB sC ⟨tC, hfr⟩ h
     refine E_seq (E_region (EL_at (.int .i64 (0)) rfl rfl ?_))
     refine EL_nil (thn_n (E_ret ?_))
     obtain rfl := sinj h
     exact end1 rfl rfl (show _ = .int .i64 (0) from rfl) ⟨_, hfr, rfl⟩
/-- griffe/grifferef08.Stops -/
def f37 (x0 : List LoomOrder) (x1 : List LoomRun) (x2 : LoomStop) : Option ((List Int)) :=
 Option.bind (α := (List Int)) (
  lp (σ := (List Int) × Int) (fun r6 (j2, j0) =>
   jn (σ := Unit) (fun (_ : Unit) =>
    Option.bind (α := (List Int)) (
     (idx x1 j0).bind fun t6 =>
     (f75 x0 t6 x2).bind fun u3 =>
     bif u3 then
      (idx x1 j0).bind fun z3 =>
      (apnd 8 j2 (([(z3).Order] : List Int))).bind fun j5 =>
      some (j5)
     else
      some (j2)
     ) fun z1 =>
    r6 (z1, (w64 (j0 + (1 : Int))))
    ) fun u6 =>
   bif (decide (j0 < ((x1).length : Int))) then
    u6 ()
   else
    some (j2)
   ) big (([] : List Int), (0 : Int))
  ) fun i3 =>
 some (i3)
theorem en37 : Enters Try.prog 37 := enters_of Try.func37 (by kernel_rfl) rfl
theorem wk37 {gI : Gh} {wI : World} {x0 : List LoomOrder} {x1 : List LoomRun} {x2 : LoomStop} {up0 : Value} (rp0 : RV gI.m wI x0 up0) {up1 : Value} (rp1 : RV gI.m wI x1 up1) {up2 : Value} (rp2 : RV gI.m wI x2 up2) {r : (List Int)} (h : f37 x0 x1 x2 = some r) : Fn Try.prog 37 #[up0, up1, up2] gI wI (fun m w v => RV m w (r) v) := by
 unfold f37 at h
 refine fn_of_E Try.func37 rfl (Nat.le_of_ble_eq_true rfl) fun g0 hm hfr => ?_
 have rp0 : RV g0.m wI x0 up0 := hm ▸ rp0
 have rp1 : RV g0.m wI x1 up1 := hm ▸ rp1
 have rp2 : RV g0.m wI x2 up2 := hm ▸ rp2
 show E _ 32 none _ _ _ _ _
 refine E_seq (E_region (EL_do .plain rfl (D_box (g := g0) rfl rp2 fun g1 w1 p1 hs q1 => ?_)))
 have hfr := hfr.ext hs
 have rp0 := rp0.ext hs
 have rp1 := rp1.ext hs
 refine EL_at (.slice none 0 0) rfl rfl ?_
 refine EL_nil (thn_n (E_seq (E_region (EL_do .plain rfl (D_buildSlice (g := g1) 3009 (xs := ([] : List Int)) (vs := []) Try.underlying22 Try.sizeOf3 Try.zeroValue3 rfl rfl .nil RVs.nil rfl rfl fun g2 w2 v2 hs o2 r2 hxt hfl => ?_)))))
 have hfr := hfr.stp hs
 have rp0 := rp0.stp hs
 have rp1 := rp1.stp hs
 have q1 := q1.stp hs
 refine EL_at v2 rfl rfl ?_
 refine EL_nil (thn_n ?_)
 obtain ⟨i3, hx, h⟩ := bsome h
 refine E_join (fun e w => ∃ (g : Gh) (v7 : Value), Fr gI wI g w ∧ e 7 = v7 ∧ RV g.m w (i3 : List Int) v7 ∧ OS 3009 g w 3 (i3 : List Int) v7) (fun Q' hQ => ?_) (fun q7 t7 hR => ?_)
 ·replace h := hx
  clear hx
  refine E_seq (E_region (EL_at (.int .i64 (0)) rfl rfl ?_))
  refine EL_nil (thn_n (E_block ?_))
  refine E_lp h (fun (s : (List Int) × Int) e w => ∃ (g : Gh) (v7 : Value), Fr gI wI g w ∧ e 0 = up0 ∧ RV g.m w (x0 : List LoomOrder) up0 ∧ e 1 = up1 ∧ RV g.m w (x1 : List LoomRun) up1 ∧ e 5 = p1 ∧ PT g.m w (x2 : LoomStop) p1 ∧ e 7 = v7 ∧ RV g.m w (s.1 : List Int) v7 ∧ OS 3009 g w 3 (s.1 : List Int) v7 ∧ e 8 = .int .i64 (s.2)) ⟨g2, (v2), hfr, rfl, rp0, rfl, rp1, rfl, q1, rfl, r2, o2, rfl⟩ (fun X64 r6 y6 => ?_)
  rintro ⟨j2, j0⟩ u7 i8 ⟨v6, j3, hfr, k6, l6, o4, p4, m6, n6, u4, x4, z4, c5⟩ h
  refine E_joinC h (fun (s : Unit) e w => ∃ (g : Gh) , Fr gI wI g w ∧ e 0 = up0 ∧ RV g.m w (x0 : List LoomOrder) up0 ∧ e 1 = up1 ∧ RV g.m w (x1 : List LoomRun) up1 ∧ e 5 = p1 ∧ PT g.m w (x2 : LoomStop) p1 ∧ e 7 = j3 ∧ RV g.m w (j2 : List Int) j3 ∧ OS 3009 g w 3 (j2 : List Int) j3 ∧ e 8 = .int .i64 (j0)) (fun X67 u6 z6 h => ?_) ?_
  ·refine E_seq (E_region (EL_mv c5 rfl ?_))
   refine EL_mv o4 rfl ?_
   refine EL_pur (v := .int .i64 ((x1).length : Int)) (P_len Try.underlying31 rfl p4) .plain rfl ?_
   refine EL_in (.bool ((decide (j0 < ((x1).length : Int))))) rfl rfl rfl rfl ?_
   refine EL_nil (thn_n ?_)
   rcases csome h with ⟨m4, h⟩ | ⟨m4, h⟩
   ·refine E_ct m4 rfl ?_
    exact E_skip (thn_n (z6 () _ _ ⟨v6, hfr, k6, l6, o4, p4, m6, n6, u4, x4, z4, c5⟩ h))
   ·refine E_cf m4 rfl ?_
    refine E_exit ?_
    refine thn_e ?_
    refine thn_e ?_
    refine blk_hit ?_
    obtain rfl := sinj h
    exact hQ _ _ ⟨v6, (j3), hfr, u4, x4, z4⟩
  ·rintro _ x7 j8 ⟨m7, hfr, c4, u0, o3, o0, d4, j1, d5, z2, d3, p3⟩ h
   obtain ⟨z1, hx, h⟩ := bsome h
   refine E_join (fun e w => ∃ (g : Gh) (v7 : Value), Fr gI wI g w ∧ e 0 = up0 ∧ RV g.m w (x0 : List LoomOrder) up0 ∧ e 1 = up1 ∧ RV g.m w (x1 : List LoomRun) up1 ∧ e 5 = p1 ∧ PT g.m w (x2 : LoomStop) p1 ∧ e 7 = v7 ∧ RV g.m w (z1 : List Int) v7 ∧ OS 3009 g w 3 (z1 : List Int) v7 ∧ e 8 = .int .i64 (j0)) (fun Q' hQ => ?_) (fun r7 y7 hR => ?_)
   ·replace h := hx
    clear hx
    refine E_block ?_
    refine E_seq ?_
    obtain ⟨t6, l5, h⟩ := bsome h
    have n7 := PT_idx o0 l5
    refine L_load (x := .tmp 19) Try.isAgg76 Try.sizeOf76 n7 fun x6 o7 a7 => ?_
    refine L_load (x := .tmp 5) Try.isAgg54 Try.sizeOf54 j1 fun m5 b7 o6 => ?_
    obtain ⟨u3, p6, h⟩ := bsome h
    refine E_drawL (g := m7) (n := 7) [(6, (fun v g w => v = .bool (u3)))] [0, 1, 2, 3, 4, 5, 6] rfl mixed (by kernel_rfl) (⟨fun _ => up_eq _, trivial⟩) ?_
    refine L_pur (c := up0) rfl rfl .plain (fun _ _ hd => P_move c4) ?_
    refine L_pur (c := up1) rfl rfl .plain (fun _ _ hd => P_move o3) ?_
    refine L_pur (c := .int .i64 (j0)) rfl rfl .plain (fun _ _ hd => P_move p3) ?_
    refine L_pur (c := ePtr up1 j0 3) rfl rfl .plain (fun _ _ hd => P_indexAddr (α := LoomRun) Try.underlying31 Try.sizeOf76 rfl o0 rfl l5) ?_
    refine L_ld (c := x6) rfl rfl .plain (fun _ _ h => h.ch) a7 rfl ?_
    refine L_ld (c := m5) rfl rfl .plain (fun _ _ h => h.ch) o6 d4 ?_
    refine L_do (φ := fun v g w => v = .bool (u3)) rfl rfl .plain (fun g w hd => D_call (g := g) (vs := [up0, x6, m5]) en75 (.cons rfl (.cons rfl (.cons rfl .nil))) (wk75 (u0.ext hd.1) (o7.ext hd.1) (b7.ext hd.1) p6) fun g' w' v hs hr => ⟨g', hs, hr⟩) (fun z7 hv => ?_)
    obtain ⟨_, _, _, rfl⟩ := hv
    refine L_nil fun n4 a8 hall => ?_
    have hs := hall.1
    have hfr := hfr.ext hs
    have u0 := u0.ext hs
    have o0 := o0.ext hs
    have j1 := j1.ext hs
    have z2 := z2.ext hs
    have d3 := d3.ext hs
    clear hs hall
    refine EL_nil (thn_n ?_)
    rcases csome h with ⟨i4, h⟩ | ⟨i4, h⟩
    ·refine E_ct i4 rfl ?_
     refine E_region (EL_mv d5 rfl ?_)
     refine EL_mv o3 rfl ?_
     refine EL_mv p3 rfl ?_
     obtain ⟨z3, i5, h⟩ := bsome h
     refine EL_pur (v := ePtr up1 j0 3) (P_indexAddr (α := LoomRun) Try.underlying31 Try.sizeOf76 rfl o0 rfl i5) .plain rfl ?_
     have n5 := PT_idx o0 i5
     refine EL_pur (v := fPtr (ePtr up1 j0 3) 0) (P_fieldAddr at_76_0 rfl (PT.ptr n5)) .plain rfl ?_
     have c7 := PT_field (part_LoomRun_0).1 n5
     refine EL_do .plain rfl (D_load (g := n4) Try.isAgg3 Try.sizeOf3 rfl c7 fun b8 d7 => ?_)
     obtain rfl := RV_int.1 d7
     refine EL_do .plain rfl (D_buildSlice (g := n4) 3029 (xs := ([(z3).Order] : List Int)) (vs := [.int .i64 ((z3).Order)]) Try.underlying22 Try.sizeOf3 Try.zeroValue3 rfl rfl (.cons rfl .nil) (RVs.cons (RV_int.2 rfl) RVs.nil) rfl rfl fun e7 c8 d8 hs o121 g7 hxt hfl => ?_)
     have hfr := hfr.stp hs
     have u0 := u0.stp hs
     have o0 := o0.stp hs
     have j1 := j1.stp hs
     have z2 := z2.stp hs
     have d3 := d3.stp hs rfl
     obtain ⟨j5, q6, h⟩ := bsome h
     refine EL_do .plain rfl (D_append (g := e7) (i := 3009) Try.underlying22 info_3 rfl rfl d3 z2 rfl g7 q6 fun i7 e8 o5 hs o122 j7 _ => ?_)
     have hfr := hfr.stp hs
     have u0 := u0.stp hs
     have o0 := o0.stp hs
     have j1 := j1.stp hs
     refine EL_at o5 rfl rfl ?_
     refine EL_nil (blk_n ?_)
     obtain rfl := sinj h
     exact hQ _ _ ⟨i7, (o5), hfr, c4, u0, o3, o0, d4, j1, rfl, j7, o122, p3⟩
    ·refine E_cf i4 rfl ?_
     refine E_skip (blk_n ?_)
     obtain rfl := sinj h
     exact hQ _ _ ⟨n4, (j3), hfr, c4, u0, o3, o0, d4, j1, d5, z2, d3, p3⟩
   ·clear hx
    obtain ⟨l7, p5, hfr, q5, t5, u5, x5, y5, z5, a6, b6, c6, d6⟩ := hR
    refine E_region (EL_mv d6 rfl ?_)
    refine EL_in (.int .i64 ((w64 (j0 + (1 : Int))))) rfl rfl rfl rfl ?_
    refine EL_at (.int .i64 ((w64 (j0 + (1 : Int))))) rfl rfl ?_
    exact EL_nil (thn_n (y6 (z1, (w64 (j0 + (1 : Int)))) _ _ ⟨l7, (p5), hfr, q5, t5, u5, x5, y5, z5, a6, b6, c6, rfl⟩ h))
 ·clear hx
  obtain ⟨g8, j4, hfr, i6, j6, p7⟩ := hR
  refine E_seq (E_region (EL_mv i6 rfl ?_))
  refine EL_at j4 rfl rfl ?_
  refine EL_nil (thn_n (E_ret ?_))
  obtain rfl := sinj h
  exact end1 rfl rfl (show _ = j4 from rfl) ⟨_, hfr, j6⟩
/-- griffe/grifferef08.Push -/
def f38 (x0 : LoomMill) (x1 : List LoomOrder) (x2 : List LoomRun) (x3 : LoomStop) : Option ((List LoomRun) × (List Int) × Bool) :=
 (apnd 24 ([] : List LoomRun) x2).bind fun y5 =>
 (mks 1 (false : Bool) (((x2).length : Int))).bind fun y7 =>
 Option.bind (α := (List LoomRun)) (
  lp (σ := (List LoomRun) × (List Bool) × Int) (fun yG (o5, c4, j1) =>
   Option.bind (α := Int) (
    lp (σ := Int × Int) (fun zG (j3, u0) =>
     jn (σ := Unit) (fun (_ : Unit) =>
      Option.bind (α := Int) (
       Option.bind (α := Bool) (
        (idx c4 u0).bind fun c5 =>
        bif (!c5) then
         (idx x2 u0).bind fun l5 =>
         bif ((l5).Loom == (x3).Loom) then
          bif (decide (j3 < (0 : Int))) then
           some (true)
          else
           (idx x2 u0).bind fun aH =>
           (idx x2 j3).bind fun bH =>
           (f76 aH bH).bind fun m7 =>
           some (m7)
         else
          some (false)
        else
         some (false)
        ) fun x6 =>
       bif x6 then
        some (u0)
       else
        some (j3)
       ) fun b7 =>
      zG (b7, (w64 (u0 + (1 : Int))))
      ) fun cH =>
     bif (decide (u0 < ((x2).length : Int))) then
      cH ()
     else
      some (j3)
     ) big ((-1 : Int), (0 : Int))
    ) fun j0 =>
   jn (σ := Unit) (fun (_ : Unit) =>
    (idx c4 j0).bind fun tL =>
    Option.bind (α := (List LoomRun)) (
     lp (σ := (List LoomRun)) (fun dH i4 =>
      jn (σ := Unit) (fun (_ : Unit) =>
       (idx i4 j0).bind fun k9 =>
       (idx i4 j0).bind fun tD =>
       dH ((List.set i4 (Int.toNat j0) ({ tD with From := (w64 ((k9).From + (1 : Int))) })))
       ) fun gH =>
      Option.bind (α := Bool) (
       bif (decide (j1 ≥ (0 : Int))) then
        (idx i4 j0).bind fun j6 =>
        (idx i4 j1).bind fun iH =>
        (idx i4 j0).bind fun jH =>
        (f77 x0 x1 iH jH).bind fun z5 =>
        bif (decide ((j6).From < z5)) then
         some (true)
        else
         (idx i4 j0).bind fun kH =>
         (f75 x1 kH x3).bind fun k8 =>
         some (k8)
       else
        (idx i4 j0).bind fun lH =>
        (f75 x1 lH x3).bind fun l8 =>
        some (l8)
       ) fun y6 =>
      bif y6 then
       gH ()
      else
       some (i4)
      ) big (o5)
     ) fun c7 =>
    yG (c7, (List.set c4 (Int.toNat j0) true), j0)
    ) fun mH =>
   bif (decide (j0 < (0 : Int))) then
    some (o5)
   else
    mH ()
   ) big (y5, y7, (-1 : Int))
  ) fun u3 =>
 jn (σ := (List Int)) (fun t9 =>
  some (u3, t9, true)
  ) fun nH =>
 lp (σ := (List Int) × Int) (fun oH (m5, z1) =>
  jn (σ := Unit) (fun (_ : Unit) =>
   jn (σ := (List Int)) (fun q7 =>
    oH (q7, (w64 (z1 + (1 : Int))))
    ) fun uD =>
   jn (σ := Unit) (fun (_ : Unit) =>
    (idx u3 z1).bind fun m8 =>
    (idx u3 z1).bind fun n8 =>
    (idx x1 (n8).Order).bind fun o8 =>
    (idx u3 z1).bind fun p8 =>
    (idx x1 (p8).Order).bind fun l9 =>
    bif (decide ((w64 ((m8).From + (o8).Woven)) > (l9).Late)) then
     (idx u3 z1).bind fun m9 =>
     (apnd 8 m5 (([(m9).Order] : List Int))).bind fun vD =>
     uD (vD)
    else
     uD (m5)
    ) fun pH =>
   (idx u3 z1).bind fun xD =>
   bif (decide ((xD).From > (300 : Int))) then
    some ([], [], false)
   else
    pH ()
   ) fun qH =>
  bif (decide (z1 < ((u3).length : Int))) then
   qH ()
  else
   nH (m5)
  ) big (([] : List Int), (0 : Int))
theorem en38 : Enters Try.prog 38 := enters_of Try.func38 (by kernel_rfl) rfl
theorem wk38 {gI : Gh} {wI : World} {x0 : LoomMill} {x1 : List LoomOrder} {x2 : List LoomRun} {x3 : LoomStop} {up0 : Value} (rp0 : RV gI.m wI x0 up0) {up1 : Value} (rp1 : RV gI.m wI x1 up1) {up2 : Value} (rp2 : RV gI.m wI x2 up2) {up3 : Value} (rp3 : RV gI.m wI x3 up3) {r : (List LoomRun) × (List Int) × Bool} (h : f38 x0 x1 x2 x3 = some r) : Fn Try.prog 38 #[up0, up1, up2, up3] gI wI (fun m w v => ∃ y0 y1 y2, v = .tuple #[y0, y1, y2] ∧ RV m w (r.1) y0 ∧ RV m w (r.2.1) y1 ∧ y2 = .bool (r.2.2)) := by
 unfold f38 at h
 refine fn_of_E Try.func38 rfl (Nat.le_of_ble_eq_true rfl) fun g0 hm hfr => ?_
 have rp0 : RV g0.m wI x0 up0 := hm ▸ rp0
 have rp1 : RV g0.m wI x1 up1 := hm ▸ rp1
 have rp2 : RV g0.m wI x2 up2 := hm ▸ rp2
 have rp3 : RV g0.m wI x3 up3 := hm ▸ rp3
 show E _ 153 none _ _ _ _ _
 refine E_seq (E_region (EL_do .plain rfl (D_box (g := g0) rfl rp0 fun g1 w1 p1 hs q1 => ?_)))
 have hfr := hfr.ext hs
 have rp1 := rp1.ext hs
 have rp2 := rp2.ext hs
 have rp3 := rp3.ext hs
 refine EL_do .plain rfl (D_box (g := g1) rfl rp3 fun g2 w2 p2 hs q2 => ?_)
 have hfr := hfr.ext hs
 have rp1 := rp1.ext hs
 have rp2 := rp2.ext hs
 have q1 := q1.ext hs
 refine EL_at (.slice none 0 0) rfl rfl ?_
 refine EL_at (.slice none 0 0) rfl rfl ?_
 refine EL_at (.bool false) rfl rfl ?_
 refine EL_nil (thn_n (E_seq (E_region (EL_do .plain rfl (D_buildSlice (g := g2) 3018 (xs := ([] : List LoomRun)) (vs := []) Try.underlying31 Try.sizeOf76 Try.zeroValue76 rfl rfl .nil RVs.nil rfl rfl fun g3 w3 v3 hs o3 r3 hxt hfl => ?_)))))
 have hfr := hfr.stp hs
 have rp1 := rp1.stp hs
 have rp2 := rp2.stp hs
 have q1 := q1.stp hs
 have q2 := q2.stp hs
 refine EL_mw up2 rfl rfl ?_
 obtain ⟨y5, vN, h⟩ := bsome h
 have oa4 := OA.ofOS o3
 refine EL_do .plain rfl (D_appendA (g := g3) plain_LoomRun (i := 3018) Try.underlying31 info_76 rfl rfl oa4 rfl rp2 vN fun g4 w4 v4 hs b4 => ?_)
 have hfr := hfr.stp hs
 have rp1 := rp1.stp hs
 have rp2 := rp2.stp hs
 have q1 := q1.stp hs
 have q2 := q2.stp hs
 refine EL_do .plain rfl (D_buildSlice (g := g4) 3021 (xs := ([] : List Int)) (vs := []) Try.underlying22 Try.sizeOf3 Try.zeroValue3 rfl rfl .nil RVs.nil rfl rfl fun g6 w6 v6 hs o6 r6 hxt hfl => ?_)
 have hfr := hfr.stp hs
 have rp1 := rp1.stp hs
 have rp2 := rp2.stp hs
 have q1 := q1.stp hs
 have q2 := q2.stp hs
 have b4 := b4.stp hs rfl
 refine EL_at v4 rfl rfl ?_
 refine EL_at v6 rfl rfl ?_
 refine EL_nil (thn_n (E_seq (E_region (EL_mw up2 rfl rfl ?_))))
 refine EL_pur (v := .int .i64 ((x2).length : Int)) (P_len Try.underlying31 rfl rp2) .plain rfl ?_
 obtain ⟨y7, xN, h⟩ := bsome h
 refine EL_do .plain rfl (D_makeSliceM (g := g6) 9024 (false : Bool) rfl Try.underlying101 info_4 rfl (fun _ _ => rfl) rfl rfl xN fun g8 w8 v8 hs b8 => ?_)
 have hfr := hfr.stp hs
 have rp1 := rp1.stp hs
 have rp2 := rp2.stp hs
 have q1 := q1.stp hs
 have q2 := q2.stp hs
 have r6 := r6.stp hs
 have o6 := o6.stp hs rfl
 have b4 := b4.stp hs rfl
 refine EL_at v8 rfl rfl ?_
 refine EL_nil (thn_n (E_seq (E_region (EL_at (.int .i64 (-1)) rfl rfl ?_))))
 refine EL_nil (thn_n ?_)
 obtain ⟨u3, hx, h⟩ := bsome h
 refine E_join (fun e w => ∃ (g : Gh) , Fr gI wI g w ∧ e 1 = up1 ∧ RV g.m w (x1 : List LoomOrder) up1 ∧ e 11 = v4 ∧ OA 3018 g w 76 (u3 : List LoomRun) v4 ∧ e 12 = v6 ∧ RV g.m w (([] : List Int) : List Int) v6 ∧ OS 3021 g w 3 (([] : List Int) : List Int) v6) (fun Q' hQ => ?_) (fun yN qO hR => ?_)
 ·replace h := hx
  clear hx
  refine E_block ?_
  refine E_lp h (fun (s : (List LoomRun) × (List Bool) × Int) e w => ∃ (g : Gh) , Fr gI wI g w ∧ e 1 = up1 ∧ RV g.m w (x1 : List LoomOrder) up1 ∧ e 2 = up2 ∧ RV g.m w (x2 : List LoomRun) up2 ∧ e 4 = p1 ∧ PT g.m w (x0 : LoomMill) p1 ∧ e 7 = p2 ∧ PT g.m w (x3 : LoomStop) p2 ∧ e 11 = v4 ∧ OA 3018 g w 76 (s.1 : List LoomRun) v4 ∧ e 12 = v6 ∧ RV g.m w (([] : List Int) : List Int) v6 ∧ OS 3021 g w 3 (([] : List Int) : List Int) v6 ∧ e 13 = v8 ∧ OM 9024 g w 4 (s.2.1 : List Bool) v8 ∧ e 14 = .int .i64 (s.2.2)) ⟨g8, hfr, rfl, rp1, rfl, rp2, rfl, q1, rfl, q2, rfl, b4, rfl, r6, o6, rfl, b8, rfl⟩ (fun X2681 yG pK => ?_)
  rintro ⟨o5, c4, j1⟩ zN rO ⟨uL, hfr, pI, qI, rI, sI, tI, uI, vI, xI, pE, qE, rE, sE, tE, uE, vE, xE⟩ h
  refine E_block ?_
  refine E_seq (E_region (EL_at (.int .i64 (-1)) rfl rfl ?_))
  refine EL_nil (thn_n ?_)
  obtain ⟨j0, hx, h⟩ := bsome h
  refine E_join (fun e w => ∃ (g : Gh) , Fr gI wI g w ∧ e 1 = up1 ∧ RV g.m w (x1 : List LoomOrder) up1 ∧ e 2 = up2 ∧ RV g.m w (x2 : List LoomRun) up2 ∧ e 4 = p1 ∧ PT g.m w (x0 : LoomMill) p1 ∧ e 7 = p2 ∧ PT g.m w (x3 : LoomStop) p2 ∧ e 11 = v4 ∧ OA 3018 g w 76 (o5 : List LoomRun) v4 ∧ e 12 = v6 ∧ RV g.m w (([] : List Int) : List Int) v6 ∧ OS 3021 g w 3 (([] : List Int) : List Int) v6 ∧ e 13 = v8 ∧ OM 9024 g w 4 (c4 : List Bool) v8 ∧ e 14 = .int .i64 (j1) ∧ e 15 = .int .i64 (j0)) (fun Q' hQ => ?_) (fun aO sO hR => ?_)
  ·replace h := hx
   clear hx
   refine E_seq (E_region (EL_at (.int .i64 (0)) rfl rfl ?_))
   refine EL_nil (thn_n (E_block ?_))
   refine E_lp h (fun (s : Int × Int) e w => ∃ (g : Gh) , Fr gI wI g w ∧ e 1 = up1 ∧ RV g.m w (x1 : List LoomOrder) up1 ∧ e 2 = up2 ∧ RV g.m w (x2 : List LoomRun) up2 ∧ e 4 = p1 ∧ PT g.m w (x0 : LoomMill) p1 ∧ e 7 = p2 ∧ PT g.m w (x3 : LoomStop) p2 ∧ e 11 = v4 ∧ OA 3018 g w 76 (o5 : List LoomRun) v4 ∧ e 12 = v6 ∧ RV g.m w (([] : List Int) : List Int) v6 ∧ OS 3021 g w 3 (([] : List Int) : List Int) v6 ∧ e 13 = v8 ∧ OM 9024 g w 4 (c4 : List Bool) v8 ∧ e 14 = .int .i64 (j1) ∧ e 15 = .int .i64 (s.1) ∧ e 16 = .int .i64 (s.2)) ⟨uL, hfr, pI, qI, rI, sI, tI, uI, vI, xI, pE, qE, rE, sE, tE, uE, vE, xE, rfl, rfl⟩ (fun X3426 zG qK => ?_)
   rintro ⟨j3, u0⟩ bO tO ⟨sH, hfr, sC, tC, x8, y8, uC, vC, xC, yC, u9, v9, x9, y9, z9, aA, bA, cA, dA, eA⟩ h
   refine E_joinC h (fun (s : Unit) e w => ∃ (g : Gh) , Fr gI wI g w ∧ e 1 = up1 ∧ RV g.m w (x1 : List LoomOrder) up1 ∧ e 2 = up2 ∧ RV g.m w (x2 : List LoomRun) up2 ∧ e 4 = p1 ∧ PT g.m w (x0 : LoomMill) p1 ∧ e 7 = p2 ∧ PT g.m w (x3 : LoomStop) p2 ∧ e 11 = v4 ∧ OA 3018 g w 76 (o5 : List LoomRun) v4 ∧ e 12 = v6 ∧ RV g.m w (([] : List Int) : List Int) v6 ∧ OS 3021 g w 3 (([] : List Int) : List Int) v6 ∧ e 13 = v8 ∧ OM 9024 g w 4 (c4 : List Bool) v8 ∧ e 14 = .int .i64 (j1) ∧ e 15 = .int .i64 (j3) ∧ e 16 = .int .i64 (u0)) (fun X3429 cH sK h => ?_) ?_
   ·refine E_seq (E_region (EL_mv eA rfl ?_))
    refine EL_mv x8 rfl ?_
    refine EL_pur (v := .int .i64 ((x2).length : Int)) (P_len Try.underlying31 rfl y8) .plain rfl ?_
    refine EL_in (.bool ((decide (u0 < ((x2).length : Int))))) rfl rfl rfl rfl ?_
    refine EL_nil (thn_n ?_)
    rcases csome h with ⟨gA, h⟩ | ⟨gA, h⟩
    ·refine E_ct gA rfl ?_
     exact E_skip (thn_n (sK () _ _ ⟨sH, hfr, sC, tC, x8, y8, uC, vC, xC, yC, u9, v9, x9, y9, z9, aA, bA, cA, dA, eA⟩ h))
    ·refine E_cf gA rfl ?_
     refine E_exit ?_
     refine thn_e ?_
     refine thn_e ?_
     refine blk_hit ?_
     obtain rfl := sinj h
     exact hQ _ _ ⟨sH, hfr, sC, tC, x8, y8, uC, vC, xC, yC, u9, v9, x9, y9, z9, aA, bA, cA, dA⟩
   ·rintro _ cO uO ⟨n9, hfr, n7, d5, d6, i3, o7, i5, l6, d4, d7, m4, e7, n4, o4, a6, p3, g7, k6, p4⟩ h
    obtain ⟨b7, hx, h⟩ := bsome h
    refine E_join (fun e w => ∃ (g : Gh) , Fr gI wI g w ∧ e 1 = up1 ∧ RV g.m w (x1 : List LoomOrder) up1 ∧ e 2 = up2 ∧ RV g.m w (x2 : List LoomRun) up2 ∧ e 4 = p1 ∧ PT g.m w (x0 : LoomMill) p1 ∧ e 7 = p2 ∧ PT g.m w (x3 : LoomStop) p2 ∧ e 11 = v4 ∧ OA 3018 g w 76 (o5 : List LoomRun) v4 ∧ e 12 = v6 ∧ RV g.m w (([] : List Int) : List Int) v6 ∧ OS 3021 g w 3 (([] : List Int) : List Int) v6 ∧ e 13 = v8 ∧ OM 9024 g w 4 (c4 : List Bool) v8 ∧ e 14 = .int .i64 (j1) ∧ e 15 = .int .i64 (b7) ∧ e 16 = .int .i64 (u0)) (fun Q' hQ => ?_) (fun dO vO hR => ?_)
    ·replace h := hx
     clear hx
     refine E_block ?_
     obtain ⟨x6, hx, h⟩ := bsome h
     refine E_join (fun e w => ∃ (g : Gh) , Fr gI wI g w ∧ e 1 = up1 ∧ RV g.m w (x1 : List LoomOrder) up1 ∧ e 2 = up2 ∧ RV g.m w (x2 : List LoomRun) up2 ∧ e 4 = p1 ∧ PT g.m w (x0 : LoomMill) p1 ∧ e 7 = p2 ∧ PT g.m w (x3 : LoomStop) p2 ∧ e 11 = v4 ∧ OA 3018 g w 76 (o5 : List LoomRun) v4 ∧ e 12 = v6 ∧ RV g.m w (([] : List Int) : List Int) v6 ∧ OS 3021 g w 3 (([] : List Int) : List Int) v6 ∧ e 13 = v8 ∧ OM 9024 g w 4 (c4 : List Bool) v8 ∧ e 14 = .int .i64 (j1) ∧ e 15 = .int .i64 (j3) ∧ e 16 = .int .i64 (u0) ∧ e 60 = .bool (x6)) (fun Q' hQ => ?_) (fun eO xO hR => ?_)
     ·replace h := hx
      clear hx
      obtain ⟨c5, j7, h⟩ := bsome h
      refine L_loadM (x := .tmp 33) Try.isAgg4 Try.sizeOf4 p3 j7 fun yO vL q8 => ?_
      obtain rfl := RV_bool.1 vL
      rcases csome h with ⟨j2, h⟩ | ⟨j2, h⟩
      ·obtain ⟨l5, r8, h⟩ := bsome h
       have o9 := PT_idx i3 r8
       have xL := PT_field (part_LoomRun_1).1 o9
       refine L_load (x := .tmp 40) Try.isAgg3 Try.sizeOf3 xL fun zO yL iA => ?_
       obtain rfl := RV_int.1 yL
       have zL := PT_field (part_LoomStop_0).1 d4
       refine L_load (x := .tmp 42) Try.isAgg3 Try.sizeOf3 zL fun aP aM jA => ?_
       obtain rfl := RV_int.1 aM
       rcases csome h with ⟨u4, h⟩ | ⟨u4, h⟩
       ·rcases csome h with ⟨z3, h⟩ | ⟨z3, h⟩
        ·refine E_drawL (g := n9) (n := 30) [] [0, 1, 2, 3, 4, 5, 6, 7, 8, 9, 10, 11, 12, 13, 14, 15, 16, 17, 18, 19, 20, 21, 22, 23, 24, 25, 26, 27, 28, 29] rfl mixed (by kernel_rfl) trivial ?_
         refine L_pur (c := v8) rfl rfl .plain (fun _ _ hd => P_move a6) ?_
         refine L_pur (c := .int .i64 (u0)) rfl rfl .plain (fun _ _ hd => P_move p4) ?_
         refine L_pur (c := ePtr v8 u0 1) rfl rfl .plain (fun _ _ hd => P_indexAddrM (α := Bool) Try.underlying101 Try.sizeOf4 rfl p3 rfl j7) ?_
         refine L_ld (c := .bool (c5)) rfl rfl .plain (fun _ _ h => ⟨h.ch, fun b hb _ => h.below.block b hb⟩) q8 rfl ?_
         refine L_pur (c := .bool (!c5)) rfl rfl .plain (fun _ _ hd => P_not rfl) ?_
         refine L_pur (c := .bool (!c5)) rfl rfl .plain (fun _ _ hd => P_move rfl) ?_
         refine L_pur (c := up2) rfl rfl (.yes2 rfl rfl j2) (fun _ _ hd => P_move d6) ?_
         refine L_pur (c := .int .i64 (u0)) rfl rfl (.yes2 rfl rfl j2) (fun _ _ hd => P_move p4) ?_
         refine L_pur (c := ePtr up2 u0 3) rfl rfl (.yes2 rfl rfl j2) (fun _ _ hd => P_indexAddr (α := LoomRun) Try.underlying31 Try.sizeOf76 rfl i3 rfl r8) ?_
         refine L_pur (c := fPtr (ePtr up2 u0 3) 1) rfl rfl (.yes2 rfl rfl j2) (fun _ _ hd => P_fieldAddr at_76_1 rfl (PT.ptr o9)) ?_
         refine L_ld (c := .int .i64 ((l5).Loom)) rfl rfl (.yes2 rfl rfl j2) (fun _ _ h => h.ch) iA rfl ?_
         refine L_pur (c := fPtr p2 0) rfl rfl (.yes2 rfl rfl j2) (fun _ _ hd => P_fieldAddr at_54_0 l6 (PT.ptr d4)) ?_
         refine L_ld (c := .int .i64 ((x3).Loom)) rfl rfl (.yes2 rfl rfl j2) (fun _ _ h => h.ch) jA rfl ?_
         refine L_pur (c := .bool (((l5).Loom == (x3).Loom))) rfl rfl (.yes2 rfl rfl j2) (fun _ _ hd => P_int rfl rfl rfl) ?_
         refine L_pur (c := .bool (((l5).Loom == (x3).Loom))) rfl rfl .plain (fun _ _ hd => P_pick (b := (!c5)) rfl (pick_t j2 rfl)) ?_
         refine L_pur (c := .bool (((l5).Loom == (x3).Loom))) rfl rfl .plain (fun _ _ hd => P_move rfl) ?_
         refine L_pur (c := .int .i64 (j3)) rfl rfl (.yes2 rfl rfl u4) (fun _ _ hd => P_move k6) ?_
         refine L_pur (c := .bool ((decide (j3 < (0 : Int))))) rfl rfl (.yes2 rfl rfl u4) (fun _ _ hd => P_int rfl rfl rfl) ?_
         refine L_pur (c := .bool ((decide (j3 < (0 : Int))))) rfl rfl (.yes2 rfl rfl u4) (fun _ _ hd => P_move rfl) ?_
         refine L_skip rfl (.no2 rfl rfl z3 rfl) ?_
         refine L_skip rfl (.no2 rfl rfl z3 rfl) ?_
         refine L_skip rfl (.no2 rfl rfl z3 rfl) ?_
         refine L_skip rfl (.no2 rfl rfl z3 rfl) ?_
         refine L_skip rfl (.no2 rfl rfl z3 rfl) ?_
         refine L_skip rfl (.no2 rfl rfl z3 rfl) ?_
         refine L_skip rfl (.no2 rfl rfl z3 rfl) ?_
         refine L_skip rfl (.no2 rfl rfl z3 rfl) ?_
         refine L_skip rfl (.no2 rfl rfl z3 rfl) ?_
         refine L_pur (c := .bool true) rfl rfl (.yes2 rfl rfl u4) (fun _ _ hd => P_pick (b := (decide (j3 < (0 : Int)))) rfl (pick_t z3 rfl)) ?_
         refine L_pur (c := .bool true) rfl rfl .plain (fun _ _ hd => P_pick (b := ((l5).Loom == (x3).Loom)) rfl (pick_t u4 rfl)) ?_
         refine L_nil fun bM bP hall => ?_
         have hs := hall.1
         have hfr := hfr.ext hs
         have d5 := d5.ext hs
         have i3 := i3.ext hs
         have i5 := i5.ext hs
         have d4 := d4.ext hs
         have m4 := m4.ext hs
         have n4 := n4.ext hs
         have o4 := o4.ext hs
         have p3 := p3.ext hs
         clear hs hall
         refine EL_nil ?_
         obtain rfl := sinj h
         exact hQ _ _ ⟨bM, hfr, n7, d5, d6, i3, o7, i5, l6, d4, d7, m4, e7, n4, o4, a6, p3, g7, k6, p4, rfl⟩
        ·obtain ⟨aH, aE, h⟩ := bsome h
         have cM := PT_idx i3 aE
         refine L_load (x := .tmp 52) Try.isAgg76 Try.sizeOf76 cM fun tH dM tK => ?_
         obtain ⟨bH, bE, h⟩ := bsome h
         have eM := PT_idx i3 bE
         refine L_load (x := .tmp 56) Try.isAgg76 Try.sizeOf76 eM fun uH gM uK => ?_
         obtain ⟨m7, vK, h⟩ := bsome h
         refine E_drawL (g := n9) (n := 30) [(27, (fun v g w => v = .bool (m7)))] [0, 1, 2, 3, 4, 5, 6, 7, 8, 9, 10, 11, 12, 13, 14, 15, 16, 17, 18, 19, 20, 21, 22, 23, 24, 25, 26, 27, 28, 29] rfl mixed (by kernel_rfl) (⟨fun _ => up_eq _, trivial⟩) ?_
         refine L_pur (c := v8) rfl rfl .plain (fun _ _ hd => P_move a6) ?_
         refine L_pur (c := .int .i64 (u0)) rfl rfl .plain (fun _ _ hd => P_move p4) ?_
         refine L_pur (c := ePtr v8 u0 1) rfl rfl .plain (fun _ _ hd => P_indexAddrM (α := Bool) Try.underlying101 Try.sizeOf4 rfl p3 rfl j7) ?_
         refine L_ld (c := .bool (c5)) rfl rfl .plain (fun _ _ h => ⟨h.ch, fun b hb _ => h.below.block b hb⟩) q8 rfl ?_
         refine L_pur (c := .bool (!c5)) rfl rfl .plain (fun _ _ hd => P_not rfl) ?_
         refine L_pur (c := .bool (!c5)) rfl rfl .plain (fun _ _ hd => P_move rfl) ?_
         refine L_pur (c := up2) rfl rfl (.yes2 rfl rfl j2) (fun _ _ hd => P_move d6) ?_
         refine L_pur (c := .int .i64 (u0)) rfl rfl (.yes2 rfl rfl j2) (fun _ _ hd => P_move p4) ?_
         refine L_pur (c := ePtr up2 u0 3) rfl rfl (.yes2 rfl rfl j2) (fun _ _ hd => P_indexAddr (α := LoomRun) Try.underlying31 Try.sizeOf76 rfl i3 rfl r8) ?_
         refine L_pur (c := fPtr (ePtr up2 u0 3) 1) rfl rfl (.yes2 rfl rfl j2) (fun _ _ hd => P_fieldAddr at_76_1 rfl (PT.ptr o9)) ?_
         refine L_ld (c := .int .i64 ((l5).Loom)) rfl rfl (.yes2 rfl rfl j2) (fun _ _ h => h.ch) iA rfl ?_
         refine L_pur (c := fPtr p2 0) rfl rfl (.yes2 rfl rfl j2) (fun _ _ hd => P_fieldAddr at_54_0 l6 (PT.ptr d4)) ?_
         refine L_ld (c := .int .i64 ((x3).Loom)) rfl rfl (.yes2 rfl rfl j2) (fun _ _ h => h.ch) jA rfl ?_
         refine L_pur (c := .bool (((l5).Loom == (x3).Loom))) rfl rfl (.yes2 rfl rfl j2) (fun _ _ hd => P_int rfl rfl rfl) ?_
         refine L_pur (c := .bool (((l5).Loom == (x3).Loom))) rfl rfl .plain (fun _ _ hd => P_pick (b := (!c5)) rfl (pick_t j2 rfl)) ?_
         refine L_pur (c := .bool (((l5).Loom == (x3).Loom))) rfl rfl .plain (fun _ _ hd => P_move rfl) ?_
         refine L_pur (c := .int .i64 (j3)) rfl rfl (.yes2 rfl rfl u4) (fun _ _ hd => P_move k6) ?_
         refine L_pur (c := .bool ((decide (j3 < (0 : Int))))) rfl rfl (.yes2 rfl rfl u4) (fun _ _ hd => P_int rfl rfl rfl) ?_
         refine L_pur (c := .bool ((decide (j3 < (0 : Int))))) rfl rfl (.yes2 rfl rfl u4) (fun _ _ hd => P_move rfl) ?_
         refine L_pur (c := up2) rfl rfl (.yes2 rfl rfl z3) (fun _ _ hd => P_move d6) ?_
         refine L_pur (c := .int .i64 (u0)) rfl rfl (.yes2 rfl rfl z3) (fun _ _ hd => P_move p4) ?_
         refine L_pur (c := ePtr up2 u0 3) rfl rfl (.yes2 rfl rfl z3) (fun _ _ hd => P_indexAddr (α := LoomRun) Try.underlying31 Try.sizeOf76 rfl i3 rfl aE) ?_
         refine L_ld (c := tH) rfl rfl (.yes2 rfl rfl z3) (fun _ _ h => h.ch) tK rfl ?_
         refine L_pur (c := up2) rfl rfl (.yes2 rfl rfl z3) (fun _ _ hd => P_move d6) ?_
         refine L_pur (c := .int .i64 (j3)) rfl rfl (.yes2 rfl rfl z3) (fun _ _ hd => P_move k6) ?_
         refine L_pur (c := ePtr up2 j3 3) rfl rfl (.yes2 rfl rfl z3) (fun _ _ hd => P_indexAddr (α := LoomRun) Try.underlying31 Try.sizeOf76 rfl i3 rfl bE) ?_
         refine L_ld (c := uH) rfl rfl (.yes2 rfl rfl z3) (fun _ _ h => h.ch) uK rfl ?_
         refine L_do (φ := fun v g w => v = .bool (m7)) rfl rfl (.yes2 rfl rfl z3) (fun g w hd => D_call (g := g) (vs := [tH, uH]) en76 (.cons rfl (.cons rfl .nil)) (wk76 (dM.ext hd.1) (gM.ext hd.1) vK) fun g' w' v hs hr => ⟨g', hs, hr⟩) (fun cP hv => ?_)
         obtain ⟨_, _, _, rfl⟩ := hv
         refine L_pur (c := .bool (m7)) rfl rfl (.yes2 rfl rfl u4) (fun _ _ hd => P_pick (b := (decide (j3 < (0 : Int)))) rfl (pick_f z3 rfl)) ?_
         refine L_pur (c := .bool (m7)) rfl rfl .plain (fun _ _ hd => P_pick (b := ((l5).Loom == (x3).Loom)) rfl (pick_t u4 rfl)) ?_
         refine L_nil fun iM dP hall => ?_
         have hs := hall.1
         have hfr := hfr.ext hs
         have d5 := d5.ext hs
         have i3 := i3.ext hs
         have i5 := i5.ext hs
         have d4 := d4.ext hs
         have m4 := m4.ext hs
         have n4 := n4.ext hs
         have o4 := o4.ext hs
         have p3 := p3.ext hs
         clear hs hall
         refine EL_nil ?_
         obtain rfl := sinj h
         exact hQ _ _ ⟨iM, hfr, n7, d5, d6, i3, o7, i5, l6, d4, d7, m4, e7, n4, o4, a6, p3, g7, k6, p4, rfl⟩
       ·refine E_drawL (g := n9) (n := 30) [] [0, 1, 2, 3, 4, 5, 6, 7, 8, 9, 10, 11, 12, 13, 14, 15, 16, 17, 18, 19, 20, 21, 22, 23, 24, 25, 26, 27, 28, 29] rfl mixed (by kernel_rfl) trivial ?_
        refine L_pur (c := v8) rfl rfl .plain (fun _ _ hd => P_move a6) ?_
        refine L_pur (c := .int .i64 (u0)) rfl rfl .plain (fun _ _ hd => P_move p4) ?_
        refine L_pur (c := ePtr v8 u0 1) rfl rfl .plain (fun _ _ hd => P_indexAddrM (α := Bool) Try.underlying101 Try.sizeOf4 rfl p3 rfl j7) ?_
        refine L_ld (c := .bool (c5)) rfl rfl .plain (fun _ _ h => ⟨h.ch, fun b hb _ => h.below.block b hb⟩) q8 rfl ?_
        refine L_pur (c := .bool (!c5)) rfl rfl .plain (fun _ _ hd => P_not rfl) ?_
        refine L_pur (c := .bool (!c5)) rfl rfl .plain (fun _ _ hd => P_move rfl) ?_
        refine L_pur (c := up2) rfl rfl (.yes2 rfl rfl j2) (fun _ _ hd => P_move d6) ?_
        refine L_pur (c := .int .i64 (u0)) rfl rfl (.yes2 rfl rfl j2) (fun _ _ hd => P_move p4) ?_
        refine L_pur (c := ePtr up2 u0 3) rfl rfl (.yes2 rfl rfl j2) (fun _ _ hd => P_indexAddr (α := LoomRun) Try.underlying31 Try.sizeOf76 rfl i3 rfl r8) ?_
        refine L_pur (c := fPtr (ePtr up2 u0 3) 1) rfl rfl (.yes2 rfl rfl j2) (fun _ _ hd => P_fieldAddr at_76_1 rfl (PT.ptr o9)) ?_
        refine L_ld (c := .int .i64 ((l5).Loom)) rfl rfl (.yes2 rfl rfl j2) (fun _ _ h => h.ch) iA rfl ?_
        refine L_pur (c := fPtr p2 0) rfl rfl (.yes2 rfl rfl j2) (fun _ _ hd => P_fieldAddr at_54_0 l6 (PT.ptr d4)) ?_
        refine L_ld (c := .int .i64 ((x3).Loom)) rfl rfl (.yes2 rfl rfl j2) (fun _ _ h => h.ch) jA rfl ?_
        refine L_pur (c := .bool (((l5).Loom == (x3).Loom))) rfl rfl (.yes2 rfl rfl j2) (fun _ _ hd => P_int rfl rfl rfl) ?_
        refine L_pur (c := .bool (((l5).Loom == (x3).Loom))) rfl rfl .plain (fun _ _ hd => P_pick (b := (!c5)) rfl (pick_t j2 rfl)) ?_
        refine L_pur (c := .bool (((l5).Loom == (x3).Loom))) rfl rfl .plain (fun _ _ hd => P_move rfl) ?_
        refine L_skip rfl (.no2 rfl rfl u4 rfl) ?_
        refine L_skip rfl (.no2 rfl rfl u4 rfl) ?_
        refine L_skip rfl (.no2 rfl rfl u4 rfl) ?_
        refine L_dead (fun _ => rfl) 9 rfl ?_
        refine L_skip rfl (.no2 rfl rfl u4 rfl) ?_
        refine L_pur (c := .bool false) rfl rfl .plain (fun _ _ hd => P_pick (b := ((l5).Loom == (x3).Loom)) rfl (pick_f u4 rfl)) ?_
        refine L_nil fun jM eP hall => ?_
        have hs := hall.1
        have hfr := hfr.ext hs
        have d5 := d5.ext hs
        have i3 := i3.ext hs
        have i5 := i5.ext hs
        have d4 := d4.ext hs
        have m4 := m4.ext hs
        have n4 := n4.ext hs
        have o4 := o4.ext hs
        have p3 := p3.ext hs
        clear hs hall
        refine EL_nil ?_
        obtain rfl := sinj h
        exact hQ _ _ ⟨jM, hfr, n7, d5, d6, i3, o7, i5, l6, d4, d7, m4, e7, n4, o4, a6, p3, g7, k6, p4, rfl⟩
      ·refine E_drawL (g := n9) (n := 30) [] [0, 1, 2, 3, 4, 5, 6, 7, 8, 9, 10, 11, 12, 13, 14, 15, 16, 17, 18, 19, 20, 21, 22, 23, 24, 25, 26, 27, 28, 29] rfl mixed (by kernel_rfl) trivial ?_
       refine L_pur (c := v8) rfl rfl .plain (fun _ _ hd => P_move a6) ?_
       refine L_pur (c := .int .i64 (u0)) rfl rfl .plain (fun _ _ hd => P_move p4) ?_
       refine L_pur (c := ePtr v8 u0 1) rfl rfl .plain (fun _ _ hd => P_indexAddrM (α := Bool) Try.underlying101 Try.sizeOf4 rfl p3 rfl j7) ?_
       refine L_ld (c := .bool (c5)) rfl rfl .plain (fun _ _ h => ⟨h.ch, fun b hb _ => h.below.block b hb⟩) q8 rfl ?_
       refine L_pur (c := .bool (!c5)) rfl rfl .plain (fun _ _ hd => P_not rfl) ?_
       refine L_pur (c := .bool (!c5)) rfl rfl .plain (fun _ _ hd => P_move rfl) ?_
       refine L_skip rfl (.no2 rfl rfl j2 rfl) ?_
       refine L_skip rfl (.no2 rfl rfl j2 rfl) ?_
       refine L_skip rfl (.no2 rfl rfl j2 rfl) ?_
       refine L_skip rfl (.no2 rfl rfl j2 rfl) ?_
       refine L_skip rfl (.no2 rfl rfl j2 rfl) ?_
       refine L_skip rfl (.no2 rfl rfl j2 rfl) ?_
       refine L_skip rfl (.no2 rfl rfl j2 rfl) ?_
       refine L_skip rfl (.no2 rfl rfl j2 rfl) ?_
       refine L_pur (c := .bool false) rfl rfl .plain (fun _ _ hd => P_pick (b := (!c5)) rfl (pick_f j2 rfl)) ?_
       refine L_dead (fun _ => rfl) 15 rfl ?_
       refine L_nil fun kM gP hall => ?_
       have hs := hall.1
       have hfr := hfr.ext hs
       have d5 := d5.ext hs
       have i3 := i3.ext hs
       have i5 := i5.ext hs
       have d4 := d4.ext hs
       have m4 := m4.ext hs
       have n4 := n4.ext hs
       have o4 := o4.ext hs
       have p3 := p3.ext hs
       clear hs hall
       refine EL_nil ?_
       obtain rfl := sinj h
       exact hQ _ _ ⟨kM, hfr, n7, d5, d6, i3, o7, i5, l6, d4, d7, m4, e7, n4, o4, a6, p3, g7, k6, p4, rfl⟩
     ·clear hx
      obtain ⟨vH, hfr, zC, aD, bD, cD, dD, eD, gD, iD, kA, lA, mA, nA, oA, pA, qA, rA, yE, r7, sA⟩ := hR
      rcases csome h with ⟨tA, h⟩ | ⟨tA, h⟩
      ·refine E_cond_true (Eq.trans (show ev _ _ = .bool (x6) from sA) (congrArg Value.bool tA)) ?_
       refine E_region (EL_mv r7 rfl ?_)
       refine EL_at (.int .i64 (u0)) rfl rfl ?_
       refine EL_nil (blk_n ?_)
       obtain rfl := sinj h
       exact hQ _ _ ⟨vH, hfr, zC, aD, bD, cD, dD, eD, gD, iD, kA, lA, mA, nA, oA, pA, qA, rA, rfl, r7⟩
      ·refine E_cond_false (Eq.trans (show ev _ _ = .bool (x6) from sA) (congrArg Value.bool tA)) ?_
       refine E_skip (blk_n ?_)
       obtain rfl := sinj h
       exact hQ _ _ ⟨vH, hfr, zC, aD, bD, cD, dD, eD, gD, iD, kA, lA, mA, nA, oA, pA, qA, rA, yE, r7⟩
    ·clear hx
     obtain ⟨mM, hfr, yI, zI, aJ, bJ, cJ, dJ, eJ, gJ, zE, aF, bF, cF, dF, eF, gF, iF, jF, kF⟩ := hR
     refine E_region (EL_mv kF rfl ?_)
     refine EL_in (.int .i64 ((w64 (u0 + (1 : Int))))) rfl rfl rfl rfl ?_
     refine EL_at (.int .i64 ((w64 (u0 + (1 : Int))))) rfl rfl ?_
     exact EL_nil (thn_n (qK (b7, (w64 (u0 + (1 : Int)))) _ _ ⟨mM, hfr, yI, zI, aJ, bJ, cJ, dJ, eJ, gJ, zE, aF, bF, cF, dF, eF, gF, iF, jF, rfl⟩ h))
  ·clear hx
   obtain ⟨xH, hfr, jD, kD, iJ, jJ, kJ, lJ, mJ, nJ, uA, vA, xA, yA, zA, lF, mF, nF, aB⟩ := hR
   refine E_joinC h (fun (s : Unit) e w => ∃ (g : Gh) , Fr gI wI g w ∧ e 1 = up1 ∧ RV g.m w (x1 : List LoomOrder) up1 ∧ e 2 = up2 ∧ RV g.m w (x2 : List LoomRun) up2 ∧ e 4 = p1 ∧ PT g.m w (x0 : LoomMill) p1 ∧ e 7 = p2 ∧ PT g.m w (x3 : LoomStop) p2 ∧ e 11 = v4 ∧ OA 3018 g w 76 (o5 : List LoomRun) v4 ∧ e 12 = v6 ∧ RV g.m w (([] : List Int) : List Int) v6 ∧ OS 3021 g w 3 (([] : List Int) : List Int) v6 ∧ e 13 = v8 ∧ OM 9024 g w 4 (c4 : List Bool) v8 ∧ e 14 = .int .i64 (j1) ∧ e 15 = .int .i64 (j0)) (fun X4171 mH xK h => ?_) ?_
   ·refine E_seq (E_region (EL_mv aB rfl ?_))
    refine EL_in (.bool ((decide (j0 < (0 : Int))))) rfl rfl rfl rfl ?_
    refine EL_nil (thn_n ?_)
    rcases csome h with ⟨bB, h⟩ | ⟨bB, h⟩
    ·refine E_ct bB rfl ?_
     refine E_exit ?_
     refine thn_e ?_
     refine blk_miss rfl ?_
     refine thn_e ?_
     refine blk_hit ?_
     obtain rfl := sinj h
     exact hQ _ _ ⟨xH, hfr, jD, kD, uA, vA, xA, yA, zA⟩
    ·refine E_cf bB rfl ?_
     exact E_skip (thn_n (xK () _ _ ⟨xH, hfr, jD, kD, iJ, jJ, kJ, lJ, mJ, nJ, uA, vA, xA, yA, zA, lF, mF, nF, aB⟩ h))
   ·rintro _ gO iP ⟨nM, hfr, oJ, z8, pJ, a9, qJ, b9, rJ, c9, oF, t7, pF, u7, v7, cB, dB, qF, eB⟩ h
    refine E_seq (E_region (EL_mv cB rfl ?_))
    refine EL_mv eB rfl ?_
    obtain ⟨tL, cE, h⟩ := bsome h
    refine EL_pur (v := ePtr v8 j0 1) (P_indexAddrM (α := Bool) Try.underlying101 Try.sizeOf4 rfl dB rfl cE) .plain rfl ?_
    refine EL_do .plain rfl (D_storeM (g := nM) (α := Bool) (a' := true) Try.sizeOf4 rfl dB cE rfl (RV_bool.2 rfl) fun oM jP hs b4175 => ?_)
    have hfr := hfr.stp hs
    have z8 := z8.stp hs
    have a9 := a9.stp hs
    have b9 := b9.stp hs
    have c9 := c9.stp hs
    have t7 := t7.stp hs rfl
    have u7 := u7.stp hs
    have v7 := v7.stp hs rfl
    refine EL_nil (thn_n ?_)
    obtain ⟨c7, hx, h⟩ := bsome h
    refine E_join (fun e w => ∃ (g : Gh) , Fr gI wI g w ∧ e 1 = up1 ∧ RV g.m w (x1 : List LoomOrder) up1 ∧ e 2 = up2 ∧ RV g.m w (x2 : List LoomRun) up2 ∧ e 4 = p1 ∧ PT g.m w (x0 : LoomMill) p1 ∧ e 7 = p2 ∧ PT g.m w (x3 : LoomStop) p2 ∧ e 11 = v4 ∧ OA 3018 g w 76 (c7 : List LoomRun) v4 ∧ e 12 = v6 ∧ RV g.m w (([] : List Int) : List Int) v6 ∧ OS 3021 g w 3 (([] : List Int) : List Int) v6 ∧ e 13 = v8 ∧ OM 9024 g w 4 ((List.set c4 (Int.toNat j0) true) : List Bool) v8 ∧ e 15 = .int .i64 (j0)) (fun Q' hQ => ?_) (fun hO kP hR => ?_)
    ·replace h := hx
     clear hx
     refine E_block ?_
     refine E_lp h (fun (s : (List LoomRun)) e w => ∃ (g : Gh) , Fr gI wI g w ∧ e 1 = up1 ∧ RV g.m w (x1 : List LoomOrder) up1 ∧ e 2 = up2 ∧ RV g.m w (x2 : List LoomRun) up2 ∧ e 4 = p1 ∧ PT g.m w (x0 : LoomMill) p1 ∧ e 7 = p2 ∧ PT g.m w (x3 : LoomStop) p2 ∧ e 11 = v4 ∧ OA 3018 g w 76 (s : List LoomRun) v4 ∧ e 12 = v6 ∧ RV g.m w (([] : List Int) : List Int) v6 ∧ OS 3021 g w 3 (([] : List Int) : List Int) v6 ∧ e 13 = v8 ∧ OM 9024 g w 4 ((List.set c4 (Int.toNat j0) true) : List Bool) v8 ∧ e 14 = .int .i64 (j1) ∧ e 15 = .int .i64 (j0)) ⟨oM, hfr, oJ, z8, pJ, a9, qJ, b9, rJ, c9, oF, t7, pF, u7, v7, cB, b4175, qF, eB⟩ (fun X4764 dH yK => ?_)
     rintro i4 iO lP ⟨yD, hfr, m6, x4, d9, i6, z6, x5, a7, n5, z4, z2, x7, p5, q5, z7, t5, b6, u5⟩ h
     refine E_joinC h (fun (s : Unit) e w => ∃ (g : Gh) , Fr gI wI g w ∧ e 1 = up1 ∧ RV g.m w (x1 : List LoomOrder) up1 ∧ e 2 = up2 ∧ RV g.m w (x2 : List LoomRun) up2 ∧ e 4 = p1 ∧ PT g.m w (x0 : LoomMill) p1 ∧ e 7 = p2 ∧ PT g.m w (x3 : LoomStop) p2 ∧ e 11 = v4 ∧ OA 3018 g w 76 (i4 : List LoomRun) v4 ∧ e 12 = v6 ∧ RV g.m w (([] : List Int) : List Int) v6 ∧ OS 3021 g w 3 (([] : List Int) : List Int) v6 ∧ e 13 = v8 ∧ OM 9024 g w 4 ((List.set c4 (Int.toNat j0) true) : List Bool) v8 ∧ e 14 = .int .i64 (j1) ∧ e 15 = .int .i64 (j0)) (fun X5054 gH zK h => ?_) ?_
     ·obtain ⟨y6, hx, h⟩ := bsome h
      refine E_join (fun e w => ∃ (g : Gh) , Fr gI wI g w ∧ e 1 = up1 ∧ RV g.m w (x1 : List LoomOrder) up1 ∧ e 2 = up2 ∧ RV g.m w (x2 : List LoomRun) up2 ∧ e 4 = p1 ∧ PT g.m w (x0 : LoomMill) p1 ∧ e 7 = p2 ∧ PT g.m w (x3 : LoomStop) p2 ∧ e 11 = v4 ∧ OA 3018 g w 76 (i4 : List LoomRun) v4 ∧ e 12 = v6 ∧ RV g.m w (([] : List Int) : List Int) v6 ∧ OS 3021 g w 3 (([] : List Int) : List Int) v6 ∧ e 13 = v8 ∧ OM 9024 g w 4 ((List.set c4 (Int.toNat j0) true) : List Bool) v8 ∧ e 14 = .int .i64 (j1) ∧ e 15 = .int .i64 (j0) ∧ e 96 = .bool (y6)) (fun Q' hQ => ?_) (fun jO mP hR => ?_)
      ·replace h := hx
       clear hx
       rcases csome h with ⟨o0, h⟩ | ⟨o0, h⟩
       ·obtain ⟨j6, t8, h⟩ := bsome h
        obtain ⟨pb5201, po5201, pe5201⟩ := OM.ptrE (k := 3) (z2.toM) t8
        refine L_loadMF (x := .tmp 73) part_LoomRun_2.1 Try.isAgg3 Try.sizeOf3 (z2.toM) t8 fun nP pM dE => ?_
        obtain rfl := RV_int.1 pM
        refine L_load (x := .tmp 4) Try.isAgg24 Try.sizeOf24 x5 fun p9 yH eE => ?_
        obtain ⟨iH, iB, h⟩ := bsome h
        refine L_loadM (x := .tmp 79) Try.isAgg76 Try.sizeOf76 (z2.toM) iB fun q9 zH gE => ?_
        obtain ⟨jH, jB, h⟩ := bsome h
        refine L_loadM (x := .tmp 83) Try.isAgg76 Try.sizeOf76 (z2.toM) jB fun r9 aI iE => ?_
        obtain ⟨z5, jE, h⟩ := bsome h
        rcases csome h with ⟨j4, h⟩ | ⟨j4, h⟩
        ·refine E_drawL (g := yD) (n := 30) [(18, (fun v g w => v = .int .i64 (z5)))] [0, 1, 2, 3, 4, 5, 6, 7, 8, 9, 10, 11, 12, 13, 14, 15, 16, 17, 18, 19, 20, 21, 22, 23, 24, 25, 26, 27, 28, 29] rfl mixed (by kernel_rfl) (⟨fun _ => up_eq _, trivial⟩) ?_
         refine L_pur (c := .int .i64 (j1)) rfl rfl .plain (fun _ _ hd => P_move b6) ?_
         refine L_pur (c := .bool ((decide (j1 ≥ (0 : Int))))) rfl rfl .plain (fun _ _ hd => P_int rfl rfl rfl) ?_
         refine L_pur (c := .bool ((decide (j1 ≥ (0 : Int))))) rfl rfl .plain (fun _ _ hd => P_move rfl) ?_
         refine L_pur (c := v4) rfl rfl (.yes2 rfl rfl o0) (fun _ _ hd => P_move z4) ?_
         refine L_pur (c := .int .i64 (j0)) rfl rfl (.yes2 rfl rfl o0) (fun _ _ hd => P_move u5) ?_
         refine L_pur (c := ePtr v4 j0 3) rfl rfl (.yes2 rfl rfl o0) (fun _ _ hd => P_indexAddrM (α := LoomRun) Try.underlying31 Try.sizeOf76 rfl (z2.toM) rfl t8) ?_
         refine L_pur (c := fPtr (ePtr v4 j0 3) 2) rfl rfl (.yes2 rfl rfl o0) (fun _ _ hd => P_fieldAddr at_76_2 rfl ⟨_, _, pe5201⟩) ?_
         refine L_ld (c := .int .i64 ((j6).From)) rfl rfl (.yes2 rfl rfl o0) (fun _ _ h => ⟨h.ch, fun b hb _ => h.below.block b hb⟩) dE rfl ?_
         refine L_ld (c := p9) rfl rfl (.yes2 rfl rfl o0) (fun _ _ h => h.ch) eE z6 ?_
         refine L_pur (c := up1) rfl rfl (.yes2 rfl rfl o0) (fun _ _ hd => P_move m6) ?_
         refine L_pur (c := v4) rfl rfl (.yes2 rfl rfl o0) (fun _ _ hd => P_move z4) ?_
         refine L_pur (c := .int .i64 (j1)) rfl rfl (.yes2 rfl rfl o0) (fun _ _ hd => P_move b6) ?_
         refine L_pur (c := ePtr v4 j1 3) rfl rfl (.yes2 rfl rfl o0) (fun _ _ hd => P_indexAddrM (α := LoomRun) Try.underlying31 Try.sizeOf76 rfl (z2.toM) rfl iB) ?_
         refine L_ld (c := q9) rfl rfl (.yes2 rfl rfl o0) (fun _ _ h => ⟨h.ch, fun b hb _ => h.below.block b hb⟩) gE rfl ?_
         refine L_pur (c := v4) rfl rfl (.yes2 rfl rfl o0) (fun _ _ hd => P_move z4) ?_
         refine L_pur (c := .int .i64 (j0)) rfl rfl (.yes2 rfl rfl o0) (fun _ _ hd => P_move u5) ?_
         refine L_pur (c := ePtr v4 j0 3) rfl rfl (.yes2 rfl rfl o0) (fun _ _ hd => P_indexAddrM (α := LoomRun) Try.underlying31 Try.sizeOf76 rfl (z2.toM) rfl jB) ?_
         refine L_ld (c := r9) rfl rfl (.yes2 rfl rfl o0) (fun _ _ h => ⟨h.ch, fun b hb _ => h.below.block b hb⟩) iE rfl ?_
         refine L_do (φ := fun v g w => v = .int .i64 (z5)) rfl rfl (.yes2 rfl rfl o0) (fun g w hd => D_call (g := g) (vs := [p9, up1, q9, r9]) en77 (.cons rfl (.cons rfl (.cons rfl (.cons rfl .nil)))) (wk77 (yH.ext hd.1) (x4.ext hd.1) (zH.ext hd.1) (aI.ext hd.1) jE) fun g' w' v hs hr => ⟨g', hs, hr⟩) (fun qM hv => ?_)
         obtain ⟨_, _, _, rfl⟩ := hv
         refine L_pur (c := .bool ((decide ((j6).From < z5)))) rfl rfl (.yes2 rfl rfl o0) (fun _ _ hd => P_int rfl rfl rfl) ?_
         refine L_pur (c := .bool ((decide ((j6).From < z5)))) rfl rfl .plain (fun _ _ hd => P_pick (b := (decide (j1 ≥ (0 : Int)))) rfl (pick_t o0 rfl)) ?_
         refine L_pur (c := .bool ((decide ((j6).From < z5)))) rfl rfl .plain (fun _ _ hd => P_move rfl) ?_
         refine L_skip rfl (.no2 rfl rfl j4 rfl) ?_
         refine L_skip rfl (.no2 rfl rfl j4 rfl) ?_
         refine L_skip rfl (.no2 rfl rfl j4 rfl) ?_
         refine L_skip rfl (.no2 rfl rfl j4 rfl) ?_
         refine L_skip rfl (.no2 rfl rfl j4 rfl) ?_
         refine L_skip rfl (.no2 rfl rfl j4 rfl) ?_
         refine L_skip rfl (.no2 rfl rfl j4 rfl) ?_
         refine L_pur (c := .bool true) rfl rfl .plain (fun _ _ hd => P_pick (b := (decide ((j6).From < z5))) rfl (pick_t j4 rfl)) ?_
         refine L_nil fun rM oP hall => ?_
         have hs := hall.1
         have hfr := hfr.ext hs
         have x4 := x4.ext hs
         have i6 := i6.ext hs
         have x5 := x5.ext hs
         have n5 := n5.ext hs
         have z2 := z2.ext hs
         have p5 := p5.ext hs
         have q5 := q5.ext hs
         have t5 := t5.ext hs
         clear hs hall
         refine EL_nil ?_
         obtain rfl := sinj h
         exact hQ _ _ ⟨rM, hfr, m6, x4, d9, i6, z6, x5, a7, n5, z4, z2, x7, p5, q5, z7, t5, b6, u5, rfl⟩
        ·obtain ⟨kH, kE, h⟩ := bsome h
         refine L_loadM (x := .tmp 92) Try.isAgg76 Try.sizeOf76 (z2.toM) kE fun bI sM aL => ?_
         refine L_load (x := .tmp 7) Try.isAgg54 Try.sizeOf54 n5 fun cI tM bL => ?_
         obtain ⟨k8, cL, h⟩ := bsome h
         refine E_drawL (g := yD) (n := 30) [(18, (fun v g w => v = .int .i64 (z5))), (28, (fun v g w => v = .bool (k8)))] [0, 1, 2, 3, 4, 5, 6, 7, 8, 9, 10, 11, 12, 13, 14, 15, 16, 17, 18, 19, 20, 21, 22, 23, 24, 25, 26, 27, 28, 29] rfl mixed (by kernel_rfl) (⟨fun _ => up_eq _, fun _ => up_eq _, trivial⟩) ?_
         refine L_pur (c := .int .i64 (j1)) rfl rfl .plain (fun _ _ hd => P_move b6) ?_
         refine L_pur (c := .bool ((decide (j1 ≥ (0 : Int))))) rfl rfl .plain (fun _ _ hd => P_int rfl rfl rfl) ?_
         refine L_pur (c := .bool ((decide (j1 ≥ (0 : Int))))) rfl rfl .plain (fun _ _ hd => P_move rfl) ?_
         refine L_pur (c := v4) rfl rfl (.yes2 rfl rfl o0) (fun _ _ hd => P_move z4) ?_
         refine L_pur (c := .int .i64 (j0)) rfl rfl (.yes2 rfl rfl o0) (fun _ _ hd => P_move u5) ?_
         refine L_pur (c := ePtr v4 j0 3) rfl rfl (.yes2 rfl rfl o0) (fun _ _ hd => P_indexAddrM (α := LoomRun) Try.underlying31 Try.sizeOf76 rfl (z2.toM) rfl t8) ?_
         refine L_pur (c := fPtr (ePtr v4 j0 3) 2) rfl rfl (.yes2 rfl rfl o0) (fun _ _ hd => P_fieldAddr at_76_2 rfl ⟨_, _, pe5201⟩) ?_
         refine L_ld (c := .int .i64 ((j6).From)) rfl rfl (.yes2 rfl rfl o0) (fun _ _ h => ⟨h.ch, fun b hb _ => h.below.block b hb⟩) dE rfl ?_
         refine L_ld (c := p9) rfl rfl (.yes2 rfl rfl o0) (fun _ _ h => h.ch) eE z6 ?_
         refine L_pur (c := up1) rfl rfl (.yes2 rfl rfl o0) (fun _ _ hd => P_move m6) ?_
         refine L_pur (c := v4) rfl rfl (.yes2 rfl rfl o0) (fun _ _ hd => P_move z4) ?_
         refine L_pur (c := .int .i64 (j1)) rfl rfl (.yes2 rfl rfl o0) (fun _ _ hd => P_move b6) ?_
         refine L_pur (c := ePtr v4 j1 3) rfl rfl (.yes2 rfl rfl o0) (fun _ _ hd => P_indexAddrM (α := LoomRun) Try.underlying31 Try.sizeOf76 rfl (z2.toM) rfl iB) ?_
         refine L_ld (c := q9) rfl rfl (.yes2 rfl rfl o0) (fun _ _ h => ⟨h.ch, fun b hb _ => h.below.block b hb⟩) gE rfl ?_
         refine L_pur (c := v4) rfl rfl (.yes2 rfl rfl o0) (fun _ _ hd => P_move z4) ?_
         refine L_pur (c := .int .i64 (j0)) rfl rfl (.yes2 rfl rfl o0) (fun _ _ hd => P_move u5) ?_
         refine L_pur (c := ePtr v4 j0 3) rfl rfl (.yes2 rfl rfl o0) (fun _ _ hd => P_indexAddrM (α := LoomRun) Try.underlying31 Try.sizeOf76 rfl (z2.toM) rfl jB) ?_
         refine L_ld (c := r9) rfl rfl (.yes2 rfl rfl o0) (fun _ _ h => ⟨h.ch, fun b hb _ => h.below.block b hb⟩) iE rfl ?_
         refine L_do (φ := fun v g w => v = .int .i64 (z5)) rfl rfl (.yes2 rfl rfl o0) (fun g w hd => D_call (g := g) (vs := [p9, up1, q9, r9]) en77 (.cons rfl (.cons rfl (.cons rfl (.cons rfl .nil)))) (wk77 (yH.ext hd.1) (x4.ext hd.1) (zH.ext hd.1) (aI.ext hd.1) jE) fun g' w' v hs hr => ⟨g', hs, hr⟩) (fun qM hv => ?_)
         obtain ⟨_, _, _, rfl⟩ := hv
         refine L_pur (c := .bool ((decide ((j6).From < z5)))) rfl rfl (.yes2 rfl rfl o0) (fun _ _ hd => P_int rfl rfl rfl) ?_
         refine L_pur (c := .bool ((decide ((j6).From < z5)))) rfl rfl .plain (fun _ _ hd => P_pick (b := (decide (j1 ≥ (0 : Int)))) rfl (pick_t o0 rfl)) ?_
         refine L_pur (c := .bool ((decide ((j6).From < z5)))) rfl rfl .plain (fun _ _ hd => P_move rfl) ?_
         refine L_pur (c := up1) rfl rfl (.yes2 rfl rfl j4) (fun _ _ hd => P_move m6) ?_
         refine L_pur (c := v4) rfl rfl (.yes2 rfl rfl j4) (fun _ _ hd => P_move z4) ?_
         refine L_pur (c := .int .i64 (j0)) rfl rfl (.yes2 rfl rfl j4) (fun _ _ hd => P_move u5) ?_
         refine L_pur (c := ePtr v4 j0 3) rfl rfl (.yes2 rfl rfl j4) (fun _ _ hd => P_indexAddrM (α := LoomRun) Try.underlying31 Try.sizeOf76 rfl (z2.toM) rfl kE) ?_
         refine L_ld (c := bI) rfl rfl (.yes2 rfl rfl j4) (fun _ _ h => ⟨h.ch, fun b hb _ => h.below.block b hb⟩) aL rfl ?_
         refine L_ld (c := cI) rfl rfl (.yes2 rfl rfl j4) (fun _ _ h => h.ch) bL a7 ?_
         refine L_do (φ := fun v g w => v = .bool (k8)) rfl rfl (.yes2 rfl rfl j4) (fun g w hd => D_call (g := g) (vs := [up1, bI, cI]) en75 (.cons rfl (.cons rfl (.cons rfl .nil))) (wk75 (x4.ext hd.1) (sM.ext hd.1) (tM.ext hd.1) cL) fun g' w' v hs hr => ⟨g', hs, hr⟩) (fun pP hv => ?_)
         obtain ⟨_, _, _, rfl⟩ := hv
         refine L_pur (c := .bool (k8)) rfl rfl .plain (fun _ _ hd => P_pick (b := (decide ((j6).From < z5))) rfl (pick_f j4 rfl)) ?_
         refine L_nil fun uM qP hall => ?_
         have hs := hall.1
         have hfr := hfr.ext hs
         have x4 := x4.ext hs
         have i6 := i6.ext hs
         have x5 := x5.ext hs
         have n5 := n5.ext hs
         have z2 := z2.ext hs
         have p5 := p5.ext hs
         have q5 := q5.ext hs
         have t5 := t5.ext hs
         clear hs hall
         refine EL_nil ?_
         obtain rfl := sinj h
         exact hQ _ _ ⟨uM, hfr, m6, x4, d9, i6, z6, x5, a7, n5, z4, z2, x7, p5, q5, z7, t5, b6, u5, rfl⟩
       ·obtain ⟨lH, lE, h⟩ := bsome h
        refine L_loadM (x := .tmp 92) Try.isAgg76 Try.sizeOf76 (z2.toM) lE fun dI vM dL => ?_
        refine L_load (x := .tmp 7) Try.isAgg54 Try.sizeOf54 n5 fun eI xM eL => ?_
        obtain ⟨l8, gL, h⟩ := bsome h
        refine E_drawL (g := yD) (n := 30) [(28, (fun v g w => v = .bool (l8)))] [0, 1, 2, 3, 4, 5, 6, 7, 8, 9, 10, 11, 12, 13, 14, 15, 16, 17, 18, 19, 20, 21, 22, 23, 24, 25, 26, 27, 28, 29] rfl mixed (by kernel_rfl) (⟨fun _ => up_eq _, trivial⟩) ?_
        refine L_pur (c := .int .i64 (j1)) rfl rfl .plain (fun _ _ hd => P_move b6) ?_
        refine L_pur (c := .bool ((decide (j1 ≥ (0 : Int))))) rfl rfl .plain (fun _ _ hd => P_int rfl rfl rfl) ?_
        refine L_pur (c := .bool ((decide (j1 ≥ (0 : Int))))) rfl rfl .plain (fun _ _ hd => P_move rfl) ?_
        refine L_skip rfl (.no2 rfl rfl o0 rfl) ?_
        refine L_skip rfl (.no2 rfl rfl o0 rfl) ?_
        refine L_skip rfl (.no2 rfl rfl o0 rfl) ?_
        refine L_skip rfl (.no2 rfl rfl o0 rfl) ?_
        refine L_skip rfl (.no2 rfl rfl o0 rfl) ?_
        refine L_skip rfl (.no2 rfl rfl o0 rfl) ?_
        refine L_skip rfl (.no2 rfl rfl o0 rfl) ?_
        refine L_skip rfl (.no2 rfl rfl o0 rfl) ?_
        refine L_skip rfl (.no2 rfl rfl o0 rfl) ?_
        refine L_skip rfl (.no2 rfl rfl o0 rfl) ?_
        refine L_skip rfl (.no2 rfl rfl o0 rfl) ?_
        refine L_skip rfl (.no2 rfl rfl o0 rfl) ?_
        refine L_skip rfl (.no2 rfl rfl o0 rfl) ?_
        refine L_skip rfl (.no2 rfl rfl o0 rfl) ?_
        refine L_skip rfl (.no2 rfl rfl o0 rfl) ?_
        refine L_skip rfl (.no2 rfl rfl o0 rfl) ?_
        refine L_skip rfl (.no2 rfl rfl o0 rfl) ?_
        refine L_pur (c := .bool false) rfl rfl .plain (fun _ _ hd => P_pick (b := (decide (j1 ≥ (0 : Int)))) rfl (pick_f o0 rfl)) ?_
        refine L_pur (c := .bool false) rfl rfl .plain (fun _ _ hd => P_move rfl) ?_
        refine L_pur (c := up1) rfl rfl (.yes2 rfl rfl rfl) (fun _ _ hd => P_move m6) ?_
        refine L_pur (c := v4) rfl rfl (.yes2 rfl rfl rfl) (fun _ _ hd => P_move z4) ?_
        refine L_pur (c := .int .i64 (j0)) rfl rfl (.yes2 rfl rfl rfl) (fun _ _ hd => P_move u5) ?_
        refine L_pur (c := ePtr v4 j0 3) rfl rfl (.yes2 rfl rfl rfl) (fun _ _ hd => P_indexAddrM (α := LoomRun) Try.underlying31 Try.sizeOf76 rfl (z2.toM) rfl lE) ?_
        refine L_ld (c := dI) rfl rfl (.yes2 rfl rfl rfl) (fun _ _ h => ⟨h.ch, fun b hb _ => h.below.block b hb⟩) dL rfl ?_
        refine L_ld (c := eI) rfl rfl (.yes2 rfl rfl rfl) (fun _ _ h => h.ch) eL a7 ?_
        refine L_do (φ := fun v g w => v = .bool (l8)) rfl rfl (.yes2 rfl rfl rfl) (fun g w hd => D_call (g := g) (vs := [up1, dI, eI]) en75 (.cons rfl (.cons rfl (.cons rfl .nil))) (wk75 (x4.ext hd.1) (vM.ext hd.1) (xM.ext hd.1) gL) fun g' w' v hs hr => ⟨g', hs, hr⟩) (fun sP hv => ?_)
        obtain ⟨_, _, _, rfl⟩ := hv
        refine L_pur (c := .bool (l8)) rfl rfl .plain (fun _ _ hd => P_pick (b := false) rfl (pick_f rfl rfl)) ?_
        refine L_nil fun yM tP hall => ?_
        have hs := hall.1
        have hfr := hfr.ext hs
        have x4 := x4.ext hs
        have i6 := i6.ext hs
        have x5 := x5.ext hs
        have n5 := n5.ext hs
        have z2 := z2.ext hs
        have p5 := p5.ext hs
        have q5 := q5.ext hs
        have t5 := t5.ext hs
        clear hs hall
        refine EL_nil ?_
        obtain rfl := sinj h
        exact hQ _ _ ⟨yM, hfr, m6, x4, d9, i6, z6, x5, a7, n5, z4, z2, x7, p5, q5, z7, t5, b6, u5, rfl⟩
      ·clear hx
       obtain ⟨iI, hfr, lD, mD, nD, oD, pD, qD, rD, sD, kB, lB, mB, nB, oB, pB, qB, rF, rB, sB⟩ := hR
       rcases csome h with ⟨tB, h⟩ | ⟨tB, h⟩
       ·refine E_cond_true (Eq.trans (show ev _ _ = .bool (y6) from sB) (congrArg Value.bool tB)) ?_
        exact E_skip (thn_n (zK () _ _ ⟨iI, hfr, lD, mD, nD, oD, pD, qD, rD, sD, kB, lB, mB, nB, oB, pB, qB, rF, rB⟩ h))
       ·refine E_cond_false (Eq.trans (show ev _ _ = .bool (y6) from sB) (congrArg Value.bool tB)) ?_
        refine E_exit ?_
        refine thn_e ?_
        refine thn_e ?_
        refine blk_hit ?_
        obtain rfl := sinj h
        exact hQ _ _ ⟨iI, hfr, lD, mD, nD, oD, pD, qD, rD, sD, kB, lB, mB, nB, oB, pB, qB, rB⟩
     ·rintro _ kO uP ⟨jI, hfr, sJ, e9, tJ, g9, uJ, i9, vJ, j9, uB, n6, sF, a8, c8, tF, d8, uF, vB⟩ h
      refine E_block ?_
      refine E_region (EL_mv uB rfl ?_)
      refine EL_mv vB rfl ?_
      obtain ⟨k9, xB, h⟩ := bsome h
      refine EL_pur (v := ePtr v4 j0 3) (P_indexAddrM (α := LoomRun) Try.underlying31 Try.sizeOf76 rfl (n6.toM) rfl xB) .plain rfl ?_
      obtain ⟨pb5346, po5346, pe5346⟩ := OM.ptrE (k := 3) (n6.toM) xB
      refine EL_pur (v := fPtr (ePtr v4 j0 3) 2) (P_fieldAddr at_76_2 rfl ⟨_, _, pe5346⟩) .plain rfl ?_
      refine EL_do .plain rfl (D_loadMF (g := jI) part_LoomRun_2.1 Try.isAgg3 Try.sizeOf3 rfl (n6.toM) xB fun vP zM => ?_)
      obtain rfl := RV_int.1 zM
      refine EL_in (.int .i64 ((w64 ((k9).From + (1 : Int))))) rfl rfl rfl rfl ?_
      obtain ⟨tD, yB, h⟩ := bsome h
      refine EL_pur (v := ePtr v4 j0 3) (P_indexAddrM (α := LoomRun) Try.underlying31 Try.sizeOf76 rfl (n6.toM) rfl yB) .plain rfl ?_
      obtain ⟨pb5350, po5350, pe5350⟩ := OM.ptrE (k := 3) (n6.toM) yB
      refine EL_pur (v := fPtr (ePtr v4 j0 3) 2) (P_fieldAddr at_76_2 rfl ⟨_, _, pe5350⟩) .plain rfl ?_
      refine EL_do .plain rfl (D_storeAF (g := jI) part_LoomRun_2 Try.sizeOf3 rfl n6 yB rfl (RV_int.2 rfl) fun aN xP hs b5351 => ?_)
      have hfr := hfr.stp hs
      have e9 := e9.stp hs
      have g9 := g9.stp hs
      have i9 := i9.stp hs
      have j9 := j9.stp hs
      have a8 := a8.stp hs
      have c8 := c8.stp hs rfl
      have d8 := d8.stp hs rfl
      exact EL_nil (blk_n (thn_n (yK ((List.set i4 (Int.toNat j0) ({ tD with From := (w64 ((k9).From + (1 : Int))) }))) _ _ ⟨aN, hfr, sJ, e9, tJ, g9, uJ, i9, vJ, j9, uB, b5351, sF, a8, c8, tF, d8, uF, vB⟩ h)))
    ·clear hx
     obtain ⟨bN, hfr, xJ, yJ, zJ, aK, bK, cK, dK, eK, vF, xF, yF, zF, aG, bG, cG, dG⟩ := hR
     refine E_region (EL_mv dG rfl ?_)
     refine EL_at (.int .i64 (j0)) rfl rfl ?_
     exact EL_nil (blk_n (thn_n (pK (c7, (List.set c4 (Int.toNat j0) true), j0) _ _ ⟨bN, hfr, xJ, yJ, zJ, aK, bK, cK, dK, eK, vF, xF, yF, zF, aG, bG, cG, rfl⟩ h)))
 ·clear hx
  obtain ⟨cN, hfr, gK, iK, eG, gG, hG, iG, jG⟩ := hR
  refine E_joinC h (fun (s : (List Int)) e w => ∃ (g : Gh) (l7 : Value), Fr gI wI g w ∧ e 11 = v4 ∧ OA 3018 g w 76 (u3 : List LoomRun) v4 ∧ e 12 = l7 ∧ RV g.m w (s : List Int) l7 ∧ OS 3021 g w 3 (s : List Int) l7) (fun X5502 nH iL h => ?_) ?_
  ·refine E_seq (E_region (EL_at (.int .i64 (0)) rfl rfl ?_))
   refine EL_nil (thn_n (E_block ?_))
   refine E_lp h (fun (s : (List Int) × Int) e w => ∃ (g : Gh) (l7 : Value), Fr gI wI g w ∧ e 1 = up1 ∧ RV g.m w (x1 : List LoomOrder) up1 ∧ e 11 = v4 ∧ OA 3018 g w 76 (u3 : List LoomRun) v4 ∧ e 12 = l7 ∧ RV g.m w (s.1 : List Int) l7 ∧ OS 3021 g w 3 (s.1 : List Int) l7 ∧ e 17 = .int .i64 (s.2)) ⟨cN, (v6), hfr, gK, iK, eG, gG, hG, iG, jG, rfl⟩ (fun X5503 oH jL => ?_)
   rintro ⟨m5, z1⟩ lO yP ⟨kI, c6, hfr, jK, kK, e8, i8, zB, aC, bC, cC⟩ h
   refine E_joinC h (fun (s : Unit) e w => ∃ (g : Gh) , Fr gI wI g w ∧ e 1 = up1 ∧ RV g.m w (x1 : List LoomOrder) up1 ∧ e 11 = v4 ∧ OA 3018 g w 76 (u3 : List LoomRun) v4 ∧ e 12 = c6 ∧ RV g.m w (m5 : List Int) c6 ∧ OS 3021 g w 3 (m5 : List Int) c6 ∧ e 17 = .int .i64 (z1)) (fun X5506 qH kL h => ?_) ?_
   ·refine E_seq (E_region (EL_mv cC rfl ?_))
    refine EL_mv e8 rfl ?_
    refine EL_pur (v := .int .i64 ((u3).length : Int)) (P_lenM Try.underlying31 rfl (i8.toM)) .plain rfl ?_
    refine EL_in (.bool ((decide (z1 < ((u3).length : Int))))) rfl rfl rfl rfl ?_
    refine EL_nil (thn_n ?_)
    rcases csome h with ⟨dC, h⟩ | ⟨dC, h⟩
    ·refine E_ct dC rfl ?_
     exact E_skip (thn_n (kL () _ _ ⟨kI, hfr, jK, kK, e8, i8, zB, aC, bC, cC⟩ h))
    ·refine E_cf dC rfl ?_
     refine E_exit ?_
     refine thn_e ?_
     refine thn_e ?_
     refine blk_hit ?_
     exact thn_n (iL (m5) _ _ ⟨kI, (c6), hfr, e8, i8, zB, aC, bC⟩ h)
   ·rintro _ mO zP ⟨lI, hfr, lK, mK, eC, i7, kG, lG, mG, iC⟩ h
    refine E_joinC h (fun (s : (List Int)) e w => ∃ (g : Gh) (l7 : Value), Fr gI wI g w ∧ e 1 = up1 ∧ RV g.m w (x1 : List LoomOrder) up1 ∧ e 11 = v4 ∧ OA 3018 g w 76 (u3 : List LoomRun) v4 ∧ e 12 = l7 ∧ RV g.m w (s : List Int) l7 ∧ OS 3021 g w 3 (s : List Int) l7 ∧ e 17 = .int .i64 (z1)) (fun X5579 uD mE h => ?_) ?_
    ·refine E_block ?_
     refine E_joinC h (fun (s : Unit) e w => ∃ (g : Gh) , Fr gI wI g w ∧ e 1 = up1 ∧ RV g.m w (x1 : List LoomOrder) up1 ∧ e 11 = v4 ∧ OA 3018 g w 76 (u3 : List LoomRun) v4 ∧ e 12 = c6 ∧ RV g.m w (m5 : List Int) c6 ∧ OS 3021 g w 3 (m5 : List Int) c6 ∧ e 17 = .int .i64 (z1)) (fun X5585 pH lL h => ?_) ?_
     ·refine E_seq (E_region (EL_mv eC rfl ?_))
      refine EL_mv iC rfl ?_
      obtain ⟨xD, jC, h⟩ := bsome h
      refine EL_pur (v := ePtr v4 z1 3) (P_indexAddrM (α := LoomRun) Try.underlying31 Try.sizeOf76 rfl (i7.toM) rfl jC) .plain rfl ?_
      obtain ⟨pb5588, po5588, pe5588⟩ := OM.ptrE (k := 3) (i7.toM) jC
      refine EL_pur (v := fPtr (ePtr v4 z1 3) 2) (P_fieldAddr at_76_2 rfl ⟨_, _, pe5588⟩) .plain rfl ?_
      refine EL_do .plain rfl (D_loadMF (g := lI) part_LoomRun_2.1 Try.isAgg3 Try.sizeOf3 rfl (i7.toM) jC fun aQ dN => ?_)
      obtain rfl := RV_int.1 dN
      refine EL_in (.bool ((decide ((xD).From > (300 : Int))))) rfl rfl rfl rfl ?_
      refine EL_nil (thn_n ?_)
      rcases csome h with ⟨kC, h⟩ | ⟨kC, h⟩
      ·refine E_ct kC rfl ?_
       refine E_seq (E_region (EL_at (.slice none 0 0) rfl rfl ?_))
       refine EL_at (.slice none 0 0) rfl rfl ?_
       refine EL_at (.bool false) rfl rfl ?_
       refine EL_nil (thn_n (E_ret (thn_r ?_)))
       refine blk_r ?_
       refine thn_r ?_
       refine thn_r ?_
       refine blk_r ?_
       refine thn_r ?_
       obtain rfl := sinj h
       exact end3 rfl rfl (show _ = .slice none 0 0 from rfl) (show _ = .slice none 0 0 from rfl) (show _ = .bool false from rfl) ⟨_, hfr, _, _, _, rfl, RV_nil, RV_nil, rfl⟩
      ·refine E_cf kC rfl ?_
       exact E_skip (thn_n (lL () _ _ ⟨lI, hfr, lK, mK, eC, i7, kG, lG, mG, iC⟩ h))
     ·rintro _ nO bQ ⟨eN, hfr, p7, j5, p6, d3, lC, q6, t6, u6⟩ h
      refine E_seq ?_
      obtain ⟨m8, mC, h⟩ := bsome h
      obtain ⟨pb5594, po5594, pe5594⟩ := OM.ptrE (k := 3) (d3.toM) mC
      refine L_loadMF (x := .tmp 121) part_LoomRun_2.1 Try.isAgg3 Try.sizeOf3 (d3.toM) mC fun cQ gN mL => ?_
      obtain rfl := RV_int.1 gN
      obtain ⟨n8, nC, h⟩ := bsome h
      obtain ⟨pb5598, po5598, pe5598⟩ := OM.ptrE (k := 3) (d3.toM) nC
      refine L_loadMF (x := .tmp 127) part_LoomRun_0.1 Try.isAgg3 Try.sizeOf3 (d3.toM) nC fun dQ iN nL => ?_
      obtain rfl := RV_int.1 iN
      obtain ⟨o8, nE, h⟩ := bsome h
      have mI := PT_idx j5 nE
      have jN := PT_field (part_LoomOrder_2).1 mI
      refine L_load (x := .tmp 130) Try.isAgg3 Try.sizeOf3 jN fun eQ kN oL => ?_
      obtain rfl := RV_int.1 kN
      obtain ⟨p8, oC, h⟩ := bsome h
      obtain ⟨pb5606, po5606, pe5606⟩ := OM.ptrE (k := 3) (d3.toM) oC
      refine L_loadMF (x := .tmp 137) part_LoomRun_0.1 Try.isAgg3 Try.sizeOf3 (d3.toM) oC fun gQ lN pL => ?_
      obtain rfl := RV_int.1 lN
      obtain ⟨l9, oE, h⟩ := bsome h
      have nI := PT_idx j5 oE
      have mN := PT_field (part_LoomOrder_4).1 nI
      refine L_load (x := .tmp 140) Try.isAgg3 Try.sizeOf3 mN fun iQ nN qL => ?_
      obtain rfl := RV_int.1 nN
      refine E_drawL (g := eN) (n := 25) [] [0, 1, 2, 3, 4, 5, 6, 7, 8, 9, 10, 11, 12, 13, 14, 15, 16, 17, 18, 19, 20, 21, 22, 23, 24] rfl mixed (by kernel_rfl) trivial ?_
      refine L_pur (c := v4) rfl rfl .plain (fun _ _ hd => P_move p6) ?_
      refine L_pur (c := .int .i64 (z1)) rfl rfl .plain (fun _ _ hd => P_move u6) ?_
      refine L_pur (c := ePtr v4 z1 3) rfl rfl .plain (fun _ _ hd => P_indexAddrM (α := LoomRun) Try.underlying31 Try.sizeOf76 rfl (d3.toM) rfl mC) ?_
      refine L_pur (c := fPtr (ePtr v4 z1 3) 2) rfl rfl .plain (fun _ _ hd => P_fieldAddr at_76_2 rfl ⟨_, _, pe5594⟩) ?_
      refine L_ld (c := .int .i64 ((m8).From)) rfl rfl .plain (fun _ _ h => ⟨h.ch, fun b hb _ => h.below.block b hb⟩) mL rfl ?_
      refine L_pur (c := up1) rfl rfl .plain (fun _ _ hd => P_move p7) ?_
      refine L_pur (c := v4) rfl rfl .plain (fun _ _ hd => P_move p6) ?_
      refine L_pur (c := .int .i64 (z1)) rfl rfl .plain (fun _ _ hd => P_move u6) ?_
      refine L_pur (c := ePtr v4 z1 3) rfl rfl .plain (fun _ _ hd => P_indexAddrM (α := LoomRun) Try.underlying31 Try.sizeOf76 rfl (d3.toM) rfl nC) ?_
      refine L_pur (c := fPtr (ePtr v4 z1 3) 0) rfl rfl .plain (fun _ _ hd => P_fieldAddr at_76_0 rfl ⟨_, _, pe5598⟩) ?_
      refine L_ld (c := .int .i64 ((n8).Order)) rfl rfl .plain (fun _ _ h => ⟨h.ch, fun b hb _ => h.below.block b hb⟩) nL rfl ?_
      refine L_pur (c := ePtr up1 (n8).Order 5) rfl rfl .plain (fun _ _ hd => P_indexAddr (α := LoomOrder) Try.underlying25 Try.sizeOf82 rfl j5 rfl nE) ?_
      refine L_pur (c := fPtr (ePtr up1 (n8).Order 5) 2) rfl rfl .plain (fun _ _ hd => P_fieldAddr at_82_2 rfl (PT.ptr mI)) ?_
      refine L_ld (c := .int .i64 ((o8).Woven)) rfl rfl .plain (fun _ _ h => h.ch) oL rfl ?_
      refine L_pur (c := .int .i64 ((w64 ((m8).From + (o8).Woven)))) rfl rfl .plain (fun _ _ hd => P_int rfl rfl rfl) ?_
      refine L_pur (c := up1) rfl rfl .plain (fun _ _ hd => P_move p7) ?_
      refine L_pur (c := v4) rfl rfl .plain (fun _ _ hd => P_move p6) ?_
      refine L_pur (c := .int .i64 (z1)) rfl rfl .plain (fun _ _ hd => P_move u6) ?_
      refine L_pur (c := ePtr v4 z1 3) rfl rfl .plain (fun _ _ hd => P_indexAddrM (α := LoomRun) Try.underlying31 Try.sizeOf76 rfl (d3.toM) rfl oC) ?_
      refine L_pur (c := fPtr (ePtr v4 z1 3) 0) rfl rfl .plain (fun _ _ hd => P_fieldAddr at_76_0 rfl ⟨_, _, pe5606⟩) ?_
      refine L_ld (c := .int .i64 ((p8).Order)) rfl rfl .plain (fun _ _ h => ⟨h.ch, fun b hb _ => h.below.block b hb⟩) pL rfl ?_
      refine L_pur (c := ePtr up1 (p8).Order 5) rfl rfl .plain (fun _ _ hd => P_indexAddr (α := LoomOrder) Try.underlying25 Try.sizeOf82 rfl j5 rfl oE) ?_
      refine L_pur (c := fPtr (ePtr up1 (p8).Order 5) 4) rfl rfl .plain (fun _ _ hd => P_fieldAddr at_82_4 rfl (PT.ptr nI)) ?_
      refine L_ld (c := .int .i64 ((l9).Late)) rfl rfl .plain (fun _ _ h => h.ch) qL rfl ?_
      refine L_pur (c := .bool ((decide ((w64 ((m8).From + (o8).Woven)) > (l9).Late)))) rfl rfl .plain (fun _ _ hd => P_int rfl rfl rfl) ?_
      refine L_nil fun zD jQ hall => ?_
      have hs := hall.1
      have hfr := hfr.ext hs
      have j5 := j5.ext hs
      have d3 := d3.ext hs
      have q6 := q6.ext hs
      have t6 := t6.ext hs
      clear hs hall
      refine EL_nil (thn_n ?_)
      rcases csome h with ⟨pC, h⟩ | ⟨pC, h⟩
      ·refine E_ct pC rfl ?_
       refine E_region (EL_mv lC rfl ?_)
       refine EL_mv p6 rfl ?_
       refine EL_mv u6 rfl ?_
       obtain ⟨m9, qC, h⟩ := bsome h
       refine EL_pur (v := ePtr v4 z1 3) (P_indexAddrM (α := LoomRun) Try.underlying31 Try.sizeOf76 rfl (d3.toM) rfl qC) .plain rfl ?_
       obtain ⟨pb5645, po5645, pe5645⟩ := OM.ptrE (k := 3) (d3.toM) qC
       refine EL_pur (v := fPtr (ePtr v4 z1 3) 0) (P_fieldAddr at_76_0 rfl ⟨_, _, pe5645⟩) .plain rfl ?_
       refine EL_do .plain rfl (D_loadMF (g := zD) part_LoomRun_0.1 Try.isAgg3 Try.sizeOf3 rfl (d3.toM) qC fun kQ oN => ?_)
       obtain rfl := RV_int.1 oN
       refine EL_do .plain rfl (D_buildSlice (g := zD) 3149 (xs := ([(m9).Order] : List Int)) (vs := [.int .i64 ((m9).Order)]) Try.underlying22 Try.sizeOf3 Try.zeroValue3 rfl rfl (.cons rfl .nil) (RVs.cons (RV_int.2 rfl) RVs.nil) rfl rfl fun pN lQ mQ hs o5647 qN hxt hfl => ?_)
       have hfr := hfr.stp hs
       have j5 := j5.stp hs
       have d3 := d3.stp hs rfl
       have q6 := q6.stp hs
       have t6 := t6.stp hs rfl
       obtain ⟨vD, rL, h⟩ := bsome h
       refine EL_do .plain rfl (D_append (g := pN) (i := 3021) Try.underlying22 info_3 rfl rfl t6 q6 rfl qN rL fun rN nQ oI hs o5648 sN _ => ?_)
       have hfr := hfr.stp hs
       have j5 := j5.stp hs
       have d3 := d3.stp hs rfl
       refine EL_at oI rfl rfl ?_
       exact EL_nil (blk_n (thn_n (mE (vD) _ _ ⟨rN, (oI), hfr, p7, j5, p6, d3, rfl, sN, o5648, u6⟩ h)))
      ·refine E_cf pC rfl ?_
       exact E_skip (blk_n (thn_n (mE (m5) _ _ ⟨zD, (c6), hfr, p7, j5, p6, d3, lC, q6, t6, u6⟩ h)))
    ·rintro q7 oO oQ ⟨tN, nG, hfr, nK, oK, oG, pG, qG, rG, sG, tG⟩ h
     refine E_region (EL_mv tG rfl ?_)
     refine EL_in (.int .i64 ((w64 (z1 + (1 : Int))))) rfl rfl rfl rfl ?_
     refine EL_at (.int .i64 ((w64 (z1 + (1 : Int))))) rfl rfl ?_
     exact EL_nil (thn_n (jL (q7, (w64 (z1 + (1 : Int)))) _ _ ⟨tN, (nG), hfr, nK, oK, oG, pG, qG, rG, sG, rfl⟩ h))
  ·rintro t9 pO pQ ⟨qQ, rC, hfr, uG, vG, xG, j8, uN⟩ h
   refine E_seq (E_region (EL_mv uG rfl ?_))
   refine EL_mv xG rfl ?_
   obtain ⟨gp5652, hs, rp5652⟩ := OM.pub (vG.toM)
   have hfr := hfr.stp hs
   have j8 := j8.stp hs
   refine EL_at v4 rfl rfl ?_
   refine EL_at rC rfl rfl ?_
   refine EL_at (.bool true) rfl rfl ?_
   refine EL_nil (thn_n (E_ret ?_))
   obtain rfl := sinj h
   exact end3 rfl rfl (show _ = v4 from rfl) (show _ = rC from rfl) (show _ = .bool true from rfl) ⟨_, hfr, _, _, _, rfl, rp5652, j8, rfl⟩
/-- (griffe/loom.mill).looms -/
def f52 (x0 : LoomLoomMill) : Option ((List Int)) :=
 (shl64 (1 : Int) ((((x0).LoomMill).Widths).length : Int)).bind fun y5 =>
 (f59 ((w64 (y5 - (1 : Int))))).bind fun y7 =>
 some (y7)
theorem en52 : Enters Try.prog 52 := enters_of Try.func52 (by kernel_rfl) rfl
theorem wk52 {gI : Gh} {wI : World} {x0 : LoomLoomMill} {up0 : Value} (rp0 : RV gI.m wI x0 up0) {r : (List Int)} (h : f52 x0 = some r) : Fn Try.prog 52 #[up0] gI wI (fun m w v => RV m w (r) v) := by
 unfold f52 at h
 refine fn_of_E Try.func52 rfl (Nat.le_of_ble_eq_true rfl) fun g0 hm hfr => ?_
 have rp0 : RV g0.m wI x0 up0 := hm ▸ rp0
 show E _ 10 none _ _ _ _ _
 refine E_seq (E_region (EL_do .plain rfl (D_box (g := g0) rfl rp0 fun g1 w1 p1 hs q1 => ?_)))
 have hfr := hfr.ext hs
 refine EL_at (.slice none 0 0) rfl rfl ?_
 refine EL_nil (thn_n (E_seq (E_region (EL_pur (v := fPtr p1 0) (P_fieldAddr at_96_0 rfl (PT.ptr q1)) .plain rfl ?_))))
 have q2 := PT_field (part_LoomLoomMill_0).1 q1
 refine EL_pur (v := fPtr (fPtr p1 0) 0) (P_fieldAddr at_24_0 rfl (PT.ptr q2)) .plain rfl ?_
 have q3 := PT_field (part_LoomMill_0).1 q2
 refine EL_do .plain rfl (D_load (g := g1) Try.isAgg22 Try.sizeOf22 rfl q3 fun v4 r4 => ?_)
 refine EL_pur (v := .int .i64 ((((x0).LoomMill).Widths).length : Int)) (P_len Try.underlying22 rfl r4) .plain rfl ?_
 obtain ⟨y5, j0, h⟩ := bsome h
 refine EL_pur (v := .int .i64 (y5)) (P_int rfl rfl (congrArg (Option.map (Value.int .i64)) j0)) .plain rfl ?_
 refine EL_in (.int .i64 ((w64 (y5 - (1 : Int))))) rfl rfl rfl rfl ?_
 obtain ⟨y7, o0, h⟩ := bsome h
 refine EL_do .plain rfl (D_call (g := g1) (vs := [.int .i64 ((w64 (y5 - (1 : Int))))]) en59 (.cons rfl .nil) (wk59  o0) fun g6 w6_ v6 hs hr => ?_)
 have hfr := hfr.ext hs
 have r6 := hr
 refine EL_at v6 rfl rfl ?_
 refine EL_nil (thn_n (E_ret ?_))
 obtain rfl := sinj h
 exact end1 rfl rfl (show _ = v6 from rfl) ⟨_, hfr, r6⟩
/-- (griffe/loom.still).stands -/
def f66 (x0 : LoomStill) (x1 : LoomRun) : Option (Bool) :=
 Option.bind (α := Bool) (
  bif (decide ((x1).From ≤ (((x0).LoomStop).Days).High)) then
   (f73 ((x0).mill) x1).bind fun u0 =>
   some ((decide (u0 > (((x0).LoomStop).Days).Low)))
  else
   some (false)
  ) fun o0 =>
 some (o0)
theorem en66 : Enters Try.prog 66 := enters_of Try.func66 (by kernel_rfl) rfl
theorem wk66 {gI : Gh} {wI : World} {x0 : LoomStill} {x1 : LoomRun} {up0 : Value} (rp0 : RV gI.m wI x0 up0) {up1 : Value} (rp1 : RV gI.m wI x1 up1) {r : Bool} (h : f66 x0 x1 = some r) : Fn Try.prog 66 #[up0, up1] gI wI (fun _ _ v => v = .bool (r)) := by
 unfold f66 at h
 refine fn_of_E Try.func66 rfl (Nat.le_of_ble_eq_true rfl) fun g0 hm hfr => ?_
 have rp0 : RV g0.m wI x0 up0 := hm ▸ rp0
 have rp1 : RV g0.m wI x1 up1 := hm ▸ rp1
 show E _ 23 none _ _ _ _ _
 refine E_seq (E_region (EL_do .plain rfl (D_box (g := g0) rfl rp0 fun g1 w1 p1 hs q1 => ?_)))
 have hfr := hfr.ext hs
 have rp1 := rp1.ext hs
 refine EL_do .plain rfl (D_box (g := g1) rfl rp1 fun g2 w2 p2 hs q2 => ?_)
 have hfr := hfr.ext hs
 have q1 := q1.ext hs
 refine EL_at (.bool false) rfl rfl ?_
 refine EL_nil (thn_n ?_)
 obtain ⟨o0, hx, h⟩ := bsome h
 refine E_join (fun e w => ∃ (g : Gh) , Fr gI wI g w ∧ e 4 = .bool (o0)) (fun Q' hQ => ?_) (fun i5 j5 hR => ?_)
 ·replace h := hx
  clear hx
  have j4 := PT_field (part_LoomRun_2).1 q2
  refine L_load (x := .tmp 5) Try.isAgg3 Try.sizeOf3 j4 fun n5 m4 j1 => ?_
  obtain rfl := RV_int.1 m4
  have z1 := PT_field (part_LoomStill_1).1 q1
  have j2 := PT_field (part_LoomStop_1).1 z1
  have n4 := PT_field (part_Span_1).1 j2
  refine L_load (x := .tmp 9) Try.isAgg3 Try.sizeOf3 n4 fun o5 o4 z2 => ?_
  obtain rfl := RV_int.1 o4
  rcases csome h with ⟨j0, h⟩ | ⟨j0, h⟩
  ·have p4 := PT_field (part_LoomStill_0).1 q1
   refine L_load (x := .tmp 13) Try.isAgg96 Try.sizeOf96 p4 fun i3 u4 u3 => ?_
   refine L_load (x := .tmp 3) Try.isAgg76 Try.sizeOf76 q2 fun j3 x4 z3 => ?_
   obtain ⟨u0, c4, h⟩ := bsome h
   have o3 := PT_field (part_LoomStill_1).1 q1
   have p3 := PT_field (part_LoomStop_1).1 o3
   have z4 := PT_field (part_Span_0).1 p3
   refine L_load (x := .tmp 19) Try.isAgg3 Try.sizeOf3 z4 fun p5 c5 d4 => ?_
   obtain rfl := RV_int.1 c5
   refine E_drawL (g := g2) (n := 19) [(11, (fun v g w => v = .int .i64 (u0)))] [0, 1, 2, 3, 4, 5, 6, 7, 8, 9, 10, 11, 12, 13, 14, 15, 16, 17, 18] rfl mixed (by kernel_rfl) (⟨fun _ => up_eq _, trivial⟩) ?_
   refine L_pur (c := fPtr p2 2) rfl rfl .plain (fun _ _ hd => P_fieldAddr at_76_2 rfl (PT.ptr q2)) ?_
   refine L_ld (c := .int .i64 ((x1).From)) rfl rfl .plain (fun _ _ h => h.ch) j1 rfl ?_
   refine L_pur (c := fPtr p1 3) rfl rfl .plain (fun _ _ hd => P_fieldAddr at_113_1 rfl (PT.ptr q1)) ?_
   refine L_pur (c := fPtr (fPtr p1 3) 1) rfl rfl .plain (fun _ _ hd => P_fieldAddr at_54_1 rfl (PT.ptr z1)) ?_
   refine L_pur (c := fPtr (fPtr (fPtr p1 3) 1) 1) rfl rfl .plain (fun _ _ hd => P_fieldAddr at_48_1 rfl (PT.ptr j2)) ?_
   refine L_ld (c := .int .i64 ((((x0).LoomStop).Days).High)) rfl rfl .plain (fun _ _ h => h.ch) z2 rfl ?_
   refine L_pur (c := .bool ((decide ((x1).From ≤ (((x0).LoomStop).Days).High)))) rfl rfl .plain (fun _ _ hd => P_int rfl rfl rfl) ?_
   refine L_pur (c := .bool ((decide ((x1).From ≤ (((x0).LoomStop).Days).High)))) rfl rfl .plain (fun _ _ hd => P_move rfl) ?_
   refine L_pur (c := fPtr p1 0) rfl rfl (.yes2 rfl rfl j0) (fun _ _ hd => P_fieldAddr at_113_0 rfl (PT.ptr q1)) ?_
   refine L_ld (c := i3) rfl rfl (.yes2 rfl rfl j0) (fun _ _ h => h.ch) u3 rfl ?_
   refine L_ld (c := j3) rfl rfl (.yes2 rfl rfl j0) (fun _ _ h => h.ch) z3 rfl ?_
   refine L_do (φ := fun v g w => v = .int .i64 (u0)) rfl rfl (.yes2 rfl rfl j0) (fun g w hd => D_call (g := g) (vs := [i3, j3]) en73 (.cons rfl (.cons rfl .nil)) (wk73 (u4.ext hd.1) (x4.ext hd.1) c4) fun g' w' v hs hr => ⟨g', hs, hr⟩) (fun q5 hv => ?_)
   obtain ⟨_, _, _, rfl⟩ := hv
   refine L_pur (c := fPtr p1 3) rfl rfl (.yes2 rfl rfl j0) (fun _ _ hd => P_fieldAddr at_113_1 rfl (PT.ptr q1)) ?_
   refine L_pur (c := fPtr (fPtr p1 3) 1) rfl rfl (.yes2 rfl rfl j0) (fun _ _ hd => P_fieldAddr at_54_1 rfl (PT.ptr o3)) ?_
   refine L_pur (c := fPtr (fPtr (fPtr p1 3) 1) 0) rfl rfl (.yes2 rfl rfl j0) (fun _ _ hd => P_fieldAddr at_48_0 rfl (PT.ptr p3)) ?_
   refine L_ld (c := .int .i64 ((((x0).LoomStop).Days).Low)) rfl rfl (.yes2 rfl rfl j0) (fun _ _ h => h.ch) d4 rfl ?_
   refine L_pur (c := .bool ((decide (u0 > (((x0).LoomStop).Days).Low)))) rfl rfl (.yes2 rfl rfl j0) (fun _ _ hd => P_int rfl rfl rfl) ?_
   refine L_pur (c := .bool ((decide (u0 > (((x0).LoomStop).Days).Low)))) rfl rfl .plain (fun _ _ hd => P_pick (b := (decide ((x1).From ≤ (((x0).LoomStop).Days).High))) rfl (pick_t j0 rfl)) ?_
   refine L_pur (c := .bool ((decide (u0 > (((x0).LoomStop).Days).Low)))) rfl rfl .plain (fun _ _ hd => P_assign rfl) ?_
   refine L_nil fun d5 t5 hall => ?_
   have hs := hall.1
   have hfr := hfr.ext hs
   clear hs hall
   refine EL_nil ?_
   obtain rfl := sinj h
   exact hQ _ _ ⟨d5, hfr, rfl⟩
  ·refine E_drawL (g := g2) (n := 19) [] [0, 1, 2, 3, 4, 5, 6, 7, 8, 9, 10, 11, 12, 13, 14, 15, 16, 17, 18] rfl mixed (by kernel_rfl) trivial ?_
   refine L_pur (c := fPtr p2 2) rfl rfl .plain (fun _ _ hd => P_fieldAddr at_76_2 rfl (PT.ptr q2)) ?_
   refine L_ld (c := .int .i64 ((x1).From)) rfl rfl .plain (fun _ _ h => h.ch) j1 rfl ?_
   refine L_pur (c := fPtr p1 3) rfl rfl .plain (fun _ _ hd => P_fieldAddr at_113_1 rfl (PT.ptr q1)) ?_
   refine L_pur (c := fPtr (fPtr p1 3) 1) rfl rfl .plain (fun _ _ hd => P_fieldAddr at_54_1 rfl (PT.ptr z1)) ?_
   refine L_pur (c := fPtr (fPtr (fPtr p1 3) 1) 1) rfl rfl .plain (fun _ _ hd => P_fieldAddr at_48_1 rfl (PT.ptr j2)) ?_
   refine L_ld (c := .int .i64 ((((x0).LoomStop).Days).High)) rfl rfl .plain (fun _ _ h => h.ch) z2 rfl ?_
   refine L_pur (c := .bool ((decide ((x1).From ≤ (((x0).LoomStop).Days).High)))) rfl rfl .plain (fun _ _ hd => P_int rfl rfl rfl) ?_
   refine L_pur (c := .bool ((decide ((x1).From ≤ (((x0).LoomStop).Days).High)))) rfl rfl .plain (fun _ _ hd => P_move rfl) ?_
   refine L_skip rfl (.no2 rfl rfl j0 rfl) ?_
   refine L_skip rfl (.no2 rfl rfl j0 rfl) ?_
   refine L_skip rfl (.no2 rfl rfl j0 rfl) ?_
   refine L_skip rfl (.no2 rfl rfl j0 rfl) ?_
   refine L_skip rfl (.no2 rfl rfl j0 rfl) ?_
   refine L_skip rfl (.no2 rfl rfl j0 rfl) ?_
   refine L_skip rfl (.no2 rfl rfl j0 rfl) ?_
   refine L_skip rfl (.no2 rfl rfl j0 rfl) ?_
   refine L_skip rfl (.no2 rfl rfl j0 rfl) ?_
   refine L_pur (c := .bool false) rfl rfl .plain (fun _ _ hd => P_pick (b := (decide ((x1).From ≤ (((x0).LoomStop).Days).High))) rfl (pick_f j0 rfl)) ?_
   refine L_pur (c := .bool false) rfl rfl .plain (fun _ _ hd => P_assign rfl) ?_
   refine L_nil fun i4 l5 hall => ?_
   have hs := hall.1
   have hfr := hfr.ext hs
   clear hs hall
   refine EL_nil ?_
   obtain rfl := sinj h
   exact hQ _ _ ⟨i4, hfr, rfl⟩
 ·clear hx
  obtain ⟨m5, hfr, d3⟩ := hR
  refine E_ret ?_
  obtain rfl := sinj h
  exact end1 rfl rfl (show _ = .bool (o0) from d3) ⟨_, hfr, rfl⟩
/-- (griffe/loom.mill).free -/
def f69 (x0 : LoomLoomMill) (x1 : LoomRun) (x2 : Int) : Option (Int) :=
 jn (σ := Unit) (fun (_ : Unit) =>
  (f73 x0 x1).bind fun j0 =>
  some ((w64 (j0 + ((x0).LoomMill).Change)))
  ) fun c4 =>
 (idx ((x0).orders) (x1).Order).bind fun j1 =>
 (idx ((x0).orders) x2).bind fun z1 =>
 bif ((j1).Chain == (z1).Chain) then
  (f73 x0 x1).bind fun j2 =>
  some (j2)
 else
  c4 ()
theorem en69 : Enters Try.prog 69 := enters_of Try.func69 (by kernel_rfl) rfl
theorem wk69 {gI : Gh} {wI : World} {x0 : LoomLoomMill} {x1 : LoomRun} {x2 : Int} {up0 : Value} (rp0 : RV gI.m wI x0 up0) {up1 : Value} (rp1 : RV gI.m wI x1 up1) {r : Int} (h : f69 x0 x1 x2 = some r) : Fn Try.prog 69 #[up0, up1, .int .i64 (x2)] gI wI (fun _ _ v => v = .int .i64 (r)) := by
 unfold f69 at h
 refine fn_of_E Try.func69 rfl (Nat.le_of_ble_eq_true rfl) fun g0 hm hfr => ?_
 have rp0 : RV g0.m wI x0 up0 := hm ▸ rp0
 have rp1 : RV g0.m wI x1 up1 := hm ▸ rp1
 show E _ 31 none _ _ _ _ _
 refine E_seq (E_region (EL_do .plain rfl (D_box (g := g0) rfl rp0 fun g1 w1 p1 hs q1 => ?_)))
 have hfr := hfr.ext hs
 have rp1 := rp1.ext hs
 refine EL_do .plain rfl (D_box (g := g1) rfl rp1 fun g2 w2 p2 hs q2 => ?_)
 have hfr := hfr.ext hs
 have q1 := q1.ext hs
 refine EL_at (.int .i64 (0)) rfl rfl ?_
 refine EL_nil (thn_n (E_joinC h (fun (s : Unit) e w => ∃ (g : Gh) , Fr gI wI g w ∧ e 3 = p1 ∧ PT g.m w (x0 : LoomLoomMill) p1 ∧ e 4 = p2 ∧ PT g.m w (x1 : LoomRun) p2) (fun X43 c4 u4 h => ?_) ?_))
 ·refine E_seq ?_
  have p5 := PT_field (part_LoomLoomMill_1).1 q1
  refine L_load (x := .tmp 7) Try.isAgg25 Try.sizeOf25 p5 fun i3 d4 x4 => ?_
  have q5 := PT_field (part_LoomRun_0).1 q2
  refine L_load (x := .tmp 9) Try.isAgg3 Try.sizeOf3 q5 fun q6 t5 z4 => ?_
  obtain rfl := RV_int.1 t5
  obtain ⟨j1, j3, h⟩ := bsome h
  have i4 := PT_idx d4 j3
  have u5 := PT_field (part_LoomOrder_1).1 i4
  refine L_load (x := .tmp 12) Try.isAgg3 Try.sizeOf3 u5 fun r6 x5 c5 => ?_
  obtain rfl := RV_int.1 x5
  have y5 := PT_field (part_LoomLoomMill_1).1 q1
  refine L_load (x := .tmp 14) Try.isAgg25 Try.sizeOf25 y5 fun o3 j4 d5 => ?_
  obtain ⟨z1, p3, h⟩ := bsome h
  have m4 := PT_idx j4 p3
  have z5 := PT_field (part_LoomOrder_1).1 m4
  refine L_load (x := .tmp 18) Try.isAgg3 Try.sizeOf3 z5 fun t6 a6 i5 => ?_
  obtain rfl := RV_int.1 a6
  refine E_drawL (g := g2) (n := 14) [] [0, 1, 2, 3, 4, 5, 6, 7, 8, 9, 10, 11, 12, 13] rfl mixed (by kernel_rfl) trivial ?_
  refine L_pur (c := fPtr p1 2) rfl rfl .plain (fun _ _ hd => P_fieldAddr at_96_1 rfl (PT.ptr q1)) ?_
  refine L_ld (c := i3) rfl rfl .plain (fun _ _ h => h.ch) x4 rfl ?_
  refine L_pur (c := fPtr p2 0) rfl rfl .plain (fun _ _ hd => P_fieldAddr at_76_0 rfl (PT.ptr q2)) ?_
  refine L_ld (c := .int .i64 ((x1).Order)) rfl rfl .plain (fun _ _ h => h.ch) z4 rfl ?_
  refine L_pur (c := ePtr i3 (x1).Order 5) rfl rfl .plain (fun _ _ hd => P_indexAddr (α := LoomOrder) Try.underlying25 Try.sizeOf82 rfl d4 rfl j3) ?_
  refine L_pur (c := fPtr (ePtr i3 (x1).Order 5) 1) rfl rfl .plain (fun _ _ hd => P_fieldAddr at_82_1 rfl (PT.ptr i4)) ?_
  refine L_ld (c := .int .i64 ((j1).Chain)) rfl rfl .plain (fun _ _ h => h.ch) c5 rfl ?_
  refine L_pur (c := fPtr p1 2) rfl rfl .plain (fun _ _ hd => P_fieldAddr at_96_1 rfl (PT.ptr q1)) ?_
  refine L_ld (c := o3) rfl rfl .plain (fun _ _ h => h.ch) d5 rfl ?_
  refine L_pur (c := .int .i64 (x2)) rfl rfl .plain (fun _ _ hd => P_move rfl) ?_
  refine L_pur (c := ePtr o3 x2 5) rfl rfl .plain (fun _ _ hd => P_indexAddr (α := LoomOrder) Try.underlying25 Try.sizeOf82 rfl j4 rfl p3) ?_
  refine L_pur (c := fPtr (ePtr o3 x2 5) 1) rfl rfl .plain (fun _ _ hd => P_fieldAddr at_82_1 rfl (PT.ptr m4)) ?_
  refine L_ld (c := .int .i64 ((z1).Chain)) rfl rfl .plain (fun _ _ h => h.ch) i5 rfl ?_
  refine L_pur (c := .bool (((j1).Chain == (z1).Chain))) rfl rfl .plain (fun _ _ hd => P_int rfl rfl rfl) ?_
  refine L_nil fun z2 u6 hall => ?_
  have hs := hall.1
  have hfr := hfr.ext hs
  have q1 := q1.ext hs
  have q2 := q2.ext hs
  clear hs hall
  refine EL_nil (thn_n ?_)
  rcases csome h with ⟨u0, h⟩ | ⟨u0, h⟩
  ·refine E_ct u0 rfl ?_
   refine E_seq (E_region (EL_do .plain rfl (D_load (g := z2) Try.isAgg96 Try.sizeOf96 rfl q1 fun b6 c6 => ?_)))
   refine EL_do .plain rfl (D_load (g := z2) Try.isAgg76 Try.sizeOf76 rfl q2 fun d6 i6 => ?_)
   obtain ⟨j2, j5, h⟩ := bsome h
   refine EL_do .plain rfl (D_call (g := z2) (vs := [b6, d6]) en73 (.cons rfl (.cons rfl .nil)) (wk73 c6 i6 j5) fun v6 o6 x6 hs hr => ?_)
   have hfr := hfr.ext hs
   subst hr
   refine EL_at (.int .i64 (j2)) rfl rfl ?_
   refine EL_nil (thn_n (E_ret (thn_r ?_)))
   obtain rfl := sinj h
   exact end1 rfl rfl (show _ = .int .i64 (j2) from rfl) ⟨_, hfr, rfl⟩
  ·refine E_cf u0 rfl ?_
   exact E_skip (thn_n (u4 () _ _ ⟨z2, hfr, rfl, q1, rfl, q2⟩ h))
 ·rintro _ p6 y6 ⟨j6, hfr, d3, o0, u3, z3⟩ h
  refine E_seq (L_load (x := .tmp 3) Try.isAgg96 Try.sizeOf96 o0 fun n4 k6 l5 => ?_)
  refine L_load (x := .tmp 4) Try.isAgg76 Try.sizeOf76 z3 fun o4 l6 m5 => ?_
  obtain ⟨j0, n5, h⟩ := bsome h
  have p4 := PT_field (part_LoomLoomMill_0).1 o0
  have m6 := PT_field (part_LoomMill_1).1 p4
  refine L_load (x := .tmp 28) Try.isAgg3 Try.sizeOf3 m6 fun z6 n6 o5 => ?_
  obtain rfl := RV_int.1 n6
  refine E_drawL (g := j6) (n := 8) [(2, (fun v g w => v = .int .i64 (j0)))] [0, 1, 2, 3, 4, 5, 6, 7] rfl mixed (by kernel_rfl) (⟨fun _ => up_eq _, trivial⟩) ?_
  refine L_ld (c := n4) rfl rfl .plain (fun _ _ h => h.ch) l5 d3 ?_
  refine L_ld (c := o4) rfl rfl .plain (fun _ _ h => h.ch) m5 u3 ?_
  refine L_do (φ := fun v g w => v = .int .i64 (j0)) rfl rfl .plain (fun g w hd => D_call (g := g) (vs := [n4, o4]) en73 (.cons rfl (.cons rfl .nil)) (wk73 (k6.ext hd.1) (l6.ext hd.1) n5) fun g' w' v hs hr => ⟨g', hs, hr⟩) (fun a7 hv => ?_)
  obtain ⟨_, _, _, rfl⟩ := hv
  refine L_pur (c := fPtr p1 0) rfl rfl .plain (fun _ _ hd => P_fieldAddr at_96_0 d3 (PT.ptr o0)) ?_
  refine L_pur (c := fPtr (fPtr p1 0) 1) rfl rfl .plain (fun _ _ hd => P_fieldAddr at_24_1 rfl (PT.ptr p4)) ?_
  refine L_ld (c := .int .i64 (((x0).LoomMill).Change)) rfl rfl .plain (fun _ _ h => h.ch) o5 rfl ?_
  refine L_pur (c := .int .i64 ((w64 (j0 + ((x0).LoomMill).Change)))) rfl rfl .plain (fun _ _ hd => P_int rfl rfl rfl) ?_
  refine L_pur (c := .int .i64 ((w64 (j0 + ((x0).LoomMill).Change)))) rfl rfl .plain (fun _ _ hd => P_assign rfl) ?_
  refine L_nil fun b7 c7 hall => ?_
  have hs := hall.1
  have hfr := hfr.ext hs
  clear hs hall
  refine EL_nil (thn_n (E_ret ?_))
  obtain rfl := sinj h
  exact end1 rfl rfl (show _ = .int .i64 ((w64 (j0 + ((x0).LoomMill).Change))) from rfl) ⟨_, hfr, rfl⟩
/-- slices.ContainsFunc[[]griffe/api.LoomRun,griffe/api.LoomRun] -/
def f72 (x0 : List LoomRun) (x1 : LoomRun → Option Bool) : Option (Bool) :=
 (f91 x0 x1).bind fun y2 =>
 some ((decide (y2 ≥ (0 : Int))))
theorem en72 : Enters Try.prog 72 := enters_of Try.func72 (by kernel_rfl) rfl
theorem wk72 {gI : Gh} {wI : World} {x0 : List LoomRun} {x1 : LoomRun → Option Bool} {up0 : Value} (rp0 : RV gI.m wI x0 up0) {up1 : Value} (rp1 : FnV1 Try.prog x1 up1 gI wI) {r : Bool} (h : f72 x0 x1 = some r) : Fn Try.prog 72 #[up0, up1] gI wI (fun _ _ v => v = .bool (r)) := by
 unfold f72 at h
 refine fn_of_E Try.func72 rfl (Nat.le_of_ble_eq_true rfl) fun g0 hm hfr => ?_
 have rp0 : RV g0.m wI x0 up0 := hm ▸ rp0
 obtain ⟨ff1, fa1, fc1, rfl, fen1, fcl1⟩ := rp1
 show E _ 9 none _ _ _ _ _
 refine E_seq (E_region (EL_at (.bool false) rfl rfl ?_))
 refine EL_nil (thn_n (E_seq (E_region (EL_mw up0 rfl rfl ?_))))
 refine EL_mw ((.func (.func ff1) fa1 fc1)) rfl rfl ?_
 obtain ⟨y2, hy2, h⟩ := bsome h
 refine EL_do .plain rfl (D_call (g := g0) (vs := [up0, (.func (.func ff1) fa1 fc1)]) en91 (.cons rfl (.cons rfl .nil)) (wk91 rp0 (FnV1.ch ⟨_, _, _, rfl, fen1, fcl1⟩ hfr.ch) hy2) fun g1 w1_ v1 hs hr => ?_)
 have hfr := hfr.ext hs
 subst hr
 refine EL_in (.bool ((decide (y2 ≥ (0 : Int))))) rfl rfl rfl rfl ?_
 refine EL_at (.bool ((decide (y2 ≥ (0 : Int))))) rfl rfl ?_
 refine EL_nil (thn_n (E_ret ?_))
 obtain rfl := sinj h
 exact end1 rfl rfl (show _ = .bool ((decide (y2 ≥ (0 : Int)))) from rfl) ⟨_, hfr, rfl⟩
/-- griffe/grifferef08.Soon -/
def f74 (x0 : LoomMill) (x1 : List LoomOrder) (x2 : List LoomRun) (x3 : Int) : Option (Bool) :=
 (f92 x2 x3).bind fun y3 =>
 Option.bind (α := Bool) (
  bif (decide (y3 ≥ (0 : Int))) then
   (idx x2 x3).bind fun j1 =>
   (idx x2 y3).bind fun i3 =>
   (idx x2 x3).bind fun j3 =>
   (f77 x0 x1 i3 j3).bind fun u0 =>
   some ((decide ((j1).From < u0)))
  else
   some (false)
  ) fun o0 =>
 some (o0)
theorem en74 : Enters Try.prog 74 := enters_of Try.func74 (by kernel_rfl) rfl
theorem wk74 {gI : Gh} {wI : World} {x0 : LoomMill} {x1 : List LoomOrder} {x2 : List LoomRun} {x3 : Int} {up0 : Value} (rp0 : RV gI.m wI x0 up0) {up1 : Value} (rp1 : RV gI.m wI x1 up1) {up2 : Value} (rp2 : RV gI.m wI x2 up2) {r : Bool} (h : f74 x0 x1 x2 x3 = some r) : Fn Try.prog 74 #[up0, up1, up2, .int .i64 (x3)] gI wI (fun _ _ v => v = .bool (r)) := by
 unfold f74 at h
 refine fn_of_E Try.func74 rfl (Nat.le_of_ble_eq_true rfl) fun g0 hm hfr => ?_
 have rp0 : RV g0.m wI x0 up0 := hm ▸ rp0
 have rp1 : RV g0.m wI x1 up1 := hm ▸ rp1
 have rp2 : RV g0.m wI x2 up2 := hm ▸ rp2
 show E _ 34 none _ _ _ _ _
 refine E_seq (E_region (EL_do .plain rfl (D_box (g := g0) rfl rp0 fun g1 w1 p1 hs q1 => ?_)))
 have hfr := hfr.ext hs
 have rp1 := rp1.ext hs
 have rp2 := rp2.ext hs
 refine EL_at (.bool false) rfl rfl ?_
 refine EL_nil (thn_n (E_seq (E_region (EL_mw up2 rfl rfl ?_))))
 refine EL_mw (.int .i64 (x3)) rfl rfl ?_
 obtain ⟨y3, o4, h⟩ := bsome h
 refine EL_do .plain rfl (D_call (g := g1) (vs := [up2, .int .i64 (x3)]) en92 (.cons rfl (.cons rfl .nil)) (wk92 rp2 o4) fun g2 w2_ v2 hs hr => ?_)
 have hfr := hfr.ext hs
 have rp1 := rp1.ext hs
 have rp2 := rp2.ext hs
 have q1 := q1.ext hs
 subst hr
 refine EL_at (.int .i64 (y3)) rfl rfl ?_
 refine EL_nil (thn_n ?_)
 obtain ⟨o0, hx, h⟩ := bsome h
 refine E_join (fun e w => ∃ (g : Gh) , Fr gI wI g w ∧ e 8 = .bool (o0)) (fun Q' hQ => ?_) (fun l5 m5 hR => ?_)
 ·replace h := hx
  clear hx
  rcases csome h with ⟨j0, h⟩ | ⟨j0, h⟩
  ·obtain ⟨j1, z1, h⟩ := bsome h
   have o3 := PT_idx rp2 z1
   have p4 := PT_field (part_LoomRun_2).1 o3
   refine L_load (x := .tmp 19) Try.isAgg3 Try.sizeOf3 p4 fun p5 u4 c4 => ?_
   obtain rfl := RV_int.1 u4
   refine L_load (x := .tmp 4) Try.isAgg24 Try.sizeOf24 q1 fun p3 x4 d4 => ?_
   obtain ⟨i3, j2, h⟩ := bsome h
   have z4 := PT_idx rp2 j2
   refine L_load (x := .tmp 25) Try.isAgg76 Try.sizeOf76 z4 fun u3 c5 i4 => ?_
   obtain ⟨j3, z2, h⟩ := bsome h
   have d5 := PT_idx rp2 z2
   refine L_load (x := .tmp 29) Try.isAgg76 Try.sizeOf76 d5 fun z3 i5 j4 => ?_
   obtain ⟨u0, m4, h⟩ := bsome h
   refine E_drawL (g := g2) (n := 22) [(18, (fun v g w => v = .int .i64 (u0)))] [0, 1, 2, 3, 4, 5, 6, 7, 8, 9, 10, 11, 12, 13, 14, 15, 16, 17, 18, 19, 20, 21] rfl mixed (by kernel_rfl) (⟨fun _ => up_eq _, trivial⟩) ?_
   refine L_pur (c := .int .i64 (y3)) rfl rfl .plain (fun _ _ hd => P_move rfl) ?_
   refine L_pur (c := .bool ((decide (y3 ≥ (0 : Int))))) rfl rfl .plain (fun _ _ hd => P_int rfl rfl rfl) ?_
   refine L_pur (c := .bool ((decide (y3 ≥ (0 : Int))))) rfl rfl .plain (fun _ _ hd => P_move rfl) ?_
   refine L_pur (c := up2) rfl rfl (.yes2 rfl rfl j0) (fun _ _ hd => P_move rfl) ?_
   refine L_pur (c := .int .i64 (x3)) rfl rfl (.yes2 rfl rfl j0) (fun _ _ hd => P_move rfl) ?_
   refine L_pur (c := ePtr up2 x3 3) rfl rfl (.yes2 rfl rfl j0) (fun _ _ hd => P_indexAddr (α := LoomRun) Try.underlying31 Try.sizeOf76 rfl rp2 rfl z1) ?_
   refine L_pur (c := fPtr (ePtr up2 x3 3) 2) rfl rfl (.yes2 rfl rfl j0) (fun _ _ hd => P_fieldAddr at_76_2 rfl (PT.ptr o3)) ?_
   refine L_ld (c := .int .i64 ((j1).From)) rfl rfl (.yes2 rfl rfl j0) (fun _ _ h => h.ch) c4 rfl ?_
   refine L_ld (c := p3) rfl rfl (.yes2 rfl rfl j0) (fun _ _ h => h.ch) d4 rfl ?_
   refine L_pur (c := up1) rfl rfl (.yes2 rfl rfl j0) (fun _ _ hd => P_move rfl) ?_
   refine L_pur (c := up2) rfl rfl (.yes2 rfl rfl j0) (fun _ _ hd => P_move rfl) ?_
   refine L_pur (c := .int .i64 (y3)) rfl rfl (.yes2 rfl rfl j0) (fun _ _ hd => P_move rfl) ?_
   refine L_pur (c := ePtr up2 y3 3) rfl rfl (.yes2 rfl rfl j0) (fun _ _ hd => P_indexAddr (α := LoomRun) Try.underlying31 Try.sizeOf76 rfl rp2 rfl j2) ?_
   refine L_ld (c := u3) rfl rfl (.yes2 rfl rfl j0) (fun _ _ h => h.ch) i4 rfl ?_
   refine L_pur (c := up2) rfl rfl (.yes2 rfl rfl j0) (fun _ _ hd => P_move rfl) ?_
   refine L_pur (c := .int .i64 (x3)) rfl rfl (.yes2 rfl rfl j0) (fun _ _ hd => P_move rfl) ?_
   refine L_pur (c := ePtr up2 x3 3) rfl rfl (.yes2 rfl rfl j0) (fun _ _ hd => P_indexAddr (α := LoomRun) Try.underlying31 Try.sizeOf76 rfl rp2 rfl z2) ?_
   refine L_ld (c := z3) rfl rfl (.yes2 rfl rfl j0) (fun _ _ h => h.ch) j4 rfl ?_
   refine L_do (φ := fun v g w => v = .int .i64 (u0)) rfl rfl (.yes2 rfl rfl j0) (fun g w hd => D_call (g := g) (vs := [p3, up1, u3, z3]) en77 (.cons rfl (.cons rfl (.cons rfl (.cons rfl .nil)))) (wk77 (x4.ext hd.1) (rp1.ext hd.1) (c5.ext hd.1) (i5.ext hd.1) m4) fun g' w' v hs hr => ⟨g', hs, hr⟩) (fun q5 hv => ?_)
   obtain ⟨_, _, _, rfl⟩ := hv
   refine L_pur (c := .bool ((decide ((j1).From < u0)))) rfl rfl (.yes2 rfl rfl j0) (fun _ _ hd => P_int rfl rfl rfl) ?_
   refine L_pur (c := .bool ((decide ((j1).From < u0)))) rfl rfl .plain (fun _ _ hd => P_pick (b := (decide (y3 ≥ (0 : Int)))) rfl (pick_t j0 rfl)) ?_
   refine L_pur (c := .bool ((decide ((j1).From < u0)))) rfl rfl .plain (fun _ _ hd => P_assign rfl) ?_
   refine L_nil fun j5 t5 hall => ?_
   have hs := hall.1
   have hfr := hfr.ext hs
   clear hs hall
   refine EL_nil ?_
   obtain rfl := sinj h
   exact hQ _ _ ⟨j5, hfr, rfl⟩
  ·refine E_drawL (g := g2) (n := 22) [] [0, 1, 2, 3, 4, 5, 6, 7, 8, 9, 10, 11, 12, 13, 14, 15, 16, 17, 18, 19, 20, 21] rfl mixed (by kernel_rfl) trivial ?_
   refine L_pur (c := .int .i64 (y3)) rfl rfl .plain (fun _ _ hd => P_move rfl) ?_
   refine L_pur (c := .bool ((decide (y3 ≥ (0 : Int))))) rfl rfl .plain (fun _ _ hd => P_int rfl rfl rfl) ?_
   refine L_pur (c := .bool ((decide (y3 ≥ (0 : Int))))) rfl rfl .plain (fun _ _ hd => P_move rfl) ?_
   refine L_skip rfl (.no2 rfl rfl j0 rfl) ?_
   refine L_skip rfl (.no2 rfl rfl j0 rfl) ?_
   refine L_skip rfl (.no2 rfl rfl j0 rfl) ?_
   refine L_skip rfl (.no2 rfl rfl j0 rfl) ?_
   refine L_skip rfl (.no2 rfl rfl j0 rfl) ?_
   refine L_skip rfl (.no2 rfl rfl j0 rfl) ?_
   refine L_skip rfl (.no2 rfl rfl j0 rfl) ?_
   refine L_skip rfl (.no2 rfl rfl j0 rfl) ?_
   refine L_skip rfl (.no2 rfl rfl j0 rfl) ?_
   refine L_skip rfl (.no2 rfl rfl j0 rfl) ?_
   refine L_skip rfl (.no2 rfl rfl j0 rfl) ?_
   refine L_skip rfl (.no2 rfl rfl j0 rfl) ?_
   refine L_skip rfl (.no2 rfl rfl j0 rfl) ?_
   refine L_skip rfl (.no2 rfl rfl j0 rfl) ?_
   refine L_skip rfl (.no2 rfl rfl j0 rfl) ?_
   refine L_skip rfl (.no2 rfl rfl j0 rfl) ?_
   refine L_skip rfl (.no2 rfl rfl j0 rfl) ?_
   refine L_pur (c := .bool false) rfl rfl .plain (fun _ _ hd => P_pick (b := (decide (y3 ≥ (0 : Int)))) rfl (pick_f j0 rfl)) ?_
   refine L_pur (c := .bool false) rfl rfl .plain (fun _ _ hd => P_assign rfl) ?_
   refine L_nil fun n4 n5 hall => ?_
   have hs := hall.1
   have hfr := hfr.ext hs
   clear hs hall
   refine EL_nil ?_
   obtain rfl := sinj h
   exact hQ _ _ ⟨n4, hfr, rfl⟩
 ·clear hx
  obtain ⟨o5, hfr, d3⟩ := hR
  refine E_ret ?_
  obtain rfl := sinj h
  exact end1 rfl rfl (show _ = .bool (o0) from d3) ⟨_, hfr, rfl⟩
/-- slices.ContainsFunc[[]griffe/api.LoomOrder,griffe/api.LoomOrder] -/
def f82 (x0 : List LoomOrder) (x1 : LoomOrder → Option Bool) : Option (Bool) :=
 (f97 x0 x1).bind fun y2 =>
 some ((decide (y2 ≥ (0 : Int))))
theorem en82 : Enters Try.prog 82 := enters_of Try.func82 (by kernel_rfl) rfl
theorem wk82 {gI : Gh} {wI : World} {x0 : List LoomOrder} {x1 : LoomOrder → Option Bool} {up0 : Value} (rp0 : RV gI.m wI x0 up0) {up1 : Value} (rp1 : FnV1 Try.prog x1 up1 gI wI) {r : Bool} (h : f82 x0 x1 = some r) : Fn Try.prog 82 #[up0, up1] gI wI (fun _ _ v => v = .bool (r)) := by
 unfold f82 at h
 refine fn_of_E Try.func82 rfl (Nat.le_of_ble_eq_true rfl) fun g0 hm hfr => ?_
 have rp0 : RV g0.m wI x0 up0 := hm ▸ rp0
 obtain ⟨ff1, fa1, fc1, rfl, fen1, fcl1⟩ := rp1
 show E _ 9 none _ _ _ _ _
 refine E_seq (E_region (EL_at (.bool false) rfl rfl ?_))
 refine EL_nil (thn_n (E_seq (E_region (EL_mw up0 rfl rfl ?_))))
 refine EL_mw ((.func (.func ff1) fa1 fc1)) rfl rfl ?_
 obtain ⟨y2, hy2, h⟩ := bsome h
 refine EL_do .plain rfl (D_call (g := g0) (vs := [up0, (.func (.func ff1) fa1 fc1)]) en97 (.cons rfl (.cons rfl .nil)) (wk97 rp0 (FnV1.ch ⟨_, _, _, rfl, fen1, fcl1⟩ hfr.ch) hy2) fun g1 w1_ v1 hs hr => ?_)
 have hfr := hfr.ext hs
 subst hr
 refine EL_in (.bool ((decide (y2 ≥ (0 : Int))))) rfl rfl rfl rfl ?_
 refine EL_at (.bool ((decide (y2 ≥ (0 : Int))))) rfl rfl ?_
 refine EL_nil (thn_n (E_ret ?_))
 obtain rfl := sinj h
 exact end1 rfl rfl (show _ = .bool ((decide (y2 ≥ (0 : Int)))) from rfl) ⟨_, hfr, rfl⟩
/-- griffe/loom.subsets -/
def f84 (x0 : Int) : Option (It Int) :=
 some ((fun σ cons s => f99 x0 σ cons s))
theorem en84 : Enters Try.prog 84 := enters_of Try.func84 (by kernel_rfl) rfl
theorem wk84 {gI : Gh} {wI : World} {x0 : Int}  {r : It Int} (h : f84 x0 = some r) : Fn Try.prog 84 #[.int .i64 (x0)] gI wI (fun m w v => ItV Try.prog (RA1 (α := Int)) (r) v m w) := by
 unfold f84 at h
 refine fn_of_E Try.func84 rfl (Nat.le_of_ble_eq_true rfl) fun g0 hm hfr => ?_
 show E _ 4 none _ _ _ _ _
 refine E_seq (E_region (EL_do .plain rfl (D_box (g := g0) rfl (RV_int.2 rfl) fun g1 w1 p1 hs q1 => ?_)))
 have hfr := hfr.ext hs
 refine EL_at (.nilFunc) rfl rfl ?_
 refine EL_nil (thn_n (E_seq (E_region (EL_pur (v := (.func (.func 99) #[] #[p1])) (P_makeFunc (capf_0_1 (show ev _ _ = p1 from rfl))) .plain rfl ?_))))
 refine EL_at ((.func (.func 99) #[] #[p1])) rfl rfl ?_
 refine EL_nil (thn_n (E_ret ?_))
 obtain rfl := sinj h
 exact end1 rfl rfl (show _ = (.func (.func 99) #[] #[p1]) from rfl) ⟨_, hfr, (show ItV Try.prog (RA1 (α := Int)) (fun σ cons s => f99 x0 σ cons s) ((.func (.func 99) #[] #[p1])) g1.m w1 from ⟨99, #[], #[p1], rfl, en99, fun g' w' hch σ cons s s' h => wk99  (q1.ch hch) h⟩)⟩
/-- cmp.Compare[int] -/
def f90 (x0 : Int) (x1 : Int) : Option (Int) :=
 (f102 x0).bind fun y2 =>
 (f102 x1).bind fun y4 =>
 jn (σ := Unit) (fun (_ : Unit) =>
  jn (σ := Unit) (fun (_ : Unit) =>
   jn (σ := Unit) (fun (_ : Unit) =>
    jn (σ := Unit) (fun (_ : Unit) =>
     some ((0 : Int))
     ) fun u3 =>
    bif (decide (x0 > x1)) then
     some ((1 : Int))
    else
     u3 ()
    ) fun z3 =>
   bif (decide (x0 < x1)) then
    some ((-1 : Int))
   else
    z3 ()
   ) fun k18 =>
  bif y4 then
   some ((1 : Int))
  else
   k18 ()
  ) fun c4 =>
 bif y2 then
  jn (σ := Unit) (fun (_ : Unit) =>
   some ((-1 : Int))
   ) fun d4 =>
  bif y4 then
   some ((0 : Int))
  else
   d4 ()
 else
  c4 ()
theorem en90 : Enters Try.prog 90 := enters_of Try.func90 (by kernel_rfl) rfl
theorem wk90 {gI : Gh} {wI : World} {x0 : Int} {x1 : Int}  {r : Int} (h : f90 x0 x1 = some r) : Fn Try.prog 90 #[.int .i64 (x0), .int .i64 (x1)] gI wI (fun _ _ v => v = .int .i64 (r)) := by
 unfold f90 at h
 refine fn_of_E Try.func90 rfl (Nat.le_of_ble_eq_true rfl) fun g0 hm hfr => ?_
 show E _ 20 none _ _ _ _ _
 refine E_seq (E_region (EL_at (.int .i64 (0)) rfl rfl ?_))
 refine EL_nil (thn_n (E_seq (E_region (EL_mw (.int .i64 (x0)) rfl rfl ?_))))
 obtain ⟨y2, hy2, h⟩ := bsome h
 refine EL_do .plain rfl (D_call (g := g0) (vs := [.int .i64 (x0)]) en102 (.cons rfl .nil) (wk102  hy2) fun g1 w1_ v1 hs hr => ?_)
 have hfr := hfr.ext hs
 subst hr
 refine EL_at (.bool (y2)) rfl rfl ?_
 refine EL_nil (thn_n (E_seq (E_region (EL_mw (.int .i64 (x1)) rfl rfl ?_))))
 obtain ⟨y4, p4, h⟩ := bsome h
 refine EL_do .plain rfl (D_call (g := g1) (vs := [.int .i64 (x1)]) en102 (.cons rfl .nil) (wk102  p4) fun g3 w3_ v3 hs hr => ?_)
 have hfr := hfr.ext hs
 subst hr
 refine EL_at (.bool (y4)) rfl rfl ?_
 refine EL_nil (thn_n (E_joinC h (fun (s : Unit) e w => ∃ (g : Gh) , Fr gI wI g w ∧ e 0 = .int .i64 (x0) ∧ e 1 = .int .i64 (x1) ∧ e 6 = .bool (y4)) (fun X10 c4 i4 h => ?_) ?_))
 ·refine E_seq (E_region (EL_mw (.bool (y2)) rfl rfl ?_))
  refine EL_nil (thn_n ?_)
  rcases csome h with ⟨j0, h⟩ | ⟨j0, h⟩
  ·refine E_ct j0 rfl ?_
   refine E_joinC h (fun (s : Unit) e w => ∃ (g : Gh) , Fr gI wI g w) (fun X13 d4 j4 h => ?_) ?_
   ·refine E_seq (E_region (EL_mw (.bool (y4)) rfl rfl ?_))
    refine EL_nil (thn_n ?_)
    rcases csome h with ⟨o0, h⟩ | ⟨o0, h⟩
    ·refine E_ct o0 rfl ?_
     refine E_seq (E_region (EL_at (.int .i64 (0)) rfl rfl ?_))
     refine EL_nil (thn_n (E_ret (thn_r ?_)))
     refine thn_r ?_
     obtain rfl := sinj h
     exact end1 rfl rfl (show _ = .int .i64 (0) from rfl) ⟨_, hfr, rfl⟩
    ·refine E_cf o0 rfl ?_
     exact E_skip (thn_n (j4 () _ _ ⟨g3, hfr⟩ h))
   ·rintro _ c5 m5 ⟨n5, hfr⟩ h
    refine E_seq (E_region (EL_at (.int .i64 (-1)) rfl rfl ?_))
    refine EL_nil (thn_n (E_ret (thn_r ?_)))
    obtain rfl := sinj h
    exact end1 rfl rfl (show _ = .int .i64 (-1) from rfl) ⟨_, hfr, rfl⟩
  ·refine E_cf j0 rfl ?_
   exact E_skip (thn_n (i4 () _ _ ⟨g3, hfr, rfl, rfl, rfl⟩ h))
 ·rintro _ d5 o5 ⟨u4, hfr, d3, i3, j3⟩ h
  refine E_joinC h (fun (s : Unit) e w => ∃ (g : Gh) , Fr gI wI g w ∧ e 0 = .int .i64 (x0) ∧ e 1 = .int .i64 (x1)) (fun X18 k18 m4 h => ?_) ?_
  ·refine E_seq (E_region (EL_mv j3 rfl ?_))
   refine EL_nil (thn_n ?_)
   rcases csome h with ⟨u0, h⟩ | ⟨u0, h⟩
   ·refine E_ct u0 rfl ?_
    refine E_seq (E_region (EL_at (.int .i64 (1)) rfl rfl ?_))
    refine EL_nil (thn_n (E_ret (thn_r ?_)))
    obtain rfl := sinj h
    exact end1 rfl rfl (show _ = .int .i64 (1) from rfl) ⟨_, hfr, rfl⟩
   ·refine E_cf u0 rfl ?_
    exact E_skip (thn_n (m4 () _ _ ⟨u4, hfr, d3, i3⟩ h))
  ·rintro _ i5 p5 ⟨x4, hfr, j2, z2⟩ h
   refine E_joinC h (fun (s : Unit) e w => ∃ (g : Gh) , Fr gI wI g w ∧ e 0 = .int .i64 (x0) ∧ e 1 = .int .i64 (x1)) (fun X22 z3 n4 h => ?_) ?_
   ·refine E_seq (E_region (EL_mv j2 rfl ?_))
    refine EL_mv z2 rfl ?_
    refine EL_in (.bool ((decide (x0 < x1)))) rfl rfl rfl rfl ?_
    refine EL_nil (thn_n ?_)
    rcases csome h with ⟨j1, h⟩ | ⟨j1, h⟩
    ·refine E_ct j1 rfl ?_
     refine E_seq (E_region (EL_at (.int .i64 (-1)) rfl rfl ?_))
     refine EL_nil (thn_n (E_ret (thn_r ?_)))
     obtain rfl := sinj h
     exact end1 rfl rfl (show _ = .int .i64 (-1) from rfl) ⟨_, hfr, rfl⟩
    ·refine E_cf j1 rfl ?_
     exact E_skip (thn_n (n4 () _ _ ⟨x4, hfr, j2, z2⟩ h))
   ·rintro _ j5 q5 ⟨z4, hfr, o3, p3⟩ h
    refine E_joinC h (fun (s : Unit) e w => ∃ (g : Gh) , Fr gI wI g w) (fun X26 u3 o4 h => ?_) ?_
    ·refine E_seq (E_region (EL_mv o3 rfl ?_))
     refine EL_mv p3 rfl ?_
     refine EL_in (.bool ((decide (x0 > x1)))) rfl rfl rfl rfl ?_
     refine EL_nil (thn_n ?_)
     rcases csome h with ⟨z1, h⟩ | ⟨z1, h⟩
     ·refine E_ct z1 rfl ?_
      refine E_seq (E_region (EL_at (.int .i64 (1)) rfl rfl ?_))
      refine EL_nil (thn_n (E_ret (thn_r ?_)))
      obtain rfl := sinj h
      exact end1 rfl rfl (show _ = .int .i64 (1) from rfl) ⟨_, hfr, rfl⟩
     ·refine E_cf z1 rfl ?_
      exact E_skip (thn_n (o4 () _ _ ⟨z4, hfr⟩ h))
    ·rintro _ l5 t5 ⟨u5, hfr⟩ h
     refine E_seq (E_region (EL_at (.int .i64 (0)) rfl rfl ?_))
     refine EL_nil (thn_n (E_ret ?_))
     obtain rfl := sinj h
     exact end1 rfl rfl (show _ = .int .i64 (0) from rfl) ⟨_, hfr, rfl⟩
/-- slices.ContainsFunc[[]int,int] -/
def f95 (x0 : List Int) (x1 : Int → Option Bool) : Option (Bool) :=
 (f104 x0 x1).bind fun y2 =>
 some ((decide (y2 ≥ (0 : Int))))
theorem en95 : Enters Try.prog 95 := enters_of Try.func95 (by kernel_rfl) rfl
theorem wk95 {gI : Gh} {wI : World} {x0 : List Int} {x1 : Int → Option Bool} {up0 : Value} (rp0 : RV gI.m wI x0 up0) {up1 : Value} (rp1 : FnV1 Try.prog x1 up1 gI wI) {r : Bool} (h : f95 x0 x1 = some r) : Fn Try.prog 95 #[up0, up1] gI wI (fun _ _ v => v = .bool (r)) := by
 unfold f95 at h
 refine fn_of_E Try.func95 rfl (Nat.le_of_ble_eq_true rfl) fun g0 hm hfr => ?_
 have rp0 : RV g0.m wI x0 up0 := hm ▸ rp0
 obtain ⟨ff1, fa1, fc1, rfl, fen1, fcl1⟩ := rp1
 show E _ 9 none _ _ _ _ _
 refine E_seq (E_region (EL_at (.bool false) rfl rfl ?_))
 refine EL_nil (thn_n (E_seq (E_region (EL_mw up0 rfl rfl ?_))))
 refine EL_mw ((.func (.func ff1) fa1 fc1)) rfl rfl ?_
 obtain ⟨y2, hy2, h⟩ := bsome h
 refine EL_do .plain rfl (D_call (g := g0) (vs := [up0, (.func (.func ff1) fa1 fc1)]) en104 (.cons rfl (.cons rfl .nil)) (wk104 rp0 (FnV1.ch ⟨_, _, _, rfl, fen1, fcl1⟩ hfr.ch) hy2) fun g1 w1_ v1 hs hr => ?_)
 have hfr := hfr.ext hs
 subst hr
 refine EL_in (.bool ((decide (y2 ≥ (0 : Int))))) rfl rfl rfl rfl ?_
 refine EL_at (.bool ((decide (y2 ≥ (0 : Int))))) rfl rfl ?_
 refine EL_nil (thn_n (E_ret ?_))
 obtain rfl := sinj h
 exact end1 rfl rfl (show _ = .bool ((decide (y2 ≥ (0 : Int)))) from rfl) ⟨_, hfr, rfl⟩
/-- (griffe/loom.mill).soonest -/
def f98 (x0 : LoomLoomMill) (x1 : Vector (Vector Int 7) 128) (x2 : Int) (x3 : Int) (x4 : Int) (x5 : List (Int × LoomRun)) : Option (Int) :=
 (shl64 (1 : Int) x3).bind fun y2 =>
 jn (σ := Unit) (fun (_ : Unit) =>
  Option.bind (α := Int) (
   lp (σ := Int × Int) (fun g8 (u0, j0) =>
    bif (decide (j0 < (((x0).orders).length : Int))) then
     Option.bind (α := Int) (
      jn (σ := Unit) (fun (_ : Unit) =>
       (idx (x1).toList (bit64 .andNot x2 y2)).bind fun i8 =>
       (idx (i8).toList j0).bind fun c4 =>
       Option.bind (α := Int) (
        (idx ((x0).orders) j0).bind fun t5 =>
        (idx ((x0).orders) x3).bind fun u5 =>
        bif ((t5).Chain != (u5).Chain) then
         some ((w64 (c4 + ((x0).LoomMill).Change)))
        else
         some (c4)
        ) fun o3 =>
       (f105 x0 x3 x4 o3 x5).bind fun y5 =>
       some ((min64 u0 y5))
       ) fun j8 =>
      Option.bind (α := Bool) (
       (shr64 (bit64 .andNot x2 y2) j0).bind fun d3 =>
       bif ((bit64 .and d3 (1 : Int)) == (0 : Int)) then
        some (true)
       else
        (idx (x1).toList (bit64 .andNot x2 y2)).bind fun k8 =>
        (idx (k8).toList j0).bind fun z5 =>
        some ((decide (z5 ≥ (1048576 : Int))))
       ) fun j2 =>
      bif j2 then
       some (u0)
      else
       j8 ()
      ) fun p3 =>
     g8 (p3, (w64 (j0 + (1 : Int))))
    else
     some (u0)
    ) big ((1048576 : Int), (0 : Int))
   ) fun z2 =>
  some (z2)
  ) fun k7 =>
 bif ((bit64 .andNot x2 y2) == (0 : Int)) then
  (f105 x0 x3 x4 ((0 : Int)) x5).bind fun y11 =>
  some (y11)
 else
  k7 ()
theorem en98 : Enters Try.prog 98 := enters_of Try.func98 (by kernel_rfl) rfl
theorem wk98 {gI : Gh} {wI : World} {x0 : LoomLoomMill} {x1 : Vector (Vector Int 7) 128} {x2 : Int} {x3 : Int} {x4 : Int} {x5 : List (Int × LoomRun)} {up0 : Value} (rp0 : RV gI.m wI x0 up0) {up1 : Value} (rp1 : PT gI.m wI x1 up1) {up5 : Value} (mq5 : MR (Value.int .i64) gI wI x5 up5) {r : Int} (h : f98 x0 x1 x2 x3 x4 x5 = some r) : Fn Try.prog 98 #[up0, up1, .int .i64 (x2), .int .i64 (x3), .int .i64 (x4), up5] gI wI (fun _ _ v => v = .int .i64 (r)) := by
 unfold f98 at h
 refine fn_of_E Try.func98 rfl (Nat.le_of_ble_eq_true rfl) fun g0 hm hfr => ?_
 have rp0 : RV g0.m wI x0 up0 := hm ▸ rp0
 have rp1 : PT g0.m wI x1 up1 := hm ▸ rp1
 have mq5 := MQ.enter mq5 hm hfr
 show E _ 84 none _ _ _ _ _
 refine E_seq (E_region (EL_do .plain rfl (D_box (g := g0) rfl rp0 fun g1 w1 p1 hs q1 => ?_)))
 have hfr := hfr.ext hs
 have rp1 := rp1.ext hs
 have mq5 := mq5.ext hs
 refine EL_at (.int .i64 (0)) rfl rfl ?_
 refine EL_nil (thn_n (E_seq (E_region (EL_mw (.int .i64 (x2)) rfl rfl ?_))))
 refine EL_mw (.int .i64 (x3)) rfl rfl ?_
 obtain ⟨y2, hy2, h⟩ := bsome h
 refine EL_pur (v := .int .i64 (y2)) (P_int rfl rfl (congrArg (Option.map (Value.int .i64)) hy2)) .plain rfl ?_
 refine EL_in (.int .i64 ((bit64 .andNot x2 y2))) rfl rfl rfl rfl ?_
 refine EL_at (.int .i64 ((bit64 .andNot x2 y2))) rfl rfl ?_
 refine EL_nil (thn_n (E_joinC h (fun (s : Unit) e w => ∃ (g : Gh) , Fr gI wI g w ∧ e 1 = up1 ∧ PT g.m w (x1 : Vector (Vector Int 7) 128) up1 ∧ e 3 = .int .i64 (x3) ∧ e 4 = .int .i64 (x4) ∧ e 5 = up5 ∧ MQ (Value.int .i64) wI.heap.size g w (x5 : List (Int × LoomRun)) up5 ∧ e 6 = p1 ∧ PT g.m w (x0 : LoomLoomMill) p1 ∧ e 13 = .int .i64 ((bit64 .andNot x2 y2))) (fun X7 k7 aB h => ?_) ?_))
 ·refine E_seq (E_region (EL_mw (.int .i64 ((bit64 .andNot x2 y2))) rfl rfl ?_))
  refine EL_in (.bool (((bit64 .andNot x2 y2) == (0 : Int)))) rfl rfl rfl rfl ?_
  refine EL_nil (thn_n ?_)
  rcases csome h with ⟨l8, h⟩ | ⟨l8, h⟩
  ·refine E_ct l8 rfl ?_
   refine E_seq (E_region (EL_do .plain rfl (D_load (g := g1) Try.isAgg96 Try.sizeOf96 rfl q1 fun v9 r9 => ?_)))
   refine EL_mw (.int .i64 (x3)) rfl rfl ?_
   refine EL_mw (.int .i64 (x4)) rfl rfl ?_
   refine EL_mw up5 rfl rfl ?_
   obtain ⟨y11, eA, h⟩ := bsome h
   refine EL_do .plain rfl (D_call (g := g1) (vs := [v9, .int .i64 (x3), .int .i64 (x4), .int .i64 (0), up5]) en105 (.cons rfl (.cons rfl (.cons rfl (.cons rfl (.cons rfl .nil))))) (wk105 r9 mq5.r eA) fun dC lB eC hs hr => ?_)
   have hfr := hfr.ext hs
   subst hr
   refine EL_at (.int .i64 (y11)) rfl rfl ?_
   refine EL_nil (thn_n (E_ret (thn_r ?_)))
   obtain rfl := sinj h
   exact end1 rfl rfl (show _ = .int .i64 (y11) from rfl) ⟨_, hfr, rfl⟩
  ·refine E_cf l8 rfl ?_
   exact E_skip (thn_n (aB () _ _ ⟨g1, hfr, rfl, rp1, rfl, rfl, rfl, mq5, rfl, q1, rfl⟩ h))
 ·rintro _ mB iC ⟨dA, hfr, l9, m9, n9, o9, p9, q9, l7, a6, m8⟩ h
  refine E_seq (E_region (EL_at (.int .i64 (1048576)) rfl rfl ?_))
  refine EL_nil (thn_n ?_)
  obtain ⟨z2, hx, h⟩ := bsome h
  refine E_join (fun e w => ∃ (g : Gh) , Fr gI wI g w ∧ e 14 = .int .i64 (z2)) (fun Q' hQ => ?_) (fun bB nB hR => ?_)
  ·replace h := hx
   clear hx
   refine E_seq (E_region (EL_pur (v := fPtr p1 2) (P_fieldAddr at_96_1 l7 (PT.ptr a6)) .plain rfl ?_))
   have gA := PT_field (part_LoomLoomMill_1).1 a6
   refine EL_do .plain rfl (D_load (g := dA) Try.isAgg25 Try.sizeOf25 rfl gA fun oB iA => ?_)
   refine EL_pur (v := .int .i64 (((x0).orders).length : Int)) (P_len Try.underlying25 rfl iA) .plain rfl ?_
   refine EL_mw (.int .i64 (0)) rfl rfl ?_
   refine EL_nil (thn_n (E_block ?_))
   refine E_lp h (fun (s : Int × Int) e w => ∃ (g : Gh) , Fr gI wI g w ∧ e 1 = up1 ∧ PT g.m w (x1 : Vector (Vector Int 7) 128) up1 ∧ e 3 = .int .i64 (x3) ∧ e 4 = .int .i64 (x4) ∧ e 5 = up5 ∧ MQ (Value.int .i64) wI.heap.size g w (x5 : List (Int × LoomRun)) up5 ∧ e 6 = p1 ∧ PT g.m w (x0 : LoomLoomMill) p1 ∧ e 13 = .int .i64 ((bit64 .andNot x2 y2)) ∧ e 14 = .int .i64 (s.1) ∧ e 30 = .int .i64 ((((x0).orders).length : Int)) ∧ e 31 = .int .i64 (s.2)) ⟨dA, hfr, l9, m9, n9, o9, p9, q9, l7, a6, m8, rfl, rfl, rfl⟩ (fun X309 g8 t9 => ?_)
   rintro ⟨u0, j0⟩ cB pB ⟨b6, hfr, p4, i3, j6, k6, l6, m6, n6, o6, u3, m4, n4, z3⟩ h
   refine E_seq (E_region (EL_pur (v := .bool ((decide (j0 < (((x0).orders).length : Int))))) (P_int z3 n4 rfl) .plain rfl ?_))
   refine EL_nil (thn_n (E_seq ?_))
   rcases csome h with ⟨c6, h⟩ | ⟨c6, h⟩
   ·refine E_ct c6 rfl ?_
    refine E_skip (thn_n ?_)
    obtain ⟨p3, hx, h⟩ := bsome h
    refine E_join (fun e w => ∃ (g : Gh) , Fr gI wI g w ∧ e 1 = up1 ∧ PT g.m w (x1 : Vector (Vector Int 7) 128) up1 ∧ e 3 = .int .i64 (x3) ∧ e 4 = .int .i64 (x4) ∧ e 5 = up5 ∧ MQ (Value.int .i64) wI.heap.size g w (x5 : List (Int × LoomRun)) up5 ∧ e 6 = p1 ∧ PT g.m w (x0 : LoomLoomMill) p1 ∧ e 13 = .int .i64 ((bit64 .andNot x2 y2)) ∧ e 14 = .int .i64 (p3) ∧ e 30 = .int .i64 ((((x0).orders).length : Int)) ∧ e 31 = .int .i64 (j0)) (fun Q' hQ => ?_) (fun dB qB hR => ?_)
    ·replace h := hx
     clear hx
     refine E_block ?_
     refine E_seq (E_region (EL_mv z3 rfl ?_))
     refine EL_at (.int .i64 (j0)) rfl rfl ?_
     refine EL_nil (thn_n (E_joinC h (fun (s : Unit) e w => ∃ (g : Gh) , Fr gI wI g w ∧ e 1 = up1 ∧ PT g.m w (x1 : Vector (Vector Int 7) 128) up1 ∧ e 3 = .int .i64 (x3) ∧ e 4 = .int .i64 (x4) ∧ e 5 = up5 ∧ MQ (Value.int .i64) wI.heap.size g w (x5 : List (Int × LoomRun)) up5 ∧ e 6 = p1 ∧ PT g.m w (x0 : LoomLoomMill) p1 ∧ e 13 = .int .i64 ((bit64 .andNot x2 y2)) ∧ e 14 = .int .i64 (u0) ∧ e 15 = .int .i64 (j0) ∧ e 30 = .int .i64 ((((x0).orders).length : Int)) ∧ e 31 = .int .i64 (j0)) (fun X474 j8 u9 h => ?_) ?_))
     ·obtain ⟨j2, hx, h⟩ := bsome h
      refine E_join (fun e w => ∃ (g : Gh) , Fr gI wI g w ∧ e 1 = up1 ∧ PT g.m w (x1 : Vector (Vector Int 7) 128) up1 ∧ e 3 = .int .i64 (x3) ∧ e 4 = .int .i64 (x4) ∧ e 5 = up5 ∧ MQ (Value.int .i64) wI.heap.size g w (x5 : List (Int × LoomRun)) up5 ∧ e 6 = p1 ∧ PT g.m w (x0 : LoomLoomMill) p1 ∧ e 13 = .int .i64 ((bit64 .andNot x2 y2)) ∧ e 14 = .int .i64 (u0) ∧ e 15 = .int .i64 (j0) ∧ e 30 = .int .i64 ((((x0).orders).length : Int)) ∧ e 31 = .int .i64 (j0) ∧ e 48 = .bool (j2)) (fun Q' hQ => ?_) (fun eB rB hR => ?_)
      ·replace h := hx
       clear hx
       refine E_region (EL_mv u3 rfl ?_)
       refine EL_mw (.int .i64 (j0)) rfl rfl ?_
       obtain ⟨d3, x9, h⟩ := bsome h
       refine EL_pur (v := .int .i64 (d3)) (P_int rfl rfl (congrArg (Option.map (Value.int .i64)) x9)) .plain rfl ?_
       refine EL_in (.int .i64 ((bit64 .and d3 (1 : Int)))) rfl rfl rfl rfl ?_
       refine EL_in (.bool (((bit64 .and d3 (1 : Int)) == (0 : Int)))) rfl rfl rfl rfl ?_
       refine EL_mw (.bool (((bit64 .and d3 (1 : Int)) == (0 : Int)))) rfl rfl ?_
       rcases csome h with ⟨o0, h⟩ | ⟨o0, h⟩
       ·refine EL_skip (.no2 rfl rfl o0 rfl) rfl ?_
        refine EL_skip (.no2 rfl rfl o0 rfl) rfl ?_
        refine EL_skip (.no2 rfl rfl o0 rfl) rfl ?_
        refine EL_skip (.no2 rfl rfl o0 rfl) rfl ?_
        refine EL_skip (.no2 rfl rfl o0 rfl) rfl ?_
        refine EL_skip (.no2 rfl rfl o0 rfl) rfl ?_
        refine EL_skip (.no2 rfl rfl o0 rfl) rfl ?_
        refine EL_skip (.no2 rfl rfl o0 rfl) rfl ?_
        refine EL_pur (v := .bool true) (P_pick (b := ((bit64 .and d3 (1 : Int)) == (0 : Int))) rfl (pick_t o0 rfl)) .plain rfl ?_
        refine EL_nil ?_
        obtain rfl := sinj h
        exact hQ _ _ ⟨b6, hfr, p4, i3, j6, k6, l6, m6, n6, o6, u3, m4, rfl, n4, z3, rfl⟩
       ·refine EL_pur (v := up1) (P_move p4) (.yes2 rfl rfl o0) rfl ?_
        refine EL_pur (v := .int .i64 ((bit64 .andNot x2 y2))) (P_move u3) (.yes2 rfl rfl o0) rfl ?_
        refine EL_pur (v := .int .i64 (j0)) (P_move rfl) (.yes2 rfl rfl o0) rfl ?_
        obtain ⟨pb485, po485, pe485⟩ := PT.ptr i3
        refine EL_pur (v := up1) (P_nilCk rfl pe485) (.yes2 rfl rfl o0) rfl ?_
        obtain ⟨k8, m7, h⟩ := bsome h
        refine EL_pur (v := fPtr up1 (((bit64 .andNot x2 y2) : Int).toNat * 7)) (P_indexAddrA (α := Vector Int 7) Try.underlying150 Try.sizeOf148 rfl (PT.ptr i3) rfl m7) (.yes2 rfl rfl o0) rfl ?_
        have n8 := PT_idxA i3 m7
        obtain ⟨z5, n7, h⟩ := bsome h
        refine EL_pur (v := fPtr (fPtr up1 (((bit64 .andNot x2 y2) : Int).toNat * 7)) ((j0 : Int).toNat * 1)) (P_indexAddrA (α := Int) Try.underlying148 Try.sizeOf3 rfl (PT.ptr n8) rfl n7) (.yes2 rfl rfl o0) rfl ?_
        have jA := PT_idxA n8 n7
        refine EL_do (.yes2 rfl rfl o0) rfl (D_load (g := b6) Try.isAgg3 Try.sizeOf3 rfl jA fun sB kA => ?_)
        obtain rfl := RV_int.1 kA
        refine EL_pur (v := .bool ((decide (z5 ≥ (1048576 : Int))))) (P_int rfl rfl rfl) (.yes2 rfl rfl o0) rfl ?_
        refine EL_pur (v := .bool ((decide (z5 ≥ (1048576 : Int))))) (P_pick (b := ((bit64 .and d3 (1 : Int)) == (0 : Int))) rfl (pick_f o0 rfl)) .plain rfl ?_
        refine EL_nil ?_
        obtain rfl := sinj h
        exact hQ _ _ ⟨b6, hfr, p4, i3, j6, k6, l6, m6, n6, o6, u3, m4, rfl, n4, z3, rfl⟩
      ·clear hx
       obtain ⟨o8, hfr, p6, q6, r6, t6, u6, v6, x6, y6, d5, i5, t7, j5, l5, m5⟩ := hR
       rcases csome h with ⟨d6, h⟩ | ⟨d6, h⟩
       ·refine E_cond_true (Eq.trans (show ev _ _ = .bool (j2) from m5) (congrArg Value.bool d6)) ?_
        refine E_exit ?_
        refine thn_e ?_
        refine blk_hit ?_
        obtain rfl := sinj h
        exact hQ _ _ ⟨o8, hfr, p6, q6, r6, t6, u6, v6, x6, y6, d5, i5, j5, l5⟩
       ·refine E_cond_false (Eq.trans (show ev _ _ = .bool (j2) from m5) (congrArg Value.bool d6)) ?_
        exact E_skip (thn_n (u9 () _ _ ⟨o8, hfr, p6, q6, r6, t6, u6, v6, x6, y6, d5, i5, t7, j5, l5⟩ h))
     ·rintro _ iB tB ⟨p8, hfr, u4, z1, z4, z6, a7, d4, j3, j1, o4, n5, o5, p5, q5⟩ h
      refine E_seq (E_region (EL_mv u4 rfl ?_))
      refine EL_mv o4 rfl ?_
      refine EL_mv o5 rfl ?_
      obtain ⟨pb494, po494, pe494⟩ := PT.ptr z1
      refine EL_pur (v := up1) (P_nilCk rfl pe494) .plain rfl ?_
      obtain ⟨i8, o7, h⟩ := bsome h
      refine EL_pur (v := fPtr up1 (((bit64 .andNot x2 y2) : Int).toNat * 7)) (P_indexAddrA (α := Vector Int 7) Try.underlying150 Try.sizeOf148 rfl (PT.ptr z1) rfl o7) .plain rfl ?_
      have q8 := PT_idxA z1 o7
      obtain ⟨c4, p7, h⟩ := bsome h
      refine EL_pur (v := fPtr (fPtr up1 (((bit64 .andNot x2 y2) : Int).toNat * 7)) ((j0 : Int).toNat * 1)) (P_indexAddrA (α := Int) Try.underlying148 Try.sizeOf3 rfl (PT.ptr q8) rfl p7) .plain rfl ?_
      have lA := PT_idxA q8 p7
      refine EL_do .plain rfl (D_load (g := p8) Try.isAgg3 Try.sizeOf3 rfl lA fun uB mA => ?_)
      obtain rfl := RV_int.1 mA
      refine EL_at (.int .i64 (c4)) rfl rfl ?_
      refine EL_nil (thn_n ?_)
      obtain ⟨o3, hx, h⟩ := bsome h
      refine E_join (fun e w => ∃ (g : Gh) , Fr gI wI g w ∧ e 1 = up1 ∧ PT g.m w (x1 : Vector (Vector Int 7) 128) up1 ∧ e 3 = .int .i64 (x3) ∧ e 4 = .int .i64 (x4) ∧ e 5 = up5 ∧ MQ (Value.int .i64) wI.heap.size g w (x5 : List (Int × LoomRun)) up5 ∧ e 6 = p1 ∧ PT g.m w (x0 : LoomLoomMill) p1 ∧ e 13 = .int .i64 ((bit64 .andNot x2 y2)) ∧ e 14 = .int .i64 (u0) ∧ e 16 = .int .i64 (o3) ∧ e 30 = .int .i64 ((((x0).orders).length : Int)) ∧ e 31 = .int .i64 (j0)) (fun Q' hQ => ?_) (fun jB vB hR => ?_)
      ·replace h := hx
       clear hx
       refine E_seq ?_
       have nA := PT_field (part_LoomLoomMill_1).1 j1
       refine L_load (x := .tmp 56) Try.isAgg25 Try.sizeOf25 nA fun g7 r8 y9 => ?_
       obtain ⟨t5, q7, h⟩ := bsome h
       have t8 := PT_idx r8 q7
       have oA := PT_field (part_LoomOrder_1).1 t8
       refine L_load (x := .tmp 60) Try.isAgg3 Try.sizeOf3 oA fun xB pA z9 => ?_
       obtain rfl := RV_int.1 pA
       have qA := PT_field (part_LoomLoomMill_1).1 j1
       refine L_load (x := .tmp 62) Try.isAgg25 Try.sizeOf25 qA fun i7 v8 aA => ?_
       obtain ⟨u5, r7, h⟩ := bsome h
       have x8 := PT_idx v8 r7
       have rA := PT_field (part_LoomOrder_1).1 x8
       refine L_load (x := .tmp 66) Try.isAgg3 Try.sizeOf3 rA fun yB sA bA => ?_
       obtain rfl := RV_int.1 sA
       refine E_drawL (g := p8) (n := 13) [] [0, 1, 2, 3, 4, 5, 6, 7, 8, 9, 10, 11, 12] rfl mixed (by kernel_rfl) trivial ?_
       refine L_pur (c := fPtr p1 2) rfl rfl .plain (fun _ _ hd => P_fieldAddr at_96_1 j3 (PT.ptr j1)) ?_
       refine L_ld (c := g7) rfl rfl .plain (fun _ _ h => h.ch) y9 rfl ?_
       refine L_pur (c := .int .i64 (j0)) rfl rfl .plain (fun _ _ hd => P_move o5) ?_
       refine L_pur (c := ePtr g7 j0 5) rfl rfl .plain (fun _ _ hd => P_indexAddr (α := LoomOrder) Try.underlying25 Try.sizeOf82 rfl r8 rfl q7) ?_
       refine L_pur (c := fPtr (ePtr g7 j0 5) 1) rfl rfl .plain (fun _ _ hd => P_fieldAddr at_82_1 rfl (PT.ptr t8)) ?_
       refine L_ld (c := .int .i64 ((t5).Chain)) rfl rfl .plain (fun _ _ h => h.ch) z9 rfl ?_
       refine L_pur (c := fPtr p1 2) rfl rfl .plain (fun _ _ hd => P_fieldAddr at_96_1 j3 (PT.ptr j1)) ?_
       refine L_ld (c := i7) rfl rfl .plain (fun _ _ h => h.ch) aA rfl ?_
       refine L_pur (c := .int .i64 (x3)) rfl rfl .plain (fun _ _ hd => P_move z4) ?_
       refine L_pur (c := ePtr i7 x3 5) rfl rfl .plain (fun _ _ hd => P_indexAddr (α := LoomOrder) Try.underlying25 Try.sizeOf82 rfl v8 rfl r7) ?_
       refine L_pur (c := fPtr (ePtr i7 x3 5) 1) rfl rfl .plain (fun _ _ hd => P_fieldAddr at_82_1 rfl (PT.ptr x8)) ?_
       refine L_ld (c := .int .i64 ((u5).Chain)) rfl rfl .plain (fun _ _ h => h.ch) bA rfl ?_
       refine L_pur (c := .bool (((t5).Chain != (u5).Chain))) rfl rfl .plain (fun _ _ hd => P_int rfl rfl rfl) ?_
       refine L_nil fun j7 zB hall => ?_
       have hs := hall.1
       have hfr := hfr.ext hs
       have z1 := z1.ext hs
       have d4 := d4.ext hs
       have j1 := j1.ext hs
       clear hs hall
       refine EL_nil (thn_n ?_)
       rcases csome h with ⟨i6, h⟩ | ⟨i6, h⟩
       ·refine E_ct i6 rfl ?_
        refine E_region (EL_mw (.int .i64 (c4)) rfl rfl ?_)
        refine EL_pur (v := fPtr p1 0) (P_fieldAddr at_96_0 j3 (PT.ptr j1)) .plain rfl ?_
        have y8 := PT_field (part_LoomLoomMill_0).1 j1
        refine EL_pur (v := fPtr (fPtr p1 0) 1) (P_fieldAddr at_24_1 rfl (PT.ptr y8)) .plain rfl ?_
        have tA := PT_field (part_LoomMill_1).1 y8
        refine EL_do .plain rfl (D_load (g := j7) Try.isAgg3 Try.sizeOf3 rfl tA fun aC uA => ?_)
        obtain rfl := RV_int.1 uA
        refine EL_in (.int .i64 ((w64 (c4 + ((x0).LoomMill).Change)))) rfl rfl rfl rfl ?_
        refine EL_at (.int .i64 ((w64 (c4 + ((x0).LoomMill).Change)))) rfl rfl ?_
        refine EL_nil ?_
        obtain rfl := sinj h
        exact hQ _ _ ⟨j7, hfr, u4, z1, z4, z6, a7, d4, j3, j1, o4, n5, rfl, p5, q5⟩
       ·refine E_cf i6 rfl ?_
        refine E_skip ?_
        obtain rfl := sinj h
        exact hQ _ _ ⟨j7, hfr, u4, z1, z4, z6, a7, d4, j3, j1, o4, n5, rfl, p5, q5⟩
      ·clear hx
       obtain ⟨z8, hfr, a9, c5, b7, c7, d7, i4, e7, j4, u7, v7, x7, y7, z7⟩ := hR
       refine E_region (EL_mv v7 rfl ?_)
       refine EL_do .plain rfl (D_load (g := z8) Try.isAgg96 Try.sizeOf96 e7 j4 fun vA xA => ?_)
       refine EL_mv b7 rfl ?_
       refine EL_mv c7 rfl ?_
       refine EL_mv x7 rfl ?_
       refine EL_mv d7 rfl ?_
       obtain ⟨y5, cA, h⟩ := bsome h
       refine EL_do .plain rfl (D_call (g := z8) (vs := [vA, .int .i64 (x3), .int .i64 (x4), .int .i64 (o3), up5]) en105 (.cons rfl (.cons rfl (.cons rfl (.cons rfl (.cons rfl .nil))))) (wk105 xA i4.r cA) fun yA kB bC hs hr => ?_)
       have hfr := hfr.ext hs
       have c5 := c5.ext hs
       have i4 := i4.ext hs
       have j4 := j4.ext hs
       subst hr
       refine EL_pur (v := .int .i64 (min64 u0 y5)) (P_min rfl rfl) .plain rfl ?_
       refine EL_at (.int .i64 (min64 u0 y5)) rfl rfl ?_
       refine EL_nil (blk_n ?_)
       obtain rfl := sinj h
       exact hQ _ _ ⟨yA, hfr, a9, c5, b7, c7, d7, i4, e7, j4, u7, rfl, y7, z7⟩
    ·clear hx
     obtain ⟨zA, hfr, b9, c9, d9, e9, g9, i9, j9, k9, a8, b8, c8, d8⟩ := hR
     refine E_region (EL_in (.int .i64 ((w64 (j0 + (1 : Int))))) d8 rfl rfl rfl ?_)
     refine EL_mw (.int .i64 ((w64 (j0 + (1 : Int))))) rfl rfl ?_
     exact EL_nil (thn_n (t9 (p3, (w64 (j0 + (1 : Int)))) _ _ ⟨zA, hfr, b9, c9, d9, e9, g9, i9, j9, k9, a8, b8, c8, rfl⟩ h))
   ·refine E_cf c6 rfl ?_
    refine E_exit ?_
    refine thn_e ?_
    refine thn_e ?_
    refine blk_hit ?_
    obtain rfl := sinj h
    exact hQ _ _ ⟨b6, hfr, m4⟩
  ·clear hx
   obtain ⟨cC, hfr, e8⟩ := hR
   refine E_seq (E_region (EL_mv e8 rfl ?_))
   refine EL_at (.int .i64 (z2)) rfl rfl ?_
   refine EL_nil (thn_n (E_ret ?_))
   obtain rfl := sinj h
   exact end1 rfl rfl (show _ = .int .i64 (z2) from rfl) ⟨_, hfr, rfl⟩
/-- slices.pdqsortCmpFunc[int] -/
def f100 : Nat → (List Int) → (Int) → (Int) → (Int) → (Int → Int → Option Int) → Option ((List Int))
 | 0, _, _, _, _, _ => none
 | n + 1, x0, x1, x2, x3, x4 =>
  lp (σ := (List Int) × Int × Int × Int × Bool × Bool) (fun k1 (j2, j0, o0, j1, u0, z1) =>
   jn (σ := (List Int)) (fun z2 =>
    jn (σ := Unit) (fun (_ : Unit) =>
     Option.bind (α := Int) (
      bif (!u0) then
       none
      else
       some (j1)
      ) fun u3 =>
     none
     ) fun c6 =>
    bif (j1 == (0 : Int)) then
     none
    else
     c6 ()
    ) fun k6 =>
   bif (decide ((w64 (o0 - j0)) ≤ (12 : Int))) then
    (f106 j2 j0 o0 x4).bind fun y9 =>
    some (y9)
   else
    k6 (j2)
   ) big (x0, x1, x2, x3, true, true)
theorem en100 : Enters Try.prog 100 := enters_of Try.func100 (by kernel_rfl) rfl
theorem wk100 (n : Nat) : ∀ {iI : Nat} {gI : Gh} {wI : World} {x0 : List Int} {x1 : Int} {x2 : Int} {x3 : Int} {x4 : Int → Int → Option Int} {up0 : Value} (mp0 : OM iI gI wI 3 x0 up0) {up4 : Value} (rp4 : FnV2 Try.prog x4 up4 gI wI) {r : (List Int)} (h : f100 n x0 x1 x2 x3 x4 = some r), FnM Try.prog 100 #[up0, .int .i64 (x1), .int .i64 (x2), .int .i64 (x3), up4] iI gI wI (fun g w v => v = .tuple #[] ∧ OM iI g w 3 r up0) := by
 induction n with
 | zero => intros; rename_i h; cases h
 | succ n ih =>
 intro iI gI wI x0 x1 x2 x3 x4 up0 mp0 up4 rp4 r h
 simp only [f100] at h
 refine fnM_of_E Try.func100 rfl (Nat.le_of_ble_eq_true rfl) fun g0 hm hfr => ?_
 have o5 := mp0
 replace mp0 := mp0.enter
 rw [← hm] at mp0
 replace hm : g0.m = gI.m := by rw [hm]
 obtain ⟨ff4, fa4, fc4, rfl, fen4, fcl4⟩ := rp4
 show E _ 148 none _ _ _ _ _
 refine E_seq (E_region (EL_at (.bool true) rfl rfl ?_))
 refine EL_nil (thn_n (E_seq (E_region (EL_at (.bool true) rfl rfl ?_))))
 refine EL_nil (thn_n (E_block ?_))
 refine E_lp h (fun (s : (List Int) × Int × Int × Int × Bool × Bool) e w => ∃ (g : Gh) , FrM iI gI wI g w ∧ e 0 = up0 ∧ OM 1 g w 3 (s.1 : List Int) up0 ∧ e 1 = .int .i64 (s.2.1) ∧ e 2 = .int .i64 (s.2.2.1) ∧ e 3 = .int .i64 (s.2.2.2.1) ∧ e 4 = (.func (.func ff4) fa4 fc4) ∧ e 10 = .bool (s.2.2.2.2.1) ∧ e 11 = .bool (s.2.2.2.2.2)) ⟨g0, hfr, rfl, mp0, rfl, rfl, rfl, rfl, rfl, rfl⟩ (fun X1 k1 hk1 => ?_)
 rintro ⟨j2, j0, o0, j1, u0, z1⟩ x6 w2 ⟨g2, hfr, u4, z4, i3, j3, d6, c5, p5, q5⟩ h
 refine E_block ?_
 refine E_seq (E_region (EL_mv j3 rfl ?_))
 refine EL_mv i3 rfl ?_
 refine EL_in (.int .i64 ((w64 (o0 - j0)))) rfl rfl rfl rfl ?_
 refine EL_at (.int .i64 ((w64 (o0 - j0)))) rfl rfl ?_
 refine EL_nil (thn_n (E_joinC h (fun (s : (List Int)) e w => ∃ (g : Gh) , FrM iI gI wI g w ∧ e 0 = up0 ∧ OM 1 g w 3 (s : List Int) up0 ∧ e 1 = .int .i64 (j0) ∧ e 2 = .int .i64 (o0) ∧ e 3 = .int .i64 (j1) ∧ e 4 = (.func (.func ff4) fa4 fc4) ∧ e 10 = .bool (u0) ∧ e 11 = .bool (z1) ∧ e 12 = .int .i64 ((w64 (o0 - j0)))) (fun X6 k6 hk6 h => ?_) ?_))
 ·refine E_seq (E_region (EL_mw (.int .i64 ((w64 (o0 - j0)))) rfl rfl ?_))
  refine EL_in (.bool ((decide ((w64 (o0 - j0)) ≤ (12 : Int))))) rfl rfl rfl rfl ?_
  refine EL_nil (thn_n ?_)
  rcases csome h with ⟨d5, h⟩ | ⟨d5, h⟩
  ·refine E_ct d5 rfl ?_
   refine E_seq (E_region (EL_mv u4 rfl ?_))
   refine EL_mv i3 rfl ?_
   refine EL_mv j3 rfl ?_
   refine EL_mv c5 rfl ?_
   obtain ⟨y9, j6, h⟩ := bsome h
   refine EL_do .plain rfl (D_callM (g := g2) (i := 1) (vs := [up0, .int .i64 (j0), .int .i64 (o0), (.func (.func ff4) fa4 fc4)]) en106 (.cons rfl (.cons rfl (.cons rfl (.cons rfl .nil)))) (wk106 z4 (FnV2.ch ⟨_, _, _, rfl, fen4, fcl4⟩ hfr.ch) j6) fun g8 w8_ v8 hs hr => ?_)
   obtain ⟨hrv, b8⟩ := hr
   have hfr := hfr.stp hs
   subst hrv
   refine EL_nil (thn_n (E_ret (thn_r ?_)))
   refine blk_r ?_
   refine thn_r ?_
   refine blk_r ?_
   obtain rfl := sinj h
   exact end0 rfl rfl ⟨_, hfr, rfl, o5.back b8⟩
  ·refine E_cf d5 rfl ?_
   exact E_skip (thn_n (hk6 (j2) _ _ ⟨g2, hfr, u4, z4, i3, j3, d6, c5, p5, q5, rfl⟩ h))
 ·rintro z2 t6 y6 ⟨l6, hfr, z3, t5, c4, d4, i4, j4, i5, j5, l5⟩ h
  refine E_joinC h (fun (s : Unit) e w => ∃ (g : Gh) , FrM iI gI wI g w ∧ e 0 = up0 ∧ OM 1 g w 3 (z2 : List Int) up0 ∧ e 1 = .int .i64 (j0) ∧ e 2 = .int .i64 (o0) ∧ e 3 = .int .i64 (j1) ∧ e 4 = (.func (.func ff4) fa4 fc4) ∧ e 10 = .bool (u0) ∧ e 11 = .bool (z1) ∧ e 12 = .int .i64 ((w64 (o0 - j0)))) (fun X12 c6 i6 h => ?_) ?_
  ·refine E_seq (E_region (EL_mv i4 rfl ?_))
   refine EL_in (.bool ((j1 == (0 : Int)))) rfl rfl rfl rfl ?_
   refine EL_nil (thn_n ?_)
   rcases csome h with ⟨o3, h⟩ | ⟨o3, h⟩
   ·refine E_ct o3 rfl ?_
    refine E_seq (E_region (EL_mv z3 rfl ?_))
    refine EL_mv c4 rfl ?_
    refine EL_mv d4 rfl ?_
    refine EL_mv j4 rfl ?_
    cases h
   ·refine E_cf o3 rfl ?_
    exact E_skip (thn_n (i6 () _ _ ⟨l6, hfr, z3, t5, c4, d4, i4, j4, i5, j5, l5⟩ h))
  ·rintro _ u6 z6 ⟨m6, hfr, m4, u5, n4, o4, x5, p4, d3, m5, n5⟩ h
   obtain ⟨u3, hx, h⟩ := bsome h
   refine E_join (fun e w => ∃ (g : Gh) , FrM iI gI wI g w ∧ e 0 = up0 ∧ OM 1 g w 3 (z2 : List Int) up0 ∧ e 1 = .int .i64 (j0) ∧ e 2 = .int .i64 (o0) ∧ e 3 = .int .i64 (u3) ∧ e 4 = (.func (.func ff4) fa4 fc4) ∧ e 10 = .bool (u0) ∧ e 11 = .bool (z1) ∧ e 12 = .int .i64 ((w64 (o0 - j0)))) (fun Q' hQ => ?_) (fun v6 a7 hR => ?_)
   ·replace h := hx
    clear hx
    refine E_seq (E_region (EL_mv d3 rfl ?_))
    refine EL_pur (v := .bool (!u0)) (P_not rfl) .plain rfl ?_
    refine EL_nil (thn_n ?_)
    rcases csome h with ⟨p3, h⟩ | ⟨p3, h⟩
    ·refine E_ct p3 rfl ?_
     refine E_seq (E_region (EL_mv m4 rfl ?_))
     refine EL_mv n4 rfl ?_
     refine EL_mv o4 rfl ?_
     refine EL_mv p4 rfl ?_
     cases h
    ·refine E_cf p3 rfl ?_
     refine E_skip ?_
     obtain rfl := sinj h
     exact hQ _ _ ⟨m6, hfr, m4, u5, n4, o4, x5, p4, d3, m5, n5⟩
   ·clear hx
    obtain ⟨b7, hfr, y5, q6, z5, a6, r6, b6, n6, o6, p6⟩ := hR
    refine E_seq (E_region (EL_mv y5 rfl ?_))
    refine EL_mv z5 rfl ?_
    refine EL_mv a6 rfl ?_
    refine EL_mv b6 rfl ?_
    cases h
end Go.Proofs.Ytnfjhdagbknlbaa
