import Derived.Test.YtnfjhdagbknlbaaCode2
set_option maxRecDepth 8000
set_option maxHeartbeats 4000000
namespace Go.Proofs.Ytnfjhdagbknlbaa
open Go.RowKit
/-- griffe/grifferef08.Check -/
def f20 (x0 : LoomMill) (x1 : List LoomOrder) : Option (Int) :=
 jn (σ := Unit) (fun (_ : Unit) =>
  jn (σ := Unit) (fun (_ : Unit) =>
   jn (σ := Unit) (fun (_ : Unit) =>
    jn (σ := Unit) (fun (_ : Unit) =>
     some ((0 : Int))
     ) fun u6 =>
    lp (σ := Int) (fun v6 o0 =>
     jn (σ := Unit) (fun (_ : Unit) =>
      jn (σ := Unit) (fun (_ : Unit) =>
       v6 ((w64 (o0 + (1 : Int))))
       ) fun x6 =>
      (idx x1 o0).bind fun i3 =>
      Option.bind (α := Bool) (
       (f36 ((i3).Width) ((1 : Int)) ((100 : Int))).bind fun n4 =>
       bif (!n4) then
        some (true)
       else
        (f36 ((i3).Chain) ((0 : Int)) ((100 : Int))).bind fun d4 =>
        bif (!d4) then
         some (true)
        else
         (f36 ((i3).Woven) ((1 : Int)) ((100 : Int))).bind fun i4 =>
         bif (!i4) then
          some (true)
         else
          (f36 ((i3).Early) ((0 : Int)) ((300 : Int))).bind fun j4 =>
          bif (!j4) then
           some (true)
          else
           (f36 ((i3).Late) ((0 : Int)) ((300 : Int))).bind fun d5 =>
           some ((!d5))
       ) fun j3 =>
      bif j3 then
       some ((2 : Int))
      else
       x6 ()
      ) fun y6 =>
     bif (decide (o0 < ((x1).length : Int))) then
      y6 ()
     else
      u6 ()
     ) big ((0 : Int))
    ) fun k94 =>
   Option.bind (α := Bool) (
    bif ((((x0).Widths).length : Int) == (0 : Int)) then
     some (true)
    else
     (f36 ((x0).Change) ((0 : Int)) ((20 : Int))).bind fun i5 =>
     some ((!i5))
    ) fun o3 =>
   bif o3 then
    some ((2 : Int))
   else
    k94 ()
   ) fun k48 =>
  lp (σ := Int) (fun a9 u0 =>
   jn (σ := Unit) (fun (_ : Unit) =>
    jn (σ := Unit) (fun (_ : Unit) =>
     a9 ((w64 (u0 + (1 : Int))))
     ) fun b9 =>
    (idx ((x0).Widths) u0).bind fun y70 =>
    (f36 y70 ((1 : Int)) ((100 : Int))).bind fun y74 =>
    bif (!y74) then
     some ((2 : Int))
    else
     b9 ()
    ) fun k54 =>
   bif (decide (u0 < (((x0).Widths).length : Int))) then
    k54 ()
   else
    k48 ()
   ) big ((0 : Int))
  ) fun c9 =>
 Option.bind (α := Bool) (
  bif (decide ((((x0).Widths).length : Int) > (3 : Int))) then
   some (true)
  else
   some ((decide (((x1).length : Int) > (7 : Int))))
  ) fun c4 =>
 bif c4 then
  some ((5 : Int))
 else
  c9 ()
theorem en20 : Enters Try.prog 20 := enters_of Try.func20 (by kernel_rfl) rfl
theorem wk20 {gI : Gh} {wI : World} {x0 : LoomMill} {x1 : List LoomOrder} {up0 : Value} (rp0 : RV gI.m wI x0 up0) {up1 : Value} (rp1 : RV gI.m wI x1 up1) {r : Int} (h : f20 x0 x1 = some r) : Fn Try.prog 20 #[up0, up1] gI wI (fun _ _ v => v = .int .i64 (r)) := by
 unfold f20 at h
 refine fn_of_E Try.func20 rfl (Nat.le_of_ble_eq_true rfl) fun g0 hm hfr => ?_
 have rp0 : RV g0.m wI x0 up0 := hm ▸ rp0
 have rp1 : RV g0.m wI x1 up1 := hm ▸ rp1
 show E _ 79 none _ _ _ _ _
 refine E_seq (E_region (EL_do .plain rfl (D_box (g := g0) rfl rp0 fun g1 w1 p1 hs q1 => ?_)))
 have hfr := hfr.ext hs
 have rp1 := rp1.ext hs
 refine EL_at (.int .i64 (0)) rfl rfl ?_
 refine EL_nil (thn_n (E_joinC h (fun (s : Unit) e w => ∃ (g : Gh) , Fr gI wI g w ∧ e 1 = up1 ∧ RV g.m w (x1 : List LoomOrder) up1 ∧ e 2 = p1 ∧ PT g.m w (x0 : LoomMill) p1) (fun X10 c9 e9 h => ?_) ?_))
 ·obtain ⟨c4, hx, h⟩ := bsome h
  refine E_join (fun e w => ∃ (g : Gh) , Fr gI wI g w ∧ e 1 = up1 ∧ RV g.m w (x1 : List LoomOrder) up1 ∧ e 2 = p1 ∧ PT g.m w (x0 : LoomMill) p1 ∧ e 16 = .bool (c4)) (fun Q' hQ => ?_) (fun nB vC hR => ?_)
  ·replace h := hx
   clear hx
   refine E_region (EL_pur (v := fPtr p1 0) (P_fieldAddr at_24_0 rfl (PT.ptr q1)) .plain rfl ?_)
   have kA := PT_field (part_LoomMill_0).1 q1
   refine EL_do .plain rfl (D_load (g := g1) Try.isAgg22 Try.sizeOf22 rfl kA fun xC lA => ?_)
   refine EL_pur (v := .int .i64 (((x0).Widths).length : Int)) (P_len Try.underlying22 rfl lA) .plain rfl ?_
   refine EL_pur (v := .bool ((decide ((((x0).Widths).length : Int) > (3 : Int))))) (P_int rfl rfl rfl) .plain rfl ?_
   refine EL_pur (v := .bool ((decide ((((x0).Widths).length : Int) > (3 : Int))))) (P_move rfl) .plain rfl ?_
   rcases csome h with ⟨z3, h⟩ | ⟨z3, h⟩
   ·refine EL_skip (.no2 rfl rfl z3 rfl) rfl ?_
    refine EL_skip (.no2 rfl rfl z3 rfl) rfl ?_
    refine EL_skip (.no2 rfl rfl z3 rfl) rfl ?_
    refine EL_pur (v := .bool true) (P_pick (b := (decide ((((x0).Widths).length : Int) > (3 : Int)))) rfl (pick_t z3 rfl)) .plain rfl ?_
    refine EL_nil ?_
    obtain rfl := sinj h
    exact hQ _ _ ⟨g1, hfr, rfl, rp1, rfl, q1, rfl⟩
   ·refine EL_pur (v := up1) (P_move rfl) (.yes2 rfl rfl z3) rfl ?_
    refine EL_pur (v := .int .i64 ((x1).length : Int)) (P_len Try.underlying25 rfl rp1) (.yes2 rfl rfl z3) rfl ?_
    refine EL_pur (v := .bool ((decide (((x1).length : Int) > (7 : Int))))) (P_int rfl rfl rfl) (.yes2 rfl rfl z3) rfl ?_
    refine EL_pur (v := .bool ((decide (((x1).length : Int) > (7 : Int))))) (P_pick (b := (decide ((((x0).Widths).length : Int) > (3 : Int)))) rfl (pick_f z3 rfl)) .plain rfl ?_
    refine EL_nil ?_
    obtain rfl := sinj h
    exact hQ _ _ ⟨g1, hfr, rfl, rp1, rfl, q1, rfl⟩
  ·clear hx
   obtain ⟨mA, hfr, v7, x7, y7, a8, p5⟩ := hR
   rcases csome h with ⟨x5, h⟩ | ⟨x5, h⟩
   ·refine E_cond_true (Eq.trans (show ev _ _ = .bool (c4) from p5) (congrArg Value.bool x5)) ?_
    refine E_seq (E_region (EL_at (.int .i64 (5)) rfl rfl ?_))
    refine EL_nil (thn_n (E_ret (thn_r ?_)))
    obtain rfl := sinj h
    exact end1 rfl rfl (show _ = .int .i64 (5) from rfl) ⟨_, hfr, rfl⟩
   ·refine E_cond_false (Eq.trans (show ev _ _ = .bool (c4) from p5) (congrArg Value.bool x5)) ?_
    exact E_skip (thn_n (e9 () _ _ ⟨mA, hfr, v7, x7, y7, a8⟩ h))
 ·rintro _ oB yC ⟨nA, hfr, b8, c8, d8, e8⟩ h
  refine E_joinC h (fun (s : Unit) e w => ∃ (g : Gh) , Fr gI wI g w ∧ e 1 = up1 ∧ RV g.m w (x1 : List LoomOrder) up1 ∧ e 2 = p1 ∧ PT g.m w (x0 : LoomMill) p1) (fun X48 k48 g9 h => ?_) ?_
  ·refine E_seq (E_region (EL_at (.int .i64 (0)) rfl rfl ?_))
   refine EL_nil (thn_n (E_block ?_))
   refine E_lp h (fun (s : Int) e w => ∃ (g : Gh) , Fr gI wI g w ∧ e 1 = up1 ∧ RV g.m w (x1 : List LoomOrder) up1 ∧ e 2 = p1 ∧ PT g.m w (x0 : LoomMill) p1 ∧ e 5 = .int .i64 (s)) ⟨nA, hfr, b8, c8, d8, e8, rfl⟩ (fun X49 a9 i9 => ?_)
   rintro u0 pB zC ⟨z6, hfr, k6, l6, j5, o4, m6⟩ h
   refine E_joinC h (fun (s : Unit) e w => ∃ (g : Gh) , Fr gI wI g w ∧ e 1 = up1 ∧ RV g.m w (x1 : List LoomOrder) up1 ∧ e 2 = p1 ∧ PT g.m w (x0 : LoomMill) p1 ∧ e 5 = .int .i64 (u0)) (fun X54 k54 j9 h => ?_) ?_
   ·refine E_seq (E_region (EL_mv m6 rfl ?_))
    refine EL_pur (v := fPtr p1 0) (P_fieldAddr at_24_0 j5 (PT.ptr o4)) .plain rfl ?_
    have oA := PT_field (part_LoomMill_0).1 o4
    refine EL_do .plain rfl (D_load (g := z6) Try.isAgg22 Try.sizeOf22 rfl oA fun aD pA => ?_)
    refine EL_pur (v := .int .i64 (((x0).Widths).length : Int)) (P_len Try.underlying22 rfl pA) .plain rfl ?_
    refine EL_pur (v := .bool ((decide (u0 < (((x0).Widths).length : Int))))) (P_int rfl rfl rfl) .plain rfl ?_
    refine EL_nil (thn_n ?_)
    rcases csome h with ⟨y5, h⟩ | ⟨y5, h⟩
    ·refine E_ct y5 rfl ?_
     exact E_skip (thn_n (j9 () _ _ ⟨z6, hfr, k6, l6, j5, o4, m6⟩ h))
    ·refine E_cf y5 rfl ?_
     refine E_exit ?_
     refine thn_e ?_
     refine thn_e ?_
     refine blk_hit ?_
     exact thn_n (g9 () _ _ ⟨z6, hfr, k6, l6, j5, o4⟩ h)
   ·rintro _ qB bD ⟨a7, hfr, g8, l5, n6, m4, o6⟩ h
    refine E_joinC h (fun (s : Unit) e w => ∃ (g : Gh) , Fr gI wI g w ∧ e 1 = up1 ∧ RV g.m w (x1 : List LoomOrder) up1 ∧ e 2 = p1 ∧ PT g.m w (x0 : LoomMill) p1 ∧ e 5 = .int .i64 (u0)) (fun X67 b9 k9 h => ?_) ?_
    ·refine E_block ?_
     refine E_seq (E_region (EL_pur (v := fPtr p1 0) (P_fieldAddr at_24_0 n6 (PT.ptr m4)) .plain rfl ?_))
     have qA := PT_field (part_LoomMill_0).1 m4
     refine EL_do .plain rfl (D_load (g := a7) Try.isAgg22 Try.sizeOf22 rfl qA fun rA d9 => ?_)
     refine EL_mv o6 rfl ?_
     obtain ⟨y70, b7, h⟩ := bsome h
     refine EL_pur (v := ePtr rA u0 1) (P_indexAddr (α := Int) Try.underlying22 Try.sizeOf3 rfl d9 rfl b7) .plain rfl ?_
     have sA := PT_idx d9 b7
     refine EL_do .plain rfl (D_load (g := a7) Try.isAgg3 Try.sizeOf3 rfl sA fun cD tA => ?_)
     obtain rfl := RV_int.1 tA
     obtain ⟨y74, l9, h⟩ := bsome h
     refine EL_do .plain rfl (D_call (g := a7) (vs := [.int .i64 (y70), .int .i64 (1), .int .i64 (100)]) en36 (.cons rfl (.cons rfl (.cons rfl .nil))) (wk36  l9) fun uA rB dD hs hr => ?_)
     have hfr := hfr.ext hs
     have l5 := l5.ext hs
     have m4 := m4.ext hs
     subst hr
     refine EL_pur (v := .bool (!y74)) (P_not rfl) .plain rfl ?_
     refine EL_nil (thn_n ?_)
     rcases csome h with ⟨z5, h⟩ | ⟨z5, h⟩
     ·refine E_ct z5 rfl ?_
      refine E_seq (E_region (EL_at (.int .i64 (2)) rfl rfl ?_))
      refine EL_nil (thn_n (E_ret (blk_r ?_)))
      refine thn_r ?_
      refine thn_r ?_
      refine blk_r ?_
      refine thn_r ?_
      obtain rfl := sinj h
      exact end1 rfl rfl (show _ = .int .i64 (2) from rfl) ⟨_, hfr, rfl⟩
     ·refine E_cf z5 rfl ?_
      exact E_skip (blk_n (thn_n (k9 () _ _ ⟨uA, hfr, g8, l5, n6, m4, o6⟩ h)))
    ·rintro _ sB eD ⟨vA, hfr, i8, j8, k8, l8, m8⟩ h
     refine E_region (EL_mv m8 rfl ?_)
     refine EL_in (.int .i64 ((w64 (u0 + (1 : Int))))) rfl rfl rfl rfl ?_
     refine EL_at (.int .i64 ((w64 (u0 + (1 : Int))))) rfl rfl ?_
     exact EL_nil (thn_n (i9 ((w64 (u0 + (1 : Int)))) _ _ ⟨vA, hfr, i8, j8, k8, l8, rfl⟩ h))
  ·rintro _ tB gD ⟨p6, hfr, q6, p4, r6, u4⟩ h
   refine E_joinC h (fun (s : Unit) e w => ∃ (g : Gh) , Fr gI wI g w ∧ e 1 = up1 ∧ RV g.m w (x1 : List LoomOrder) up1) (fun X94 k94 m9 h => ?_) ?_
   ·obtain ⟨o3, hx, h⟩ := bsome h
    refine E_join (fun e w => ∃ (g : Gh) , Fr gI wI g w ∧ e 1 = up1 ∧ RV g.m w (x1 : List LoomOrder) up1 ∧ e 40 = .bool (o3)) (fun Q' hQ => ?_) (fun xA uB hR => ?_)
    ·replace h := hx
     clear hx
     refine E_region (EL_pur (v := fPtr p1 0) (P_fieldAddr at_24_0 r6 (PT.ptr u4)) .plain rfl ?_)
     have n9 := PT_field (part_LoomMill_0).1 u4
     refine EL_do .plain rfl (D_load (g := p6) Try.isAgg22 Try.sizeOf22 rfl n9 fun vB o9 => ?_)
     refine EL_pur (v := .int .i64 (((x0).Widths).length : Int)) (P_len Try.underlying22 rfl o9) .plain rfl ?_
     refine EL_in (.bool (((((x0).Widths).length : Int) == (0 : Int)))) rfl rfl rfl rfl ?_
     refine EL_mw (.bool (((((x0).Widths).length : Int) == (0 : Int)))) rfl rfl ?_
     rcases csome h with ⟨j1, h⟩ | ⟨j1, h⟩
     ·refine EL_skip (.no2 rfl rfl j1 rfl) rfl ?_
      refine EL_skip (.no2 rfl rfl j1 rfl) rfl ?_
      refine EL_skip (.no2 rfl rfl j1 rfl) rfl ?_
      refine EL_skip (.no2 rfl rfl j1 rfl) rfl ?_
      refine EL_pur (v := .bool true) (P_pick (b := ((((x0).Widths).length : Int) == (0 : Int))) rfl (pick_t j1 rfl)) .plain rfl ?_
      refine EL_nil ?_
      obtain rfl := sinj h
      exact hQ _ _ ⟨p6, hfr, q6, p4, rfl⟩
     ·refine EL_pur (v := fPtr p1 1) (P_fieldAddr at_24_1 r6 (PT.ptr u4)) (.yes2 rfl rfl j1) rfl ?_
      have p9 := PT_field (part_LoomMill_1).1 u4
      refine EL_do (.yes2 rfl rfl j1) rfl (D_load (g := p6) Try.isAgg3 Try.sizeOf3 rfl p9 fun xB q9 => ?_)
      obtain rfl := RV_int.1 q9
      obtain ⟨i5, n8, h⟩ := bsome h
      refine EL_do (.yes2 rfl rfl j1) rfl (D_call (g := p6) (vs := [.int .i64 ((x0).Change), .int .i64 (0), .int .i64 (20)]) en36 (.cons rfl (.cons rfl (.cons rfl .nil))) (wk36  n8) fun r9 yA yB hs hr => ?_)
      have hfr := hfr.ext hs
      have p4 := p4.ext hs
      subst hr
      refine EL_pur (v := .bool (!i5)) (P_not rfl) (.yes2 rfl rfl j1) rfl ?_
      refine EL_pur (v := .bool (!i5)) (P_pick (b := ((((x0).Widths).length : Int) == (0 : Int))) rfl (pick_f j1 rfl)) .plain rfl ?_
      refine EL_nil ?_
      obtain rfl := sinj h
      exact hQ _ _ ⟨r9, hfr, q6, p4, rfl⟩
    ·clear hx
     obtain ⟨t9, hfr, c7, d7, z4⟩ := hR
     rcases csome h with ⟨m5, h⟩ | ⟨m5, h⟩
     ·refine E_cond_true (Eq.trans (show ev _ _ = .bool (o3) from z4) (congrArg Value.bool m5)) ?_
      refine E_seq (E_region (EL_at (.int .i64 (2)) rfl rfl ?_))
      refine EL_nil (thn_n (E_ret (thn_r ?_)))
      obtain rfl := sinj h
      exact end1 rfl rfl (show _ = .int .i64 (2) from rfl) ⟨_, hfr, rfl⟩
     ·refine E_cond_false (Eq.trans (show ev _ _ = .bool (o3) from z4) (congrArg Value.bool m5)) ?_
      exact E_skip (thn_n (m9 () _ _ ⟨t9, hfr, c7, d7⟩ h))
   ·rintro _ zA zB ⟨u9, hfr, e7, g7⟩ h
    refine E_joinC h (fun (s : Unit) e w => ∃ (g : Gh) , Fr gI wI g w) (fun X230 u6 o8 h => ?_) ?_
    ·refine E_seq (E_region (EL_at (.int .i64 (0)) rfl rfl ?_))
     refine EL_nil (thn_n (E_block ?_))
     refine E_lp h (fun (s : Int) e w => ∃ (g : Gh) , Fr gI wI g w ∧ e 1 = up1 ∧ RV g.m w (x1 : List LoomOrder) up1 ∧ e 6 = .int .i64 (s)) ⟨u9, hfr, e7, g7, rfl⟩ (fun X231 v6 p8 => ?_)
     rintro o0 aB aC ⟨i7, hfr, q5, t5, u5⟩ h
     refine E_joinC h (fun (s : Unit) e w => ∃ (g : Gh) , Fr gI wI g w ∧ e 1 = up1 ∧ RV g.m w (x1 : List LoomOrder) up1 ∧ e 6 = .int .i64 (o0)) (fun X234 y6 q8 h => ?_) ?_
     ·refine E_seq (E_region (EL_mv u5 rfl ?_))
      refine EL_mv q5 rfl ?_
      refine EL_pur (v := .int .i64 ((x1).length : Int)) (P_len Try.underlying25 rfl t5) .plain rfl ?_
      refine EL_in (.bool ((decide (o0 < ((x1).length : Int))))) rfl rfl rfl rfl ?_
      refine EL_nil (thn_n ?_)
      rcases csome h with ⟨n5, h⟩ | ⟨n5, h⟩
      ·refine E_ct n5 rfl ?_
       exact E_skip (thn_n (q8 () _ _ ⟨i7, hfr, q5, t5, u5⟩ h))
      ·refine E_cf n5 rfl ?_
       refine E_exit ?_
       refine thn_e ?_
       refine thn_e ?_
       refine blk_hit ?_
       exact thn_n (o8 () _ _ ⟨i7, hfr⟩ h)
     ·rintro _ bB bC ⟨j7, hfr, p3, j0, u3⟩ h
      refine E_joinC h (fun (s : Unit) e w => ∃ (g : Gh) , Fr gI wI g w ∧ e 1 = up1 ∧ RV g.m w (x1 : List LoomOrder) up1 ∧ e 6 = .int .i64 (o0)) (fun X292 x6 r8 h => ?_) ?_
      ·refine E_block ?_
       refine E_seq (E_region (EL_mv p3 rfl ?_))
       refine EL_mv u3 rfl ?_
       obtain ⟨i3, t6, h⟩ := bsome h
       refine EL_pur (v := ePtr up1 o0 5) (P_indexAddr (α := LoomOrder) Try.underlying25 Try.sizeOf82 rfl j0 rfl t6) .plain rfl ?_
       have v9 := PT_idx j0 t6
       refine EL_do .plain rfl (D_load (g := j7) Try.isAgg82 Try.sizeOf82 rfl v9 fun x9 b6 => ?_)
       refine EL_do .plain rfl (D_allocOc (g := j7) 2007 (⟨0, 0, 0, 0, 0⟩ : LoomOrder) Try.zeroValue82 (fun m w => ⟨_, (rep_two rep_int (rep_two rep_int (rep_two rep_int (rep_two rep_int rep_int)))), rfl⟩) fun y9 cC x4 hs b296 cb => ?_)
       have hfr := hfr.stp hs
       have j0 := j0.stp hs
       have b6 := b6.stp hs
       clear cb
       refine EL_do .plain rfl (D_storeOc (g := y9) (v := x9) Try.sizeOf82 rfl b296 rfl b6 fun m7 dC hs b297 cb => ?_)
       clear cb
       have hfr := hfr.stp hs
       have j0 := j0.stp hs
       refine EL_nil (thn_n ?_)
       obtain ⟨j3, hx, h⟩ := bsome h
       refine E_join (fun e w => ∃ (g : Gh) , Fr gI wI g w ∧ e 1 = up1 ∧ RV g.m w (x1 : List LoomOrder) up1 ∧ e 6 = .int .i64 (o0) ∧ e 78 = .bool (j3)) (fun Q' hQ => ?_) (fun cB eC hR => ?_)
       ·replace h := hx
        clear hx
        refine E_region (EL_pur (v := fPtr x4 0) (P_fieldAddr at_82_0 rfl (OB.ptr b297)) .plain rfl ?_)
        refine EL_do .plain rfl (D_loadF (g := m7) part_LoomOrder_0.1 Try.isAgg3 Try.sizeOf3 rfl b297 fun iC z9 => ?_)
        obtain rfl := RV_int.1 z9
        obtain ⟨n4, t8, h⟩ := bsome h
        refine EL_do .plain rfl (D_call (g := m7) (vs := [.int .i64 ((i3).Width), .int .i64 (1), .int .i64 (100)]) en36 (.cons rfl (.cons rfl (.cons rfl .nil))) (wk36  t8) fun c6 dB jC hs hr => ?_)
        have hfr := hfr.ext hs
        have j0 := j0.ext hs
        have b297 := b297.ext hs
        subst hr
        refine EL_pur (v := .bool (!n4)) (P_not rfl) .plain rfl ?_
        refine EL_mw (.bool (!n4)) rfl rfl ?_
        rcases csome h with ⟨z1, h⟩ | ⟨z1, h⟩
        ·refine EL_skip (.no2 rfl rfl z1 rfl) rfl ?_
         refine EL_skip (.no2 rfl rfl z1 rfl) rfl ?_
         refine EL_skip (.no2 rfl rfl z1 rfl) rfl ?_
         refine EL_skip (.no2 rfl rfl z1 rfl) rfl ?_
         refine EL_pur (v := .bool true) (P_pick (b := (!n4)) rfl (pick_t z1 rfl)) .plain rfl ?_
         refine EL_dead 18 rfl ?_
         refine EL_nil ?_
         obtain rfl := sinj h
         exact hQ _ _ ⟨c6, hfr, p3, j0, u3, rfl⟩
        ·refine EL_pur (v := fPtr x4 1) (P_fieldAddr at_82_1 rfl (OB.ptr b297)) (.yes2 rfl rfl z1) rfl ?_
         refine EL_do (.yes2 rfl rfl z1) rfl (D_loadF (g := c6) part_LoomOrder_1.1 Try.isAgg3 Try.sizeOf3 rfl b297 fun kC bA => ?_)
         obtain rfl := RV_int.1 bA
         obtain ⟨d4, v8, h⟩ := bsome h
         refine EL_do (.yes2 rfl rfl z1) rfl (D_call (g := c6) (vs := [.int .i64 ((i3).Chain), .int .i64 (0), .int .i64 (100)]) en36 (.cons rfl (.cons rfl (.cons rfl .nil))) (wk36  v8) fun d6 eB lC hs hr => ?_)
         have hfr := hfr.ext hs
         have j0 := j0.ext hs
         have b297 := b297.ext hs
         subst hr
         refine EL_pur (v := .bool (!d4)) (P_not rfl) (.yes2 rfl rfl z1) rfl ?_
         refine EL_pur (v := .bool (!d4)) (P_pick (b := (!n4)) rfl (pick_f z1 rfl)) .plain rfl ?_
         refine EL_mw (.bool (!d4)) rfl rfl ?_
         rcases csome h with ⟨j2, h⟩ | ⟨j2, h⟩
         ·refine EL_skip (.no2 rfl rfl j2 rfl) rfl ?_
          refine EL_skip (.no2 rfl rfl j2 rfl) rfl ?_
          refine EL_skip (.no2 rfl rfl j2 rfl) rfl ?_
          refine EL_skip (.no2 rfl rfl j2 rfl) rfl ?_
          refine EL_pur (v := .bool true) (P_pick (b := (!d4)) rfl (pick_t j2 rfl)) .plain rfl ?_
          refine EL_dead 12 rfl ?_
          refine EL_nil ?_
          obtain rfl := sinj h
          exact hQ _ _ ⟨d6, hfr, p3, j0, u3, rfl⟩
         ·refine EL_pur (v := fPtr x4 2) (P_fieldAddr at_82_2 rfl (OB.ptr b297)) (.yes2 rfl rfl j2) rfl ?_
          refine EL_do (.yes2 rfl rfl j2) rfl (D_loadF (g := d6) part_LoomOrder_2.1 Try.isAgg3 Try.sizeOf3 rfl b297 fun mC cA => ?_)
          obtain rfl := RV_int.1 cA
          obtain ⟨i4, x8, h⟩ := bsome h
          refine EL_do (.yes2 rfl rfl j2) rfl (D_call (g := d6) (vs := [.int .i64 ((i3).Woven), .int .i64 (1), .int .i64 (100)]) en36 (.cons rfl (.cons rfl (.cons rfl .nil))) (wk36  x8) fun i6 iB nC hs hr => ?_)
          have hfr := hfr.ext hs
          have j0 := j0.ext hs
          have b297 := b297.ext hs
          subst hr
          refine EL_pur (v := .bool (!i4)) (P_not rfl) (.yes2 rfl rfl j2) rfl ?_
          refine EL_pur (v := .bool (!i4)) (P_pick (b := (!d4)) rfl (pick_f j2 rfl)) .plain rfl ?_
          refine EL_mw (.bool (!i4)) rfl rfl ?_
          rcases csome h with ⟨z2, h⟩ | ⟨z2, h⟩
          ·refine EL_skip (.no2 rfl rfl z2 rfl) rfl ?_
           refine EL_skip (.no2 rfl rfl z2 rfl) rfl ?_
           refine EL_skip (.no2 rfl rfl z2 rfl) rfl ?_
           refine EL_skip (.no2 rfl rfl z2 rfl) rfl ?_
           refine EL_pur (v := .bool true) (P_pick (b := (!i4)) rfl (pick_t z2 rfl)) .plain rfl ?_
           refine EL_dead 6 rfl ?_
           refine EL_nil ?_
           obtain rfl := sinj h
           exact hQ _ _ ⟨i6, hfr, p3, j0, u3, rfl⟩
          ·refine EL_pur (v := fPtr x4 3) (P_fieldAddr at_82_3 rfl (OB.ptr b297)) (.yes2 rfl rfl z2) rfl ?_
           refine EL_do (.yes2 rfl rfl z2) rfl (D_loadF (g := i6) part_LoomOrder_3.1 Try.isAgg3 Try.sizeOf3 rfl b297 fun oC dA => ?_)
           obtain rfl := RV_int.1 dA
           obtain ⟨j4, y8, h⟩ := bsome h
           refine EL_do (.yes2 rfl rfl z2) rfl (D_call (g := i6) (vs := [.int .i64 ((i3).Early), .int .i64 (0), .int .i64 (300)]) en36 (.cons rfl (.cons rfl (.cons rfl .nil))) (wk36  y8) fun j6 jB pC hs hr => ?_)
           have hfr := hfr.ext hs
           have j0 := j0.ext hs
           have b297 := b297.ext hs
           subst hr
           refine EL_pur (v := .bool (!j4)) (P_not rfl) (.yes2 rfl rfl z2) rfl ?_
           refine EL_pur (v := .bool (!j4)) (P_pick (b := (!i4)) rfl (pick_f z2 rfl)) .plain rfl ?_
           refine EL_mw (.bool (!j4)) rfl rfl ?_
           rcases csome h with ⟨d3, h⟩ | ⟨d3, h⟩
           ·refine EL_skip (.no2 rfl rfl d3 rfl) rfl ?_
            refine EL_skip (.no2 rfl rfl d3 rfl) rfl ?_
            refine EL_skip (.no2 rfl rfl d3 rfl) rfl ?_
            refine EL_skip (.no2 rfl rfl d3 rfl) rfl ?_
            refine EL_pur (v := .bool true) (P_pick (b := (!j4)) rfl (pick_t d3 rfl)) .plain rfl ?_
            refine EL_nil ?_
            obtain rfl := sinj h
            exact hQ _ _ ⟨j6, hfr, p3, j0, u3, rfl⟩
           ·refine EL_pur (v := fPtr x4 4) (P_fieldAddr at_82_4 rfl (OB.ptr b297)) (.yes2 rfl rfl d3) rfl ?_
            refine EL_do (.yes2 rfl rfl d3) rfl (D_loadF (g := j6) part_LoomOrder_4.1 Try.isAgg3 Try.sizeOf3 rfl b297 fun qC eA => ?_)
            obtain rfl := RV_int.1 eA
            obtain ⟨d5, z8, h⟩ := bsome h
            refine EL_do (.yes2 rfl rfl d3) rfl (D_call (g := j6) (vs := [.int .i64 ((i3).Late), .int .i64 (0), .int .i64 (300)]) en36 (.cons rfl (.cons rfl (.cons rfl .nil))) (wk36  z8) fun gA kB rC hs hr => ?_)
            have hfr := hfr.ext hs
            have j0 := j0.ext hs
            subst hr
            refine EL_pur (v := .bool (!d5)) (P_not rfl) (.yes2 rfl rfl d3) rfl ?_
            refine EL_pur (v := .bool (!d5)) (P_pick (b := (!j4)) rfl (pick_f d3 rfl)) .plain rfl ?_
            refine EL_nil ?_
            obtain rfl := sinj h
            exact hQ _ _ ⟨gA, hfr, p3, j0, u3, rfl⟩
       ·clear hx
        obtain ⟨iA, hfr, n7, o7, p7, c5⟩ := hR
        rcases csome h with ⟨o5, h⟩ | ⟨o5, h⟩
        ·refine E_cond_true (Eq.trans (show ev _ _ = .bool (j3) from c5) (congrArg Value.bool o5)) ?_
         refine E_seq (E_region (EL_at (.int .i64 (2)) rfl rfl ?_))
         refine EL_nil (thn_n (E_ret (blk_r ?_)))
         refine thn_r ?_
         refine thn_r ?_
         refine blk_r ?_
         refine thn_r ?_
         obtain rfl := sinj h
         exact end1 rfl rfl (show _ = .int .i64 (2) from rfl) ⟨_, hfr, rfl⟩
        ·refine E_cond_false (Eq.trans (show ev _ _ = .bool (j3) from c5) (congrArg Value.bool o5)) ?_
         exact E_skip (blk_n (thn_n (r8 () _ _ ⟨iA, hfr, n7, o7, p7⟩ h)))
      ·rintro _ lB sC ⟨jA, hfr, q7, t7, u7⟩ h
       refine E_region (EL_mv u7 rfl ?_)
       refine EL_in (.int .i64 ((w64 (o0 + (1 : Int))))) rfl rfl rfl rfl ?_
       refine EL_at (.int .i64 ((w64 (o0 + (1 : Int))))) rfl rfl ?_
       exact EL_nil (thn_n (p8 ((w64 (o0 + (1 : Int)))) _ _ ⟨jA, hfr, q7, t7, rfl⟩ h))
    ·rintro _ mB tC ⟨uC, hfr⟩ h
     refine E_seq (E_region (EL_at (.int .i64 (0)) rfl rfl ?_))
     refine EL_nil (thn_n (E_ret ?_))
     obtain rfl := sinj h
     exact end1 rfl rfl (show _ = .int .i64 (0) from rfl) ⟨_, hfr, rfl⟩
/-- (griffe/loom.mill).looms -/
def f52 (x0 : LoomLoomMill) : Option ((List Int)) :=
 (shl64 (1 : Int) ((((x0).LoomMill).Widths).length : Int)).bind fun y5 =>
 (f59 ((w64 (y5 - (1 : Int))))).bind fun y7 =>
 some (y7)
theorem en52 : Enters Try.prog 52 := enters_of Try.func52 (by kernel_rfl) rfl
theorem wk52 {gI : Gh} {wI : World} {x0 : LoomLoomMill} {up0 : Value} (rp0 : RV gI.m wI x0 up0) {r : (List Int)} (h : f52 x0 = some r) : Fn Try.prog 52 #[up0] gI wI (fun m w v => RV m w (r) v) := by
 unfold f52 at h
 refine fn_of_E Try.func52 rfl (Nat.le_of_ble_eq_true rfl) fun g0 hm hfr => ?_
 have rp0 : RV g0.m wI x0 up0 := hm ▸ rp0
 show E _ 10 none _ _ _ _ _
 refine E_seq (E_region (EL_do .plain rfl (D_box (g := g0) rfl rp0 fun g1 w1 p1 hs q1 => ?_)))
 have hfr := hfr.ext hs
 refine EL_at (.slice none 0 0) rfl rfl ?_
 refine EL_nil (thn_n (E_seq (E_region (EL_pur (v := fPtr p1 0) (P_fieldAddr at_96_0 rfl (PT.ptr q1)) .plain rfl ?_))))
 have q2 := PT_field (part_LoomLoomMill_0).1 q1
 refine EL_pur (v := fPtr (fPtr p1 0) 0) (P_fieldAddr at_24_0 rfl (PT.ptr q2)) .plain rfl ?_
 have q3 := PT_field (part_LoomMill_0).1 q2
 refine EL_do .plain rfl (D_load (g := g1) Try.isAgg22 Try.sizeOf22 rfl q3 fun v4 r4 => ?_)
 refine EL_pur (v := .int .i64 ((((x0).LoomMill).Widths).length : Int)) (P_len Try.underlying22 rfl r4) .plain rfl ?_
 obtain ⟨y5, j0, h⟩ := bsome h
 refine EL_pur (v := .int .i64 (y5)) (P_int rfl rfl (congrArg (Option.map (Value.int .i64)) j0)) .plain rfl ?_
 refine EL_in (.int .i64 ((w64 (y5 - (1 : Int))))) rfl rfl rfl rfl ?_
 obtain ⟨y7, o0, h⟩ := bsome h
 refine EL_do .plain rfl (D_call (g := g1) (vs := [.int .i64 ((w64 (y5 - (1 : Int))))]) en59 (.cons rfl .nil) (wk59  o0) fun g6 w6_ v6 hs hr => ?_)
 have hfr := hfr.ext hs
 have r6 := hr
 refine EL_at v6 rfl rfl ?_
 refine EL_nil (thn_n (E_ret ?_))
 obtain rfl := sinj h
 exact end1 rfl rfl (show _ = v6 from rfl) ⟨_, hfr, r6⟩
/-- (griffe/loom.still).stands -/
def f66 (x0 : LoomStill) (x1 : LoomRun) : Option (Bool) :=
 Option.bind (α := Bool) (
  bif (decide ((x1).From ≤ (((x0).LoomStop).Days).High)) then
   (f73 ((x0).mill) x1).bind fun u0 =>
   some ((decide (u0 > (((x0).LoomStop).Days).Low)))
  else
   some (false)
  ) fun o0 =>
 some (o0)
theorem en66 : Enters Try.prog 66 := enters_of Try.func66 (by kernel_rfl) rfl
theorem wk66 {gI : Gh} {wI : World} {x0 : LoomStill} {x1 : LoomRun} {up0 : Value} (rp0 : RV gI.m wI x0 up0) {up1 : Value} (rp1 : RV gI.m wI x1 up1) {r : Bool} (h : f66 x0 x1 = some r) : Fn Try.prog 66 #[up0, up1] gI wI (fun _ _ v => v = .bool (r)) := by
 unfold f66 at h
 refine fn_of_E Try.func66 rfl (Nat.le_of_ble_eq_true rfl) fun g0 hm hfr => ?_
 have rp0 : RV g0.m wI x0 up0 := hm ▸ rp0
 have rp1 : RV g0.m wI x1 up1 := hm ▸ rp1
 show E _ 23 none _ _ _ _ _
 refine E_seq (E_region (EL_do .plain rfl (D_box (g := g0) rfl rp0 fun g1 w1 p1 hs q1 => ?_)))
 have hfr := hfr.ext hs
 have rp1 := rp1.ext hs
 refine EL_do .plain rfl (D_box (g := g1) rfl rp1 fun g2 w2 p2 hs q2 => ?_)
 have hfr := hfr.ext hs
 have q1 := q1.ext hs
 refine EL_at (.bool false) rfl rfl ?_
 refine EL_nil (thn_n ?_)
 obtain ⟨o0, hx, h⟩ := bsome h
 refine E_join (fun e w => ∃ (g : Gh) , Fr gI wI g w ∧ e 4 = .bool (o0)) (fun Q' hQ => ?_) (fun i5 j5 hR => ?_)
 ·replace h := hx
  clear hx
  have j4 := PT_field (part_LoomRun_2).1 q2
  refine L_load (x := .tmp 5) Try.isAgg3 Try.sizeOf3 j4 fun n5 m4 j1 => ?_
  obtain rfl := RV_int.1 m4
  have z1 := PT_field (part_LoomStill_1).1 q1
  have j2 := PT_field (part_LoomStop_1).1 z1
  have n4 := PT_field (part_Span_1).1 j2
  refine L_load (x := .tmp 9) Try.isAgg3 Try.sizeOf3 n4 fun o5 o4 z2 => ?_
  obtain rfl := RV_int.1 o4
  rcases csome h with ⟨j0, h⟩ | ⟨j0, h⟩
  ·have p4 := PT_field (part_LoomStill_0).1 q1
   refine L_load (x := .tmp 13) Try.isAgg96 Try.sizeOf96 p4 fun i3 u4 u3 => ?_
   refine L_load (x := .tmp 3) Try.isAgg76 Try.sizeOf76 q2 fun j3 x4 z3 => ?_
   obtain ⟨u0, c4, h⟩ := bsome h
   have o3 := PT_field (part_LoomStill_1).1 q1
   have p3 := PT_field (part_LoomStop_1).1 o3
   have z4 := PT_field (part_Span_0).1 p3
   refine L_load (x := .tmp 19) Try.isAgg3 Try.sizeOf3 z4 fun p5 c5 d4 => ?_
   obtain rfl := RV_int.1 c5
   refine E_drawL (g := g2) (n := 19) [(11, (fun v g w => v = .int .i64 (u0)))] [0, 1, 2, 3, 4, 5, 6, 7, 8, 9, 10, 11, 12, 13, 14, 15, 16, 17, 18] rfl mixed (by kernel_rfl) (⟨fun _ => up_eq _, trivial⟩) ?_
   refine L_pur (c := fPtr p2 2) rfl rfl .plain (fun _ _ hd => P_fieldAddr at_76_2 rfl (PT.ptr q2)) ?_
   refine L_ld (c := .int .i64 ((x1).From)) rfl rfl .plain (fun _ _ h => h.ch) j1 rfl ?_
   refine L_pur (c := fPtr p1 3) rfl rfl .plain (fun _ _ hd => P_fieldAddr at_113_1 rfl (PT.ptr q1)) ?_
   refine L_pur (c := fPtr (fPtr p1 3) 1) rfl rfl .plain (fun _ _ hd => P_fieldAddr at_54_1 rfl (PT.ptr z1)) ?_
   refine L_pur (c := fPtr (fPtr (fPtr p1 3) 1) 1) rfl rfl .plain (fun _ _ hd => P_fieldAddr at_48_1 rfl (PT.ptr j2)) ?_
   refine L_ld (c := .int .i64 ((((x0).LoomStop).Days).High)) rfl rfl .plain (fun _ _ h => h.ch) z2 rfl ?_
   refine L_pur (c := .bool ((decide ((x1).From ≤ (((x0).LoomStop).Days).High)))) rfl rfl .plain (fun _ _ hd => P_int rfl rfl rfl) ?_
   refine L_pur (c := .bool ((decide ((x1).From ≤ (((x0).LoomStop).Days).High)))) rfl rfl .plain (fun _ _ hd => P_move rfl) ?_
   refine L_pur (c := fPtr p1 0) rfl rfl (.yes2 rfl rfl j0) (fun _ _ hd => P_fieldAddr at_113_0 rfl (PT.ptr q1)) ?_
   refine L_ld (c := i3) rfl rfl (.yes2 rfl rfl j0) (fun _ _ h => h.ch) u3 rfl ?_
   refine L_ld (c := j3) rfl rfl (.yes2 rfl rfl j0) (fun _ _ h => h.ch) z3 rfl ?_
   refine L_do (φ := fun v g w => v = .int .i64 (u0)) rfl rfl (.yes2 rfl rfl j0) (fun g w hd => D_call (g := g) (vs := [i3, j3]) en73 (.cons rfl (.cons rfl .nil)) (wk73 (u4.ext hd.1) (x4.ext hd.1) c4) fun g' w' v hs hr => ⟨g', hs, hr⟩) (fun q5 hv => ?_)
   obtain ⟨_, _, _, rfl⟩ := hv
   refine L_pur (c := fPtr p1 3) rfl rfl (.yes2 rfl rfl j0) (fun _ _ hd => P_fieldAddr at_113_1 rfl (PT.ptr q1)) ?_
   refine L_pur (c := fPtr (fPtr p1 3) 1) rfl rfl (.yes2 rfl rfl j0) (fun _ _ hd => P_fieldAddr at_54_1 rfl (PT.ptr o3)) ?_
   refine L_pur (c := fPtr (fPtr (fPtr p1 3) 1) 0) rfl rfl (.yes2 rfl rfl j0) (fun _ _ hd => P_fieldAddr at_48_0 rfl (PT.ptr p3)) ?_
   refine L_ld (c := .int .i64 ((((x0).LoomStop).Days).Low)) rfl rfl (.yes2 rfl rfl j0) (fun _ _ h => h.ch) d4 rfl ?_
   refine L_pur (c := .bool ((decide (u0 > (((x0).LoomStop).Days).Low)))) rfl rfl (.yes2 rfl rfl j0) (fun _ _ hd => P_int rfl rfl rfl) ?_
   refine L_pur (c := .bool ((decide (u0 > (((x0).LoomStop).Days).Low)))) rfl rfl .plain (fun _ _ hd => P_pick (b := (decide ((x1).From ≤ (((x0).LoomStop).Days).High))) rfl (pick_t j0 rfl)) ?_
   refine L_pur (c := .bool ((decide (u0 > (((x0).LoomStop).Days).Low)))) rfl rfl .plain (fun _ _ hd => P_assign rfl) ?_
   refine L_nil fun d5 t5 hall => ?_
   have hs := hall.1
   have hfr := hfr.ext hs
   clear hs hall
   refine EL_nil ?_
   obtain rfl := sinj h
   exact hQ _ _ ⟨d5, hfr, rfl⟩
  ·refine E_drawL (g := g2) (n := 19) [] [0, 1, 2, 3, 4, 5, 6, 7, 8, 9, 10, 11, 12, 13, 14, 15, 16, 17, 18] rfl mixed (by kernel_rfl) trivial ?_
   refine L_pur (c := fPtr p2 2) rfl rfl .plain (fun _ _ hd => P_fieldAddr at_76_2 rfl (PT.ptr q2)) ?_
   refine L_ld (c := .int .i64 ((x1).From)) rfl rfl .plain (fun _ _ h => h.ch) j1 rfl ?_
   refine L_pur (c := fPtr p1 3) rfl rfl .plain (fun _ _ hd => P_fieldAddr at_113_1 rfl (PT.ptr q1)) ?_
   refine L_pur (c := fPtr (fPtr p1 3) 1) rfl rfl .plain (fun _ _ hd => P_fieldAddr at_54_1 rfl (PT.ptr z1)) ?_
   refine L_pur (c := fPtr (fPtr (fPtr p1 3) 1) 1) rfl rfl .plain (fun _ _ hd => P_fieldAddr at_48_1 rfl (PT.ptr j2)) ?_
   refine L_ld (c := .int .i64 ((((x0).LoomStop).Days).High)) rfl rfl .plain (fun _ _ h => h.ch) z2 rfl ?_
   refine L_pur (c := .bool ((decide ((x1).From ≤ (((x0).LoomStop).Days).High)))) rfl rfl .plain (fun _ _ hd => P_int rfl rfl rfl) ?_
   refine L_pur (c := .bool ((decide ((x1).From ≤ (((x0).LoomStop).Days).High)))) rfl rfl .plain (fun _ _ hd => P_move rfl) ?_
   refine L_skip rfl (.no2 rfl rfl j0 rfl) ?_
   refine L_skip rfl (.no2 rfl rfl j0 rfl) ?_
   refine L_skip rfl (.no2 rfl rfl j0 rfl) ?_
   refine L_skip rfl (.no2 rfl rfl j0 rfl) ?_
   refine L_skip rfl (.no2 rfl rfl j0 rfl) ?_
   refine L_skip rfl (.no2 rfl rfl j0 rfl) ?_
   refine L_skip rfl (.no2 rfl rfl j0 rfl) ?_
   refine L_skip rfl (.no2 rfl rfl j0 rfl) ?_
   refine L_skip rfl (.no2 rfl rfl j0 rfl) ?_
   refine L_pur (c := .bool false) rfl rfl .plain (fun _ _ hd => P_pick (b := (decide ((x1).From ≤ (((x0).LoomStop).Days).High))) rfl (pick_f j0 rfl)) ?_
   refine L_pur (c := .bool false) rfl rfl .plain (fun _ _ hd => P_assign rfl) ?_
   refine L_nil fun i4 l5 hall => ?_
   have hs := hall.1
   have hfr := hfr.ext hs
   clear hs hall
   refine EL_nil ?_
   obtain rfl := sinj h
   exact hQ _ _ ⟨i4, hfr, rfl⟩
 ·clear hx
  obtain ⟨m5, hfr, d3⟩ := hR
  refine E_ret ?_
  obtain rfl := sinj h
  exact end1 rfl rfl (show _ = .bool (o0) from d3) ⟨_, hfr, rfl⟩
/-- (griffe/loom.mill).free -/
def f69 (x0 : LoomLoomMill) (x1 : LoomRun) (x2 : Int) : Option (Int) :=
 jn (σ := Unit) (fun (_ : Unit) =>
  (f73 x0 x1).bind fun j0 =>
  some ((w64 (j0 + ((x0).LoomMill).Change)))
  ) fun c4 =>
 (idx ((x0).orders) (x1).Order).bind fun j1 =>
 (idx ((x0).orders) x2).bind fun z1 =>
 bif ((j1).Chain == (z1).Chain) then
  (f73 x0 x1).bind fun j2 =>
  some (j2)
 else
  c4 ()
theorem en69 : Enters Try.prog 69 := enters_of Try.func69 (by kernel_rfl) rfl
theorem wk69 {gI : Gh} {wI : World} {x0 : LoomLoomMill} {x1 : LoomRun} {x2 : Int} {up0 : Value} (rp0 : RV gI.m wI x0 up0) {up1 : Value} (rp1 : RV gI.m wI x1 up1) {r : Int} (h : f69 x0 x1 x2 = some r) : Fn Try.prog 69 #[up0, up1, .int .i64 (x2)] gI wI (fun _ _ v => v = .int .i64 (r)) := by
 unfold f69 at h
 refine fn_of_E Try.func69 rfl (Nat.le_of_ble_eq_true rfl) fun g0 hm hfr => ?_
 have rp0 : RV g0.m wI x0 up0 := hm ▸ rp0
 have rp1 : RV g0.m wI x1 up1 := hm ▸ rp1
 show E _ 31 none _ _ _ _ _
 refine E_seq (E_region (EL_do .plain rfl (D_box (g := g0) rfl rp0 fun g1 w1 p1 hs q1 => ?_)))
 have hfr := hfr.ext hs
 have rp1 := rp1.ext hs
 refine EL_do .plain rfl (D_box (g := g1) rfl rp1 fun g2 w2 p2 hs q2 => ?_)
 have hfr := hfr.ext hs
 have q1 := q1.ext hs
 refine EL_at (.int .i64 (0)) rfl rfl ?_
 refine EL_nil (thn_n (E_joinC h (fun (s : Unit) e w => ∃ (g : Gh) , Fr gI wI g w ∧ e 3 = p1 ∧ PT g.m w (x0 : LoomLoomMill) p1 ∧ e 4 = p2 ∧ PT g.m w (x1 : LoomRun) p2) (fun X43 c4 u4 h => ?_) ?_))
 ·refine E_seq ?_
  have p5 := PT_field (part_LoomLoomMill_1).1 q1
  refine L_load (x := .tmp 7) Try.isAgg25 Try.sizeOf25 p5 fun i3 d4 x4 => ?_
  have q5 := PT_field (part_LoomRun_0).1 q2
  refine L_load (x := .tmp 9) Try.isAgg3 Try.sizeOf3 q5 fun r6 t5 z4 => ?_
  obtain rfl := RV_int.1 t5
  obtain ⟨j1, j3, h⟩ := bsome h
  have i4 := PT_idx d4 j3
  have u5 := PT_field (part_LoomOrder_1).1 i4
  refine L_load (x := .tmp 12) Try.isAgg3 Try.sizeOf3 u5 fun t6 x5 c5 => ?_
  obtain rfl := RV_int.1 x5
  have y5 := PT_field (part_LoomLoomMill_1).1 q1
  refine L_load (x := .tmp 14) Try.isAgg25 Try.sizeOf25 y5 fun o3 j4 d5 => ?_
  obtain ⟨z1, p3, h⟩ := bsome h
  have m4 := PT_idx j4 p3
  have z5 := PT_field (part_LoomOrder_1).1 m4
  refine L_load (x := .tmp 18) Try.isAgg3 Try.sizeOf3 z5 fun u6 b6 i5 => ?_
  obtain rfl := RV_int.1 b6
  refine E_drawL (g := g2) (n := 14) [] [0, 1, 2, 3, 4, 5, 6, 7, 8, 9, 10, 11, 12, 13] rfl mixed (by kernel_rfl) trivial ?_
  refine L_pur (c := fPtr p1 2) rfl rfl .plain (fun _ _ hd => P_fieldAddr at_96_1 rfl (PT.ptr q1)) ?_
  refine L_ld (c := i3) rfl rfl .plain (fun _ _ h => h.ch) x4 rfl ?_
  refine L_pur (c := fPtr p2 0) rfl rfl .plain (fun _ _ hd => P_fieldAddr at_76_0 rfl (PT.ptr q2)) ?_
  refine L_ld (c := .int .i64 ((x1).Order)) rfl rfl .plain (fun _ _ h => h.ch) z4 rfl ?_
  refine L_pur (c := ePtr i3 (x1).Order 5) rfl rfl .plain (fun _ _ hd => P_indexAddr (α := LoomOrder) Try.underlying25 Try.sizeOf82 rfl d4 rfl j3) ?_
  refine L_pur (c := fPtr (ePtr i3 (x1).Order 5) 1) rfl rfl .plain (fun _ _ hd => P_fieldAddr at_82_1 rfl (PT.ptr i4)) ?_
  refine L_ld (c := .int .i64 ((j1).Chain)) rfl rfl .plain (fun _ _ h => h.ch) c5 rfl ?_
  refine L_pur (c := fPtr p1 2) rfl rfl .plain (fun _ _ hd => P_fieldAddr at_96_1 rfl (PT.ptr q1)) ?_
  refine L_ld (c := o3) rfl rfl .plain (fun _ _ h => h.ch) d5 rfl ?_
  refine L_pur (c := .int .i64 (x2)) rfl rfl .plain (fun _ _ hd => P_move rfl) ?_
  refine L_pur (c := ePtr o3 x2 5) rfl rfl .plain (fun _ _ hd => P_indexAddr (α := LoomOrder) Try.underlying25 Try.sizeOf82 rfl j4 rfl p3) ?_
  refine L_pur (c := fPtr (ePtr o3 x2 5) 1) rfl rfl .plain (fun _ _ hd => P_fieldAddr at_82_1 rfl (PT.ptr m4)) ?_
  refine L_ld (c := .int .i64 ((z1).Chain)) rfl rfl .plain (fun _ _ h => h.ch) i5 rfl ?_
  refine L_pur (c := .bool (((j1).Chain == (z1).Chain))) rfl rfl .plain (fun _ _ hd => P_int rfl rfl rfl) ?_
  refine L_nil fun z2 v6 hall => ?_
  have hs := hall.1
  have hfr := hfr.ext hs
  have q1 := q1.ext hs
  have q2 := q2.ext hs
  clear hs hall
  refine EL_nil (thn_n ?_)
  rcases csome h with ⟨u0, h⟩ | ⟨u0, h⟩
  ·refine E_ct u0 rfl ?_
   refine E_seq (E_region (EL_do .plain rfl (D_load (g := z2) Try.isAgg96 Try.sizeOf96 rfl q1 fun c6 d6 => ?_)))
   refine EL_do .plain rfl (D_load (g := z2) Try.isAgg76 Try.sizeOf76 rfl q2 fun i6 j6 => ?_)
   obtain ⟨j2, j5, h⟩ := bsome h
   refine EL_do .plain rfl (D_call (g := z2) (vs := [c6, i6]) en73 (.cons rfl (.cons rfl .nil)) (wk73 d6 j6 j5) fun x6 p6 y6 hs hr => ?_)
   have hfr := hfr.ext hs
   subst hr
   refine EL_at (.int .i64 (j2)) rfl rfl ?_
   refine EL_nil (thn_n (E_ret (thn_r ?_)))
   obtain rfl := sinj h
   exact end1 rfl rfl (show _ = .int .i64 (j2) from rfl) ⟨_, hfr, rfl⟩
  ·refine E_cf u0 rfl ?_
   exact E_skip (thn_n (u4 () _ _ ⟨z2, hfr, rfl, q1, rfl, q2⟩ h))
 ·rintro _ q6 z6 ⟨k6, hfr, d3, o0, u3, z3⟩ h
  refine E_seq (L_load (x := .tmp 3) Try.isAgg96 Try.sizeOf96 o0 fun n4 l6 l5 => ?_)
  refine L_load (x := .tmp 4) Try.isAgg76 Try.sizeOf76 z3 fun o4 m6 m5 => ?_
  obtain ⟨j0, n5, h⟩ := bsome h
  have p4 := PT_field (part_LoomLoomMill_0).1 o0
  have n6 := PT_field (part_LoomMill_1).1 p4
  refine L_load (x := .tmp 28) Try.isAgg3 Try.sizeOf3 n6 fun a7 o6 o5 => ?_
  obtain rfl := RV_int.1 o6
  refine E_drawL (g := k6) (n := 8) [(2, (fun v g w => v = .int .i64 (j0)))] [0, 1, 2, 3, 4, 5, 6, 7] rfl mixed (by kernel_rfl) (⟨fun _ => up_eq _, trivial⟩) ?_
  refine L_ld (c := n4) rfl rfl .plain (fun _ _ h => h.ch) l5 d3 ?_
  refine L_ld (c := o4) rfl rfl .plain (fun _ _ h => h.ch) m5 u3 ?_
  refine L_do (φ := fun v g w => v = .int .i64 (j0)) rfl rfl .plain (fun g w hd => D_call (g := g) (vs := [n4, o4]) en73 (.cons rfl (.cons rfl .nil)) (wk73 (l6.ext hd.1) (m6.ext hd.1) n5) fun g' w' v hs hr => ⟨g', hs, hr⟩) (fun b7 hv => ?_)
  obtain ⟨_, _, _, rfl⟩ := hv
  refine L_pur (c := fPtr p1 0) rfl rfl .plain (fun _ _ hd => P_fieldAddr at_96_0 d3 (PT.ptr o0)) ?_
  refine L_pur (c := fPtr (fPtr p1 0) 1) rfl rfl .plain (fun _ _ hd => P_fieldAddr at_24_1 rfl (PT.ptr p4)) ?_
  refine L_ld (c := .int .i64 (((x0).LoomMill).Change)) rfl rfl .plain (fun _ _ h => h.ch) o5 rfl ?_
  refine L_pur (c := .int .i64 ((w64 (j0 + ((x0).LoomMill).Change)))) rfl rfl .plain (fun _ _ hd => P_int rfl rfl rfl) ?_
  refine L_pur (c := .int .i64 ((w64 (j0 + ((x0).LoomMill).Change)))) rfl rfl .plain (fun _ _ hd => P_assign rfl) ?_
  refine L_nil fun c7 d7 hall => ?_
  have hs := hall.1
  have hfr := hfr.ext hs
  clear hs hall
  refine EL_nil (thn_n (E_ret ?_))
  obtain rfl := sinj h
  exact end1 rfl rfl (show _ = .int .i64 ((w64 (j0 + ((x0).LoomMill).Change))) from rfl) ⟨_, hfr, rfl⟩
/-- slices.ContainsFunc[[]griffe/api.LoomRun,griffe/api.LoomRun] -/
def f72 (x0 : List LoomRun) (x1 : LoomRun → Option Bool) : Option (Bool) :=
 (f91 x0 x1).bind fun y2 =>
 some ((decide (y2 ≥ (0 : Int))))
theorem en72 : Enters Try.prog 72 := enters_of Try.func72 (by kernel_rfl) rfl
theorem wk72 {gI : Gh} {wI : World} {x0 : List LoomRun} {x1 : LoomRun → Option Bool} {up0 : Value} (rp0 : RV gI.m wI x0 up0) {up1 : Value} (rp1 : FnV1 Try.prog x1 up1 gI wI) {r : Bool} (h : f72 x0 x1 = some r) : Fn Try.prog 72 #[up0, up1] gI wI (fun _ _ v => v = .bool (r)) := by
 unfold f72 at h
 refine fn_of_E Try.func72 rfl (Nat.le_of_ble_eq_true rfl) fun g0 hm hfr => ?_
 have rp0 : RV g0.m wI x0 up0 := hm ▸ rp0
 obtain ⟨ff1, fa1, fc1, rfl, fen1, fcl1⟩ := rp1
 show E _ 9 none _ _ _ _ _
 refine E_seq (E_region (EL_at (.bool false) rfl rfl ?_))
 refine EL_nil (thn_n (E_seq (E_region (EL_mw up0 rfl rfl ?_))))
 refine EL_mw ((.func (.func ff1) fa1 fc1)) rfl rfl ?_
 obtain ⟨y2, hy2, h⟩ := bsome h
 refine EL_do .plain rfl (D_call (g := g0) (vs := [up0, (.func (.func ff1) fa1 fc1)]) en91 (.cons rfl (.cons rfl .nil)) (wk91 rp0 (FnV1.ch ⟨_, _, _, rfl, fen1, fcl1⟩ hfr.ch) hy2) fun g1 w1_ v1 hs hr => ?_)
 have hfr := hfr.ext hs
 subst hr
 refine EL_in (.bool ((decide (y2 ≥ (0 : Int))))) rfl rfl rfl rfl ?_
 refine EL_at (.bool ((decide (y2 ≥ (0 : Int))))) rfl rfl ?_
 refine EL_nil (thn_n (E_ret ?_))
 obtain rfl := sinj h
 exact end1 rfl rfl (show _ = .bool ((decide (y2 ≥ (0 : Int)))) from rfl) ⟨_, hfr, rfl⟩
/-- griffe/grifferef08.Soon -/
def f74 (x0 : LoomMill) (x1 : List LoomOrder) (x2 : List LoomRun) (x3 : Int) : Option (Bool) :=
 (f92 x2 x3).bind fun y3 =>
 Option.bind (α := Bool) (
  bif (decide (y3 ≥ (0 : Int))) then
   (idx x2 x3).bind fun j1 =>
   (idx x2 y3).bind fun i3 =>
   (idx x2 x3).bind fun j3 =>
   (f77 x0 x1 i3 j3).bind fun u0 =>
   some ((decide ((j1).From < u0)))
  else
   some (false)
  ) fun o0 =>
 some (o0)
theorem en74 : Enters Try.prog 74 := enters_of Try.func74 (by kernel_rfl) rfl
theorem wk74 {gI : Gh} {wI : World} {x0 : LoomMill} {x1 : List LoomOrder} {x2 : List LoomRun} {x3 : Int} {up0 : Value} (rp0 : RV gI.m wI x0 up0) {up1 : Value} (rp1 : RV gI.m wI x1 up1) {up2 : Value} (rp2 : RV gI.m wI x2 up2) {r : Bool} (h : f74 x0 x1 x2 x3 = some r) : Fn Try.prog 74 #[up0, up1, up2, .int .i64 (x3)] gI wI (fun _ _ v => v = .bool (r)) := by
 unfold f74 at h
 refine fn_of_E Try.func74 rfl (Nat.le_of_ble_eq_true rfl) fun g0 hm hfr => ?_
 have rp0 : RV g0.m wI x0 up0 := hm ▸ rp0
 have rp1 : RV g0.m wI x1 up1 := hm ▸ rp1
 have rp2 : RV g0.m wI x2 up2 := hm ▸ rp2
 show E _ 34 none _ _ _ _ _
 refine E_seq (E_region (EL_do .plain rfl (D_box (g := g0) rfl rp0 fun g1 w1 p1 hs q1 => ?_)))
 have hfr := hfr.ext hs
 have rp1 := rp1.ext hs
 have rp2 := rp2.ext hs
 refine EL_at (.bool false) rfl rfl ?_
 refine EL_nil (thn_n (E_seq (E_region (EL_mw up2 rfl rfl ?_))))
 refine EL_mw (.int .i64 (x3)) rfl rfl ?_
 obtain ⟨y3, hy3, h⟩ := bsome h
 refine EL_do .plain rfl (D_call (g := g1) (vs := [up2, .int .i64 (x3)]) en92 (.cons rfl (.cons rfl .nil)) (wk92 rp2 hy3) fun g2 w2_ v2 hs hr => ?_)
 have hfr := hfr.ext hs
 have rp1 := rp1.ext hs
 have rp2 := rp2.ext hs
 have q1 := q1.ext hs
 subst hr
 refine EL_at (.int .i64 (y3)) rfl rfl ?_
 refine EL_nil (thn_n ?_)
 obtain ⟨o0, hx, h⟩ := bsome h
 refine E_join (fun e w => ∃ (g : Gh) , Fr gI wI g w ∧ e 8 = .bool (o0)) (fun Q' hQ => ?_) (fun j5 l5 hR => ?_)
 ·replace h := hx
  clear hx
  rcases csome h with ⟨j0, h⟩ | ⟨j0, h⟩
  ·obtain ⟨j1, z1, h⟩ := bsome h
   have o3 := PT_idx rp2 z1
   have o4 := PT_field (part_LoomRun_2).1 o3
   refine L_load (x := .tmp 19) Try.isAgg3 Try.sizeOf3 o4 fun o5 p4 c4 => ?_
   obtain rfl := RV_int.1 p4
   refine L_load (x := .tmp 4) Try.isAgg24 Try.sizeOf24 q1 fun p3 u4 d4 => ?_
   obtain ⟨i3, j2, h⟩ := bsome h
   have x4 := PT_idx rp2 j2
   refine L_load (x := .tmp 25) Try.isAgg76 Try.sizeOf76 x4 fun u3 z4 i4 => ?_
   obtain ⟨j3, z2, h⟩ := bsome h
   have c5 := PT_idx rp2 z2
   refine L_load (x := .tmp 29) Try.isAgg76 Try.sizeOf76 c5 fun z3 d5 j4 => ?_
   obtain ⟨u0, m4, h⟩ := bsome h
   refine E_drawL (g := g2) (n := 22) [(18, (fun v g w => v = .int .i64 (u0)))] [0, 1, 2, 3, 4, 5, 6, 7, 8, 9, 10, 11, 12, 13, 14, 15, 16, 17, 18, 19, 20, 21] rfl mixed (by kernel_rfl) (⟨fun _ => up_eq _, trivial⟩) ?_
   refine L_pur (c := .int .i64 (y3)) rfl rfl .plain (fun _ _ hd => P_move rfl) ?_
   refine L_pur (c := .bool ((decide (y3 ≥ (0 : Int))))) rfl rfl .plain (fun _ _ hd => P_int rfl rfl rfl) ?_
   refine L_pur (c := .bool ((decide (y3 ≥ (0 : Int))))) rfl rfl .plain (fun _ _ hd => P_move rfl) ?_
   refine L_pur (c := up2) rfl rfl (.yes2 rfl rfl j0) (fun _ _ hd => P_move rfl) ?_
   refine L_pur (c := .int .i64 (x3)) rfl rfl (.yes2 rfl rfl j0) (fun _ _ hd => P_move rfl) ?_
   refine L_pur (c := ePtr up2 x3 3) rfl rfl (.yes2 rfl rfl j0) (fun _ _ hd => P_indexAddr (α := LoomRun) Try.underlying31 Try.sizeOf76 rfl rp2 rfl z1) ?_
   refine L_pur (c := fPtr (ePtr up2 x3 3) 2) rfl rfl (.yes2 rfl rfl j0) (fun _ _ hd => P_fieldAddr at_76_2 rfl (PT.ptr o3)) ?_
   refine L_ld (c := .int .i64 ((j1).From)) rfl rfl (.yes2 rfl rfl j0) (fun _ _ h => h.ch) c4 rfl ?_
   refine L_ld (c := p3) rfl rfl (.yes2 rfl rfl j0) (fun _ _ h => h.ch) d4 rfl ?_
   refine L_pur (c := up1) rfl rfl (.yes2 rfl rfl j0) (fun _ _ hd => P_move rfl) ?_
   refine L_pur (c := up2) rfl rfl (.yes2 rfl rfl j0) (fun _ _ hd => P_move rfl) ?_
   refine L_pur (c := .int .i64 (y3)) rfl rfl (.yes2 rfl rfl j0) (fun _ _ hd => P_move rfl) ?_
   refine L_pur (c := ePtr up2 y3 3) rfl rfl (.yes2 rfl rfl j0) (fun _ _ hd => P_indexAddr (α := LoomRun) Try.underlying31 Try.sizeOf76 rfl rp2 rfl j2) ?_
   refine L_ld (c := u3) rfl rfl (.yes2 rfl rfl j0) (fun _ _ h => h.ch) i4 rfl ?_
   refine L_pur (c := up2) rfl rfl (.yes2 rfl rfl j0) (fun _ _ hd => P_move rfl) ?_
   refine L_pur (c := .int .i64 (x3)) rfl rfl (.yes2 rfl rfl j0) (fun _ _ hd => P_move rfl) ?_
   refine L_pur (c := ePtr up2 x3 3) rfl rfl (.yes2 rfl rfl j0) (fun _ _ hd => P_indexAddr (α := LoomRun) Try.underlying31 Try.sizeOf76 rfl rp2 rfl z2) ?_
   refine L_ld (c := z3) rfl rfl (.yes2 rfl rfl j0) (fun _ _ h => h.ch) j4 rfl ?_
   refine L_do (φ := fun v g w => v = .int .i64 (u0)) rfl rfl (.yes2 rfl rfl j0) (fun g w hd => D_call (g := g) (vs := [p3, up1, u3, z3]) en77 (.cons rfl (.cons rfl (.cons rfl (.cons rfl .nil)))) (wk77 (u4.ext hd.1) (rp1.ext hd.1) (z4.ext hd.1) (d5.ext hd.1) m4) fun g' w' v hs hr => ⟨g', hs, hr⟩) (fun p5 hv => ?_)
   obtain ⟨_, _, _, rfl⟩ := hv
   refine L_pur (c := .bool ((decide ((j1).From < u0)))) rfl rfl (.yes2 rfl rfl j0) (fun _ _ hd => P_int rfl rfl rfl) ?_
   refine L_pur (c := .bool ((decide ((j1).From < u0)))) rfl rfl .plain (fun _ _ hd => P_pick (b := (decide (y3 ≥ (0 : Int)))) rfl (pick_t j0 rfl)) ?_
   refine L_pur (c := .bool ((decide ((j1).From < u0)))) rfl rfl .plain (fun _ _ hd => P_assign rfl) ?_
   refine L_nil fun i5 q5 hall => ?_
   have hs := hall.1
   have hfr := hfr.ext hs
   clear hs hall
   refine EL_nil ?_
   obtain rfl := sinj h
   exact hQ _ _ ⟨i5, hfr, rfl⟩
  ·refine E_drawL (g := g2) (n := 22) [] [0, 1, 2, 3, 4, 5, 6, 7, 8, 9, 10, 11, 12, 13, 14, 15, 16, 17, 18, 19, 20, 21] rfl mixed (by kernel_rfl) trivial ?_
   refine L_pur (c := .int .i64 (y3)) rfl rfl .plain (fun _ _ hd => P_move rfl) ?_
   refine L_pur (c := .bool ((decide (y3 ≥ (0 : Int))))) rfl rfl .plain (fun _ _ hd => P_int rfl rfl rfl) ?_
   refine L_pur (c := .bool ((decide (y3 ≥ (0 : Int))))) rfl rfl .plain (fun _ _ hd => P_move rfl) ?_
   refine L_skip rfl (.no2 rfl rfl j0 rfl) ?_
   refine L_skip rfl (.no2 rfl rfl j0 rfl) ?_
   refine L_skip rfl (.no2 rfl rfl j0 rfl) ?_
   refine L_skip rfl (.no2 rfl rfl j0 rfl) ?_
   refine L_skip rfl (.no2 rfl rfl j0 rfl) ?_
   refine L_skip rfl (.no2 rfl rfl j0 rfl) ?_
   refine L_skip rfl (.no2 rfl rfl j0 rfl) ?_
   refine L_skip rfl (.no2 rfl rfl j0 rfl) ?_
   refine L_skip rfl (.no2 rfl rfl j0 rfl) ?_
   refine L_skip rfl (.no2 rfl rfl j0 rfl) ?_
   refine L_skip rfl (.no2 rfl rfl j0 rfl) ?_
   refine L_skip rfl (.no2 rfl rfl j0 rfl) ?_
   refine L_skip rfl (.no2 rfl rfl j0 rfl) ?_
   refine L_skip rfl (.no2 rfl rfl j0 rfl) ?_
   refine L_skip rfl (.no2 rfl rfl j0 rfl) ?_
   refine L_skip rfl (.no2 rfl rfl j0 rfl) ?_
   refine L_skip rfl (.no2 rfl rfl j0 rfl) ?_
   refine L_pur (c := .bool false) rfl rfl .plain (fun _ _ hd => P_pick (b := (decide (y3 ≥ (0 : Int)))) rfl (pick_f j0 rfl)) ?_
   refine L_pur (c := .bool false) rfl rfl .plain (fun _ _ hd => P_assign rfl) ?_
   refine L_nil fun n4 m5 hall => ?_
   have hs := hall.1
   have hfr := hfr.ext hs
   clear hs hall
   refine EL_nil ?_
   obtain rfl := sinj h
   exact hQ _ _ ⟨n4, hfr, rfl⟩
 ·clear hx
  obtain ⟨n5, hfr, d3⟩ := hR
  refine E_ret ?_
  obtain rfl := sinj h
  exact end1 rfl rfl (show _ = .bool (o0) from d3) ⟨_, hfr, rfl⟩
/-- slices.ContainsFunc[[]griffe/api.LoomOrder,griffe/api.LoomOrder] -/
def f82 (x0 : List LoomOrder) (x1 : LoomOrder → Option Bool) : Option (Bool) :=
 (f97 x0 x1).bind fun y2 =>
 some ((decide (y2 ≥ (0 : Int))))
theorem en82 : Enters Try.prog 82 := enters_of Try.func82 (by kernel_rfl) rfl
theorem wk82 {gI : Gh} {wI : World} {x0 : List LoomOrder} {x1 : LoomOrder → Option Bool} {up0 : Value} (rp0 : RV gI.m wI x0 up0) {up1 : Value} (rp1 : FnV1 Try.prog x1 up1 gI wI) {r : Bool} (h : f82 x0 x1 = some r) : Fn Try.prog 82 #[up0, up1] gI wI (fun _ _ v => v = .bool (r)) := by
 unfold f82 at h
 refine fn_of_E Try.func82 rfl (Nat.le_of_ble_eq_true rfl) fun g0 hm hfr => ?_
 have rp0 : RV g0.m wI x0 up0 := hm ▸ rp0
 obtain ⟨ff1, fa1, fc1, rfl, fen1, fcl1⟩ := rp1
 show E _ 9 none _ _ _ _ _
 refine E_seq (E_region (EL_at (.bool false) rfl rfl ?_))
 refine EL_nil (thn_n (E_seq (E_region (EL_mw up0 rfl rfl ?_))))
 refine EL_mw ((.func (.func ff1) fa1 fc1)) rfl rfl ?_
 obtain ⟨y2, hy2, h⟩ := bsome h
 refine EL_do .plain rfl (D_call (g := g0) (vs := [up0, (.func (.func ff1) fa1 fc1)]) en97 (.cons rfl (.cons rfl .nil)) (wk97 rp0 (FnV1.ch ⟨_, _, _, rfl, fen1, fcl1⟩ hfr.ch) hy2) fun g1 w1_ v1 hs hr => ?_)
 have hfr := hfr.ext hs
 subst hr
 refine EL_in (.bool ((decide (y2 ≥ (0 : Int))))) rfl rfl rfl rfl ?_
 refine EL_at (.bool ((decide (y2 ≥ (0 : Int))))) rfl rfl ?_
 refine EL_nil (thn_n (E_ret ?_))
 obtain rfl := sinj h
 exact end1 rfl rfl (show _ = .bool ((decide (y2 ≥ (0 : Int)))) from rfl) ⟨_, hfr, rfl⟩
/-- griffe/loom.subsets -/
def f84 (x0 : Int) : Option (It Int) :=
 some ((fun σ cons s => f99 x0 σ cons s))
theorem en84 : Enters Try.prog 84 := enters_of Try.func84 (by kernel_rfl) rfl
theorem wk84 {gI : Gh} {wI : World} {x0 : Int}  {r : It Int} (h : f84 x0 = some r) : Fn Try.prog 84 #[.int .i64 (x0)] gI wI (fun m w v => ItV Try.prog (RA1 (α := Int)) (r) v m w) := by
 unfold f84 at h
 refine fn_of_E Try.func84 rfl (Nat.le_of_ble_eq_true rfl) fun g0 hm hfr => ?_
 show E _ 4 none _ _ _ _ _
 refine E_seq (E_region (EL_do .plain rfl (D_box (g := g0) rfl (RV_int.2 rfl) fun g1 w1 p1 hs q1 => ?_)))
 have hfr := hfr.ext hs
 refine EL_at (.nilFunc) rfl rfl ?_
 refine EL_nil (thn_n (E_seq (E_region (EL_pur (v := (.func (.func 99) #[] #[p1])) (P_makeFunc (capf_0_1 (show ev _ _ = p1 from rfl))) .plain rfl ?_))))
 refine EL_at ((.func (.func 99) #[] #[p1])) rfl rfl ?_
 refine EL_nil (thn_n (E_ret ?_))
 obtain rfl := sinj h
 exact end1 rfl rfl (show _ = (.func (.func 99) #[] #[p1]) from rfl) ⟨_, hfr, (show ItV Try.prog (RA1 (α := Int)) (fun σ cons s => f99 x0 σ cons s) ((.func (.func 99) #[] #[p1])) g1.m w1 from ⟨99, #[], #[p1], rfl, en99, fun g' w' hch σ cons s s' h => wk99  (q1.ch hch) h⟩)⟩
/-- cmp.Compare[int] -/
def f90 (x0 : Int) (x1 : Int) : Option (Int) :=
 (f102 x0).bind fun y2 =>
 (f102 x1).bind fun y4 =>
 jn (σ := Unit) (fun (_ : Unit) =>
  jn (σ := Unit) (fun (_ : Unit) =>
   jn (σ := Unit) (fun (_ : Unit) =>
    jn (σ := Unit) (fun (_ : Unit) =>
     some ((0 : Int))
     ) fun u3 =>
    bif (decide (x0 > x1)) then
     some ((1 : Int))
    else
     u3 ()
    ) fun z3 =>
   bif (decide (x0 < x1)) then
    some ((-1 : Int))
   else
    z3 ()
   ) fun k18 =>
  bif y4 then
   some ((1 : Int))
  else
   k18 ()
  ) fun c4 =>
 bif y2 then
  jn (σ := Unit) (fun (_ : Unit) =>
   some ((-1 : Int))
   ) fun d4 =>
  bif y4 then
   some ((0 : Int))
  else
   d4 ()
 else
  c4 ()
theorem en90 : Enters Try.prog 90 := enters_of Try.func90 (by kernel_rfl) rfl
theorem wk90 {gI : Gh} {wI : World} {x0 : Int} {x1 : Int}  {r : Int} (h : f90 x0 x1 = some r) : Fn Try.prog 90 #[.int .i64 (x0), .int .i64 (x1)] gI wI (fun _ _ v => v = .int .i64 (r)) := by
 unfold f90 at h
 refine fn_of_E Try.func90 rfl (Nat.le_of_ble_eq_true rfl) fun g0 hm hfr => ?_
 show E _ 20 none _ _ _ _ _
 refine E_seq (E_region (EL_at (.int .i64 (0)) rfl rfl ?_))
 refine EL_nil (thn_n (E_seq (E_region (EL_mw (.int .i64 (x0)) rfl rfl ?_))))
 obtain ⟨y2, hy2, h⟩ := bsome h
 refine EL_do .plain rfl (D_call (g := g0) (vs := [.int .i64 (x0)]) en102 (.cons rfl .nil) (wk102  hy2) fun g1 w1_ v1 hs hr => ?_)
 have hfr := hfr.ext hs
 subst hr
 refine EL_at (.bool (y2)) rfl rfl ?_
 refine EL_nil (thn_n (E_seq (E_region (EL_mw (.int .i64 (x1)) rfl rfl ?_))))
 obtain ⟨y4, p4, h⟩ := bsome h
 refine EL_do .plain rfl (D_call (g := g1) (vs := [.int .i64 (x1)]) en102 (.cons rfl .nil) (wk102  p4) fun g3 w3_ v3 hs hr => ?_)
 have hfr := hfr.ext hs
 subst hr
 refine EL_at (.bool (y4)) rfl rfl ?_
 refine EL_nil (thn_n (E_joinC h (fun (s : Unit) e w => ∃ (g : Gh) , Fr gI wI g w ∧ e 0 = .int .i64 (x0) ∧ e 1 = .int .i64 (x1) ∧ e 6 = .bool (y4)) (fun X10 c4 i4 h => ?_) ?_))
 ·refine E_seq (E_region (EL_mw (.bool (y2)) rfl rfl ?_))
  refine EL_nil (thn_n ?_)
  rcases csome h with ⟨j0, h⟩ | ⟨j0, h⟩
  ·refine E_ct j0 rfl ?_
   refine E_joinC h (fun (s : Unit) e w => ∃ (g : Gh) , Fr gI wI g w) (fun X13 d4 j4 h => ?_) ?_
   ·refine E_seq (E_region (EL_mw (.bool (y4)) rfl rfl ?_))
    refine EL_nil (thn_n ?_)
    rcases csome h with ⟨o0, h⟩ | ⟨o0, h⟩
    ·refine E_ct o0 rfl ?_
     refine E_seq (E_region (EL_at (.int .i64 (0)) rfl rfl ?_))
     refine EL_nil (thn_n (E_ret (thn_r ?_)))
     refine thn_r ?_
     obtain rfl := sinj h
     exact end1 rfl rfl (show _ = .int .i64 (0) from rfl) ⟨_, hfr, rfl⟩
    ·refine E_cf o0 rfl ?_
     exact E_skip (thn_n (j4 () _ _ ⟨g3, hfr⟩ h))
   ·rintro _ c5 m5 ⟨n5, hfr⟩ h
    refine E_seq (E_region (EL_at (.int .i64 (-1)) rfl rfl ?_))
    refine EL_nil (thn_n (E_ret (thn_r ?_)))
    obtain rfl := sinj h
    exact end1 rfl rfl (show _ = .int .i64 (-1) from rfl) ⟨_, hfr, rfl⟩
  ·refine E_cf j0 rfl ?_
   exact E_skip (thn_n (i4 () _ _ ⟨g3, hfr, rfl, rfl, rfl⟩ h))
 ·rintro _ d5 o5 ⟨u4, hfr, d3, i3, j3⟩ h
  refine E_joinC h (fun (s : Unit) e w => ∃ (g : Gh) , Fr gI wI g w ∧ e 0 = .int .i64 (x0) ∧ e 1 = .int .i64 (x1)) (fun X18 k18 m4 h => ?_) ?_
  ·refine E_seq (E_region (EL_mv j3 rfl ?_))
   refine EL_nil (thn_n ?_)
   rcases csome h with ⟨u0, h⟩ | ⟨u0, h⟩
   ·refine E_ct u0 rfl ?_
    refine E_seq (E_region (EL_at (.int .i64 (1)) rfl rfl ?_))
    refine EL_nil (thn_n (E_ret (thn_r ?_)))
    obtain rfl := sinj h
    exact end1 rfl rfl (show _ = .int .i64 (1) from rfl) ⟨_, hfr, rfl⟩
   ·refine E_cf u0 rfl ?_
    exact E_skip (thn_n (m4 () _ _ ⟨u4, hfr, d3, i3⟩ h))
  ·rintro _ i5 p5 ⟨x4, hfr, j2, z2⟩ h
   refine E_joinC h (fun (s : Unit) e w => ∃ (g : Gh) , Fr gI wI g w ∧ e 0 = .int .i64 (x0) ∧ e 1 = .int .i64 (x1)) (fun X22 z3 n4 h => ?_) ?_
   ·refine E_seq (E_region (EL_mv j2 rfl ?_))
    refine EL_mv z2 rfl ?_
    refine EL_in (.bool ((decide (x0 < x1)))) rfl rfl rfl rfl ?_
    refine EL_nil (thn_n ?_)
    rcases csome h with ⟨j1, h⟩ | ⟨j1, h⟩
    ·refine E_ct j1 rfl ?_
     refine E_seq (E_region (EL_at (.int .i64 (-1)) rfl rfl ?_))
     refine EL_nil (thn_n (E_ret (thn_r ?_)))
     obtain rfl := sinj h
     exact end1 rfl rfl (show _ = .int .i64 (-1) from rfl) ⟨_, hfr, rfl⟩
    ·refine E_cf j1 rfl ?_
     exact E_skip (thn_n (n4 () _ _ ⟨x4, hfr, j2, z2⟩ h))
   ·rintro _ j5 q5 ⟨z4, hfr, o3, p3⟩ h
    refine E_joinC h (fun (s : Unit) e w => ∃ (g : Gh) , Fr gI wI g w) (fun X26 u3 o4 h => ?_) ?_
    ·refine E_seq (E_region (EL_mv o3 rfl ?_))
     refine EL_mv p3 rfl ?_
     refine EL_in (.bool ((decide (x0 > x1)))) rfl rfl rfl rfl ?_
     refine EL_nil (thn_n ?_)
     rcases csome h with ⟨z1, h⟩ | ⟨z1, h⟩
     ·refine E_ct z1 rfl ?_
      refine E_seq (E_region (EL_at (.int .i64 (1)) rfl rfl ?_))
      refine EL_nil (thn_n (E_ret (thn_r ?_)))
      obtain rfl := sinj h
      exact end1 rfl rfl (show _ = .int .i64 (1) from rfl) ⟨_, hfr, rfl⟩
     ·refine E_cf z1 rfl ?_
      exact E_skip (thn_n (o4 () _ _ ⟨z4, hfr⟩ h))
    ·rintro _ l5 t5 ⟨u5, hfr⟩ h
     refine E_seq (E_region (EL_at (.int .i64 (0)) rfl rfl ?_))
     refine EL_nil (thn_n (E_ret ?_))
     obtain rfl := sinj h
     exact end1 rfl rfl (show _ = .int .i64 (0) from rfl) ⟨_, hfr, rfl⟩
/-- slices.ContainsFunc[[]int,int] -/
def f95 (x0 : List Int) (x1 : Int → Option Bool) : Option (Bool) :=
 (f104 x0 x1).bind fun y2 =>
 some ((decide (y2 ≥ (0 : Int))))
theorem en95 : Enters Try.prog 95 := enters_of Try.func95 (by kernel_rfl) rfl
theorem wk95 {gI : Gh} {wI : World} {x0 : List Int} {x1 : Int → Option Bool} {up0 : Value} (rp0 : RV gI.m wI x0 up0) {up1 : Value} (rp1 : FnV1 Try.prog x1 up1 gI wI) {r : Bool} (h : f95 x0 x1 = some r) : Fn Try.prog 95 #[up0, up1] gI wI (fun _ _ v => v = .bool (r)) := by
 unfold f95 at h
 refine fn_of_E Try.func95 rfl (Nat.le_of_ble_eq_true rfl) fun g0 hm hfr => ?_
 have rp0 : RV g0.m wI x0 up0 := hm ▸ rp0
 obtain ⟨ff1, fa1, fc1, rfl, fen1, fcl1⟩ := rp1
 show E _ 9 none _ _ _ _ _
 refine E_seq (E_region (EL_at (.bool false) rfl rfl ?_))
 refine EL_nil (thn_n (E_seq (E_region (EL_mw up0 rfl rfl ?_))))
 refine EL_mw ((.func (.func ff1) fa1 fc1)) rfl rfl ?_
 obtain ⟨y2, hy2, h⟩ := bsome h
 refine EL_do .plain rfl (D_call (g := g0) (vs := [up0, (.func (.func ff1) fa1 fc1)]) en104 (.cons rfl (.cons rfl .nil)) (wk104 rp0 (FnV1.ch ⟨_, _, _, rfl, fen1, fcl1⟩ hfr.ch) hy2) fun g1 w1_ v1 hs hr => ?_)
 have hfr := hfr.ext hs
 subst hr
 refine EL_in (.bool ((decide (y2 ≥ (0 : Int))))) rfl rfl rfl rfl ?_
 refine EL_at (.bool ((decide (y2 ≥ (0 : Int))))) rfl rfl ?_
 refine EL_nil (thn_n (E_ret ?_))
 obtain rfl := sinj h
 exact end1 rfl rfl (show _ = .bool ((decide (y2 ≥ (0 : Int)))) from rfl) ⟨_, hfr, rfl⟩
/-- (griffe/loom.mill).soonest -/
def f98 (x0 : LoomLoomMill) (x1 : Vector (Vector Int 7) 128) (x2 : Int) (x3 : Int) (x4 : Int) (x5 : List (Int × LoomRun)) : Option (Int) :=
 (shl64 (1 : Int) x3).bind fun y2 =>
 jn (σ := Unit) (fun (_ : Unit) =>
  Option.bind (α := Int) (
   lp (σ := Int × Int) (fun l8 (u0, j0) =>
    bif (decide (j0 < (((x0).orders).length : Int))) then
     Option.bind (α := Int) (
      jn (σ := Unit) (fun (_ : Unit) =>
       (idx (x1).toList (bit64 .andNot x2 y2)).bind fun m8 =>
       (idx (m8).toList j0).bind fun c4 =>
       Option.bind (α := Int) (
        (idx ((x0).orders) j0).bind fun t5 =>
        (idx ((x0).orders) x3).bind fun u5 =>
        bif ((t5).Chain != (u5).Chain) then
         some ((w64 (c4 + ((x0).LoomMill).Change)))
        else
         some (c4)
        ) fun o3 =>
       (f105 x0 x3 x4 o3 x5).bind fun y5 =>
       some ((min64 u0 y5))
       ) fun n8 =>
      Option.bind (α := Bool) (
       (shr64 (bit64 .andNot x2 y2) j0).bind fun d3 =>
       bif ((bit64 .and d3 (1 : Int)) == (0 : Int)) then
        some (true)
       else
        (idx (x1).toList (bit64 .andNot x2 y2)).bind fun o8 =>
        (idx (o8).toList j0).bind fun z5 =>
        some ((decide (z5 ≥ (1048576 : Int))))
       ) fun j2 =>
      bif j2 then
       some (u0)
      else
       n8 ()
      ) fun p3 =>
     l8 (p3, (w64 (j0 + (1 : Int))))
    else
     some (u0)
    ) big ((1048576 : Int), (0 : Int))
   ) fun z2 =>
  some (z2)
  ) fun k7 =>
 bif ((bit64 .andNot x2 y2) == (0 : Int)) then
  (f105 x0 x3 x4 ((0 : Int)) x5).bind fun y11 =>
  some (y11)
 else
  k7 ()
theorem en98 : Enters Try.prog 98 := enters_of Try.func98 (by kernel_rfl) rfl
theorem wk98 {gI : Gh} {wI : World} {x0 : LoomLoomMill} {x1 : Vector (Vector Int 7) 128} {x2 : Int} {x3 : Int} {x4 : Int} {x5 : List (Int × LoomRun)} {up0 : Value} (rp0 : RV gI.m wI x0 up0) {up1 : Value} (rp1 : PT gI.m wI x1 up1) {up5 : Value} (mq5 : MR (Value.int .i64) gI wI x5 up5) {r : Int} (h : f98 x0 x1 x2 x3 x4 x5 = some r) : Fn Try.prog 98 #[up0, up1, .int .i64 (x2), .int .i64 (x3), .int .i64 (x4), up5] gI wI (fun _ _ v => v = .int .i64 (r)) := by
 unfold f98 at h
 refine fn_of_E Try.func98 rfl (Nat.le_of_ble_eq_true rfl) fun g0 hm hfr => ?_
 have rp0 : RV g0.m wI x0 up0 := hm ▸ rp0
 have rp1 : PT g0.m wI x1 up1 := hm ▸ rp1
 have mq5 := MQ.enter mq5 hm hfr
 show E _ 84 none _ _ _ _ _
 refine E_seq (E_region (EL_do .plain rfl (D_box (g := g0) rfl rp0 fun g1 w1 p1 hs q1 => ?_)))
 have hfr := hfr.ext hs
 have rp1 := rp1.ext hs
 have mq5 := mq5.ext hs
 refine EL_at (.int .i64 (0)) rfl rfl ?_
 refine EL_nil (thn_n (E_seq (E_region (EL_mw (.int .i64 (x2)) rfl rfl ?_))))
 refine EL_mw (.int .i64 (x3)) rfl rfl ?_
 obtain ⟨y2, hy2, h⟩ := bsome h
 refine EL_pur (v := .int .i64 (y2)) (P_int rfl rfl (congrArg (Option.map (Value.int .i64)) hy2)) .plain rfl ?_
 refine EL_in (.int .i64 ((bit64 .andNot x2 y2))) rfl rfl rfl rfl ?_
 refine EL_at (.int .i64 ((bit64 .andNot x2 y2))) rfl rfl ?_
 refine EL_nil (thn_n (E_joinC h (fun (s : Unit) e w => ∃ (g : Gh) , Fr gI wI g w ∧ e 1 = up1 ∧ PT g.m w (x1 : Vector (Vector Int 7) 128) up1 ∧ e 3 = .int .i64 (x3) ∧ e 4 = .int .i64 (x4) ∧ e 5 = up5 ∧ MQ (Value.int .i64) wI.heap.size g w (x5 : List (Int × LoomRun)) up5 ∧ e 6 = p1 ∧ PT g.m w (x0 : LoomLoomMill) p1 ∧ e 13 = .int .i64 ((bit64 .andNot x2 y2))) (fun X7 k7 hk7 h => ?_) ?_))
 ·refine E_seq (E_region (EL_mw (.int .i64 ((bit64 .andNot x2 y2))) rfl rfl ?_))
  refine EL_in (.bool (((bit64 .andNot x2 y2) == (0 : Int)))) rfl rfl rfl rfl ?_
  refine EL_nil (thn_n ?_)
  rcases csome h with ⟨p8, h⟩ | ⟨p8, h⟩
  ·refine E_ct p8 rfl ?_
   refine E_seq (E_region (EL_do .plain rfl (D_load (g := g1) Try.isAgg96 Try.sizeOf96 rfl q1 fun v9 r9 => ?_)))
   refine EL_mw (.int .i64 (x3)) rfl rfl ?_
   refine EL_mw (.int .i64 (x4)) rfl rfl ?_
   refine EL_mw up5 rfl rfl ?_
   obtain ⟨y11, lA, h⟩ := bsome h
   refine EL_do .plain rfl (D_call (g := g1) (vs := [v9, .int .i64 (x3), .int .i64 (x4), .int .i64 (0), up5]) en105 (.cons rfl (.cons rfl (.cons rfl (.cons rfl (.cons rfl .nil))))) (wk105 r9 mq5.r lA) fun kC pB lC hs hr => ?_)
   have hfr := hfr.ext hs
   subst hr
   refine EL_at (.int .i64 (y11)) rfl rfl ?_
   refine EL_nil (thn_n (E_ret (thn_r ?_)))
   obtain rfl := sinj h
   exact end1 rfl rfl (show _ = .int .i64 (y11) from rfl) ⟨_, hfr, rfl⟩
  ·refine E_cf p8 rfl ?_
   exact E_skip (thn_n (hk7 () _ _ ⟨g1, hfr, rfl, rp1, rfl, rfl, rfl, mq5, rfl, q1, rfl⟩ h))
 ·rintro _ qB mC ⟨kA, hfr, p9, q9, t9, u9, x9, y9, n7, b6, q8⟩ h
  refine E_seq (E_region (EL_at (.int .i64 (1048576)) rfl rfl ?_))
  refine EL_nil (thn_n ?_)
  obtain ⟨z2, hx, h⟩ := bsome h
  refine E_join (fun e w => ∃ (g : Gh) , Fr gI wI g w ∧ e 14 = .int .i64 (z2)) (fun Q' hQ => ?_) (fun iB rB hR => ?_)
  ·replace h := hx
   clear hx
   refine E_seq (E_region (EL_pur (v := fPtr p1 2) (P_fieldAddr at_96_1 n7 (PT.ptr b6)) .plain rfl ?_))
   have mA := PT_field (part_LoomLoomMill_1).1 b6
   refine EL_do .plain rfl (D_load (g := kA) Try.isAgg25 Try.sizeOf25 rfl mA fun sB nA => ?_)
   refine EL_pur (v := .int .i64 (((x0).orders).length : Int)) (P_len Try.underlying25 rfl nA) .plain rfl ?_
   refine EL_mw (.int .i64 (0)) rfl rfl ?_
   refine EL_nil (thn_n (E_block ?_))
   refine E_lp h (fun (s : Int × Int) e w => ∃ (g : Gh) , Fr gI wI g w ∧ e 1 = up1 ∧ PT g.m w (x1 : Vector (Vector Int 7) 128) up1 ∧ e 3 = .int .i64 (x3) ∧ e 4 = .int .i64 (x4) ∧ e 5 = up5 ∧ MQ (Value.int .i64) wI.heap.size g w (x5 : List (Int × LoomRun)) up5 ∧ e 6 = p1 ∧ PT g.m w (x0 : LoomLoomMill) p1 ∧ e 13 = .int .i64 ((bit64 .andNot x2 y2)) ∧ e 14 = .int .i64 (s.1) ∧ e 30 = .int .i64 ((((x0).orders).length : Int)) ∧ e 31 = .int .i64 (s.2)) ⟨kA, hfr, p9, q9, t9, u9, x9, y9, n7, b6, q8, rfl, rfl, rfl⟩ (fun X309 l8 z9 => ?_)
   rintro ⟨u0, j0⟩ jB tB ⟨c6, hfr, p4, i3, k6, l6, m6, n6, o6, p6, u3, m4, n4, z3⟩ h
   refine E_seq (E_region (EL_pur (v := .bool ((decide (j0 < (((x0).orders).length : Int))))) (P_int z3 n4 rfl) .plain rfl ?_))
   refine EL_nil (thn_n (E_seq ?_))
   rcases csome h with ⟨d6, h⟩ | ⟨d6, h⟩
   ·refine E_ct d6 rfl ?_
    refine E_skip (thn_n ?_)
    obtain ⟨p3, hx, h⟩ := bsome h
    refine E_join (fun e w => ∃ (g : Gh) , Fr gI wI g w ∧ e 1 = up1 ∧ PT g.m w (x1 : Vector (Vector Int 7) 128) up1 ∧ e 3 = .int .i64 (x3) ∧ e 4 = .int .i64 (x4) ∧ e 5 = up5 ∧ MQ (Value.int .i64) wI.heap.size g w (x5 : List (Int × LoomRun)) up5 ∧ e 6 = p1 ∧ PT g.m w (x0 : LoomLoomMill) p1 ∧ e 13 = .int .i64 ((bit64 .andNot x2 y2)) ∧ e 14 = .int .i64 (p3) ∧ e 30 = .int .i64 ((((x0).orders).length : Int)) ∧ e 31 = .int .i64 (j0)) (fun Q' hQ => ?_) (fun kB uB hR => ?_)
    ·replace h := hx
     clear hx
     refine E_block ?_
     refine E_seq (E_region (EL_mv z3 rfl ?_))
     refine EL_at (.int .i64 (j0)) rfl rfl ?_
     refine EL_nil (thn_n (E_joinC h (fun (s : Unit) e w => ∃ (g : Gh) , Fr gI wI g w ∧ e 1 = up1 ∧ PT g.m w (x1 : Vector (Vector Int 7) 128) up1 ∧ e 3 = .int .i64 (x3) ∧ e 4 = .int .i64 (x4) ∧ e 5 = up5 ∧ MQ (Value.int .i64) wI.heap.size g w (x5 : List (Int × LoomRun)) up5 ∧ e 6 = p1 ∧ PT g.m w (x0 : LoomLoomMill) p1 ∧ e 13 = .int .i64 ((bit64 .andNot x2 y2)) ∧ e 14 = .int .i64 (u0) ∧ e 15 = .int .i64 (j0) ∧ e 30 = .int .i64 ((((x0).orders).length : Int)) ∧ e 31 = .int .i64 (j0)) (fun X474 n8 bA h => ?_) ?_))
     ·obtain ⟨j2, hx, h⟩ := bsome h
      refine E_join (fun e w => ∃ (g : Gh) , Fr gI wI g w ∧ e 1 = up1 ∧ PT g.m w (x1 : Vector (Vector Int 7) 128) up1 ∧ e 3 = .int .i64 (x3) ∧ e 4 = .int .i64 (x4) ∧ e 5 = up5 ∧ MQ (Value.int .i64) wI.heap.size g w (x5 : List (Int × LoomRun)) up5 ∧ e 6 = p1 ∧ PT g.m w (x0 : LoomLoomMill) p1 ∧ e 13 = .int .i64 ((bit64 .andNot x2 y2)) ∧ e 14 = .int .i64 (u0) ∧ e 15 = .int .i64 (j0) ∧ e 30 = .int .i64 ((((x0).orders).length : Int)) ∧ e 31 = .int .i64 (j0) ∧ e 48 = .bool (j2)) (fun Q' hQ => ?_) (fun lB vB hR => ?_)
      ·replace h := hx
       clear hx
       refine E_region (EL_mv u3 rfl ?_)
       refine EL_mw (.int .i64 (j0)) rfl rfl ?_
       obtain ⟨d3, cA, h⟩ := bsome h
       refine EL_pur (v := .int .i64 (d3)) (P_int rfl rfl (congrArg (Option.map (Value.int .i64)) cA)) .plain rfl ?_
       refine EL_in (.int .i64 ((bit64 .and d3 (1 : Int)))) rfl rfl rfl rfl ?_
       refine EL_in (.bool (((bit64 .and d3 (1 : Int)) == (0 : Int)))) rfl rfl rfl rfl ?_
       refine EL_mw (.bool (((bit64 .and d3 (1 : Int)) == (0 : Int)))) rfl rfl ?_
       rcases csome h with ⟨o0, h⟩ | ⟨o0, h⟩
       ·refine EL_skip (.no2 rfl rfl o0 rfl) rfl ?_
        refine EL_skip (.no2 rfl rfl o0 rfl) rfl ?_
        refine EL_skip (.no2 rfl rfl o0 rfl) rfl ?_
        refine EL_skip (.no2 rfl rfl o0 rfl) rfl ?_
        refine EL_skip (.no2 rfl rfl o0 rfl) rfl ?_
        refine EL_skip (.no2 rfl rfl o0 rfl) rfl ?_
        refine EL_skip (.no2 rfl rfl o0 rfl) rfl ?_
        refine EL_skip (.no2 rfl rfl o0 rfl) rfl ?_
        refine EL_pur (v := .bool true) (P_pick (b := ((bit64 .and d3 (1 : Int)) == (0 : Int))) rfl (pick_t o0 rfl)) .plain rfl ?_
        refine EL_nil ?_
        obtain rfl := sinj h
        exact hQ _ _ ⟨c6, hfr, p4, i3, k6, l6, m6, n6, o6, p6, u3, m4, rfl, n4, z3, rfl⟩
       ·refine EL_pur (v := up1) (P_move p4) (.yes2 rfl rfl o0) rfl ?_
        refine EL_pur (v := .int .i64 ((bit64 .andNot x2 y2))) (P_move u3) (.yes2 rfl rfl o0) rfl ?_
        refine EL_pur (v := .int .i64 (j0)) (P_move rfl) (.yes2 rfl rfl o0) rfl ?_
        obtain ⟨pb485, po485, pe485⟩ := PT.ptr i3
        refine EL_pur (v := up1) (P_nilCk rfl pe485) (.yes2 rfl rfl o0) rfl ?_
        obtain ⟨o8, o7, h⟩ := bsome h
        refine EL_pur (v := fPtr up1 (((bit64 .andNot x2 y2) : Int).toNat * 7)) (P_indexAddrA (α := Vector Int 7) Try.underlying150 Try.sizeOf148 rfl (PT.ptr i3) rfl o7) (.yes2 rfl rfl o0) rfl ?_
        have r8 := PT_idxA i3 o7
        obtain ⟨z5, p7, h⟩ := bsome h
        refine EL_pur (v := fPtr (fPtr up1 (((bit64 .andNot x2 y2) : Int).toNat * 7)) ((j0 : Int).toNat * 1)) (P_indexAddrA (α := Int) Try.underlying148 Try.sizeOf3 rfl (PT.ptr r8) rfl p7) (.yes2 rfl rfl o0) rfl ?_
        have oA := PT_idxA r8 p7
        refine EL_do (.yes2 rfl rfl o0) rfl (D_load (g := c6) Try.isAgg3 Try.sizeOf3 rfl oA fun xB pA => ?_)
        obtain rfl := RV_int.1 pA
        refine EL_pur (v := .bool ((decide (z5 ≥ (1048576 : Int))))) (P_int rfl rfl rfl) (.yes2 rfl rfl o0) rfl ?_
        refine EL_pur (v := .bool ((decide (z5 ≥ (1048576 : Int))))) (P_pick (b := ((bit64 .and d3 (1 : Int)) == (0 : Int))) rfl (pick_f o0 rfl)) .plain rfl ?_
        refine EL_nil ?_
        obtain rfl := sinj h
        exact hQ _ _ ⟨c6, hfr, p4, i3, k6, l6, m6, n6, o6, p6, u3, m4, rfl, n4, z3, rfl⟩
      ·clear hx
       obtain ⟨t8, hfr, q6, r6, t6, u6, v6, x6, y6, z6, d5, i5, x7, j5, l5, m5⟩ := hR
       rcases csome h with ⟨i6, h⟩ | ⟨i6, h⟩
       ·refine E_cond_true (Eq.trans (show ev _ _ = .bool (j2) from m5) (congrArg Value.bool i6)) ?_
        refine E_exit ?_
        refine thn_e ?_
        refine blk_hit ?_
        obtain rfl := sinj h
        exact hQ _ _ ⟨t8, hfr, q6, r6, t6, u6, v6, x6, y6, z6, d5, i5, j5, l5⟩
       ·refine E_cond_false (Eq.trans (show ev _ _ = .bool (j2) from m5) (congrArg Value.bool i6)) ?_
        exact E_skip (thn_n (bA () _ _ ⟨t8, hfr, q6, r6, t6, u6, v6, x6, y6, z6, d5, i5, x7, j5, l5⟩ h))
     ·rintro _ mB yB ⟨v8, hfr, u4, z1, z4, a7, b7, d4, j3, j1, o4, n5, o5, p5, q5⟩ h
      refine E_seq (E_region (EL_mv u4 rfl ?_))
      refine EL_mv o4 rfl ?_
      refine EL_mv o5 rfl ?_
      obtain ⟨pb494, po494, pe494⟩ := PT.ptr z1
      refine EL_pur (v := up1) (P_nilCk rfl pe494) .plain rfl ?_
      obtain ⟨m8, q7, h⟩ := bsome h
      refine EL_pur (v := fPtr up1 (((bit64 .andNot x2 y2) : Int).toNat * 7)) (P_indexAddrA (α := Vector Int 7) Try.underlying150 Try.sizeOf148 rfl (PT.ptr z1) rfl q7) .plain rfl ?_
      have x8 := PT_idxA z1 q7
      obtain ⟨c4, t7, h⟩ := bsome h
      refine EL_pur (v := fPtr (fPtr up1 (((bit64 .andNot x2 y2) : Int).toNat * 7)) ((j0 : Int).toNat * 1)) (P_indexAddrA (α := Int) Try.underlying148 Try.sizeOf3 rfl (PT.ptr x8) rfl t7) .plain rfl ?_
      have qA := PT_idxA x8 t7
      refine EL_do .plain rfl (D_load (g := v8) Try.isAgg3 Try.sizeOf3 rfl qA fun zB rA => ?_)
      obtain rfl := RV_int.1 rA
      refine EL_at (.int .i64 (c4)) rfl rfl ?_
      refine EL_nil (thn_n ?_)
      obtain ⟨o3, hx, h⟩ := bsome h
      refine E_join (fun e w => ∃ (g : Gh) , Fr gI wI g w ∧ e 1 = up1 ∧ PT g.m w (x1 : Vector (Vector Int 7) 128) up1 ∧ e 3 = .int .i64 (x3) ∧ e 4 = .int .i64 (x4) ∧ e 5 = up5 ∧ MQ (Value.int .i64) wI.heap.size g w (x5 : List (Int × LoomRun)) up5 ∧ e 6 = p1 ∧ PT g.m w (x0 : LoomLoomMill) p1 ∧ e 13 = .int .i64 ((bit64 .andNot x2 y2)) ∧ e 14 = .int .i64 (u0) ∧ e 16 = .int .i64 (o3) ∧ e 30 = .int .i64 ((((x0).orders).length : Int)) ∧ e 31 = .int .i64 (j0)) (fun Q' hQ => ?_) (fun nB aC hR => ?_)
      ·replace h := hx
       clear hx
       refine E_seq ?_
       have sA := PT_field (part_LoomLoomMill_1).1 j1
       refine L_load (x := .tmp 56) Try.isAgg25 Try.sizeOf25 sA fun i7 y8 dA => ?_
       obtain ⟨t5, u7, h⟩ := bsome h
       have z8 := PT_idx y8 u7
       have tA := PT_field (part_LoomOrder_1).1 z8
       refine L_load (x := .tmp 60) Try.isAgg3 Try.sizeOf3 tA fun bC uA eA => ?_
       obtain rfl := RV_int.1 uA
       have vA := PT_field (part_LoomLoomMill_1).1 j1
       refine L_load (x := .tmp 62) Try.isAgg25 Try.sizeOf25 vA fun j7 a9 gA => ?_
       obtain ⟨u5, v7, h⟩ := bsome h
       have b9 := PT_idx a9 v7
       have xA := PT_field (part_LoomOrder_1).1 b9
       refine L_load (x := .tmp 66) Try.isAgg3 Try.sizeOf3 xA fun cC yA iA => ?_
       obtain rfl := RV_int.1 yA
       refine E_drawL (g := v8) (n := 13) [] [0, 1, 2, 3, 4, 5, 6, 7, 8, 9, 10, 11, 12] rfl mixed (by kernel_rfl) trivial ?_
       refine L_pur (c := fPtr p1 2) rfl rfl .plain (fun _ _ hd => P_fieldAddr at_96_1 j3 (PT.ptr j1)) ?_
       refine L_ld (c := i7) rfl rfl .plain (fun _ _ h => h.ch) dA rfl ?_
       refine L_pur (c := .int .i64 (j0)) rfl rfl .plain (fun _ _ hd => P_move o5) ?_
       refine L_pur (c := ePtr i7 j0 5) rfl rfl .plain (fun _ _ hd => P_indexAddr (α := LoomOrder) Try.underlying25 Try.sizeOf82 rfl y8 rfl u7) ?_
       refine L_pur (c := fPtr (ePtr i7 j0 5) 1) rfl rfl .plain (fun _ _ hd => P_fieldAddr at_82_1 rfl (PT.ptr z8)) ?_
       refine L_ld (c := .int .i64 ((t5).Chain)) rfl rfl .plain (fun _ _ h => h.ch) eA rfl ?_
       refine L_pur (c := fPtr p1 2) rfl rfl .plain (fun _ _ hd => P_fieldAddr at_96_1 j3 (PT.ptr j1)) ?_
       refine L_ld (c := j7) rfl rfl .plain (fun _ _ h => h.ch) gA rfl ?_
       refine L_pur (c := .int .i64 (x3)) rfl rfl .plain (fun _ _ hd => P_move z4) ?_
       refine L_pur (c := ePtr j7 x3 5) rfl rfl .plain (fun _ _ hd => P_indexAddr (α := LoomOrder) Try.underlying25 Try.sizeOf82 rfl a9 rfl v7) ?_
       refine L_pur (c := fPtr (ePtr j7 x3 5) 1) rfl rfl .plain (fun _ _ hd => P_fieldAddr at_82_1 rfl (PT.ptr b9)) ?_
       refine L_ld (c := .int .i64 ((u5).Chain)) rfl rfl .plain (fun _ _ h => h.ch) iA rfl ?_
       refine L_pur (c := .bool (((t5).Chain != (u5).Chain))) rfl rfl .plain (fun _ _ hd => P_int rfl rfl rfl) ?_
       refine L_nil fun m7 dC hall => ?_
       have hs := hall.1
       have hfr := hfr.ext hs
       have z1 := z1.ext hs
       have d4 := d4.ext hs
       have j1 := j1.ext hs
       clear hs hall
       refine EL_nil (thn_n ?_)
       rcases csome h with ⟨j6, h⟩ | ⟨j6, h⟩
       ·refine E_ct j6 rfl ?_
        refine E_region (EL_mw (.int .i64 (c4)) rfl rfl ?_)
        refine EL_pur (v := fPtr p1 0) (P_fieldAddr at_96_0 j3 (PT.ptr j1)) .plain rfl ?_
        have c9 := PT_field (part_LoomLoomMill_0).1 j1
        refine EL_pur (v := fPtr (fPtr p1 0) 1) (P_fieldAddr at_24_1 rfl (PT.ptr c9)) .plain rfl ?_
        have zA := PT_field (part_LoomMill_1).1 c9
        refine EL_do .plain rfl (D_load (g := m7) Try.isAgg3 Try.sizeOf3 rfl zA fun eC aB => ?_)
        obtain rfl := RV_int.1 aB
        refine EL_in (.int .i64 ((w64 (c4 + ((x0).LoomMill).Change)))) rfl rfl rfl rfl ?_
        refine EL_at (.int .i64 ((w64 (c4 + ((x0).LoomMill).Change)))) rfl rfl ?_
        refine EL_nil ?_
        obtain rfl := sinj h
        exact hQ _ _ ⟨m7, hfr, u4, z1, z4, a7, b7, d4, j3, j1, o4, n5, rfl, p5, q5⟩
       ·refine E_cf j6 rfl ?_
        refine E_skip ?_
        obtain rfl := sinj h
        exact hQ _ _ ⟨m7, hfr, u4, z1, z4, a7, b7, d4, j3, j1, o4, n5, rfl, p5, q5⟩
      ·clear hx
       obtain ⟨d9, hfr, e9, c5, c7, d7, e7, i4, g7, j4, y7, a8, b8, c8, d8⟩ := hR
       refine E_region (EL_mv a8 rfl ?_)
       refine EL_do .plain rfl (D_load (g := d9) Try.isAgg96 Try.sizeOf96 g7 j4 fun bB cB => ?_)
       refine EL_mv c7 rfl ?_
       refine EL_mv d7 rfl ?_
       refine EL_mv b8 rfl ?_
       refine EL_mv e7 rfl ?_
       obtain ⟨y5, jA, h⟩ := bsome h
       refine EL_do .plain rfl (D_call (g := d9) (vs := [bB, .int .i64 (x3), .int .i64 (x4), .int .i64 (o3), up5]) en105 (.cons rfl (.cons rfl (.cons rfl (.cons rfl (.cons rfl .nil))))) (wk105 cB i4.r jA) fun dB oB iC hs hr => ?_)
       have hfr := hfr.ext hs
       have c5 := c5.ext hs
       have i4 := i4.ext hs
       have j4 := j4.ext hs
       subst hr
       refine EL_pur (v := .int .i64 (min64 u0 y5)) (P_min rfl rfl) .plain rfl ?_
       refine EL_at (.int .i64 (min64 u0 y5)) rfl rfl ?_
       refine EL_nil (blk_n ?_)
       obtain rfl := sinj h
       exact hQ _ _ ⟨dB, hfr, e9, c5, c7, d7, e7, i4, g7, j4, y7, rfl, c8, d8⟩
    ·clear hx
     obtain ⟨eB, hfr, g9, i9, j9, k9, l9, m9, n9, o9, e8, g8, i8, j8⟩ := hR
     refine E_region (EL_in (.int .i64 ((w64 (j0 + (1 : Int))))) j8 rfl rfl rfl ?_)
     refine EL_mw (.int .i64 ((w64 (j0 + (1 : Int))))) rfl rfl ?_
     exact EL_nil (thn_n (z9 (p3, (w64 (j0 + (1 : Int)))) _ _ ⟨eB, hfr, g9, i9, j9, k9, l9, m9, n9, o9, e8, g8, i8, rfl⟩ h))
   ·refine E_cf d6 rfl ?_
    refine E_exit ?_
    refine thn_e ?_
    refine thn_e ?_
    refine blk_hit ?_
    obtain rfl := sinj h
    exact hQ _ _ ⟨c6, hfr, m4⟩
  ·clear hx
   obtain ⟨jC, hfr, k8⟩ := hR
   refine E_seq (E_region (EL_mv k8 rfl ?_))
   refine EL_at (.int .i64 (z2)) rfl rfl ?_
   refine EL_nil (thn_n (E_ret ?_))
   obtain rfl := sinj h
   exact end1 rfl rfl (show _ = .int .i64 (z2) from rfl) ⟨_, hfr, rfl⟩
/-- slices.pdqsortCmpFunc[int] -/
def f100 : Nat → (List Int) → (Int) → (Int) → (Int) → (Int → Int → Option Int) → Option ((List Int))
 | 0, _, _, _, _, _ => none
 | n + 1, x0, x1, x2, x3, x4 =>
  lp (σ := (List Int) × Int × Int × Int × Bool × Bool) (fun k1 (j2, j0, o0, j1, u0, z1) =>
   jn (σ := (List Int)) (fun z2 =>
    jn (σ := Unit) (fun (_ : Unit) =>
     Option.bind (α := Int) (
      bif (!u0) then
       none
      else
       some (j1)
      ) fun u3 =>
     none
     ) fun d6 =>
    bif (j1 == (0 : Int)) then
     none
    else
     d6 ()
    ) fun k6 =>
   bif (decide ((w64 (o0 - j0)) ≤ (12 : Int))) then
    (f106 j2 j0 o0 x4).bind fun y9 =>
    some (y9)
   else
    k6 (j2)
   ) big (x0, x1, x2, x3, true, true)
theorem en100 : Enters Try.prog 100 := enters_of Try.func100 (by kernel_rfl) rfl
theorem wk100 (n : Nat) : ∀ {iI : Nat} {gI : Gh} {wI : World} {x0 : List Int} {x1 : Int} {x2 : Int} {x3 : Int} {x4 : Int → Int → Option Int} {up0 : Value} (mp0 : OM iI gI wI 3 x0 up0) {up4 : Value} (rp4 : FnV2 Try.prog x4 up4 gI wI) {r : (List Int)} (h : f100 n x0 x1 x2 x3 x4 = some r), FnM Try.prog 100 #[up0, .int .i64 (x1), .int .i64 (x2), .int .i64 (x3), up4] iI gI wI (fun g w v => v = .tuple #[] ∧ OM iI g w 3 r up0) := by
 induction n with
 | zero => intros; rename_i h; cases h
 | succ n ih =>
 intro iI gI wI x0 x1 x2 x3 x4 up0 mp0 up4 rp4 r h
 simp only [f100] at h
 refine fnM_of_E Try.func100 rfl (Nat.le_of_ble_eq_true rfl) fun g0 hm hfr => ?_
 have o5 := mp0
 replace mp0 := mp0.enter
 rw [← hm] at mp0
 replace hm : g0.m = gI.m := by rw [hm]
 obtain ⟨ff4, fa4, fc4, rfl, fen4, fcl4⟩ := rp4
 show E _ 148 none _ _ _ _ _
 refine E_seq (E_region (EL_at (.bool true) rfl rfl ?_))
 refine EL_nil (thn_n (E_seq (E_region (EL_at (.bool true) rfl rfl ?_))))
 refine EL_nil (thn_n (E_block ?_))
 refine E_lp h (fun (s : (List Int) × Int × Int × Int × Bool × Bool) e w => ∃ (g : Gh) , FrM iI gI wI g w ∧ e 0 = up0 ∧ OM 1 g w 3 (s.1 : List Int) up0 ∧ e 1 = .int .i64 (s.2.1) ∧ e 2 = .int .i64 (s.2.2.1) ∧ e 3 = .int .i64 (s.2.2.2.1) ∧ e 4 = (.func (.func ff4) fa4 fc4) ∧ e 10 = .bool (s.2.2.2.2.1) ∧ e 11 = .bool (s.2.2.2.2.2)) ⟨g0, hfr, rfl, mp0, rfl, rfl, rfl, rfl, rfl, rfl⟩ (fun X1 k1 hk1 => ?_)
 rintro ⟨j2, j0, o0, j1, u0, z1⟩ y6 w2 ⟨g2, hfr, u4, z4, i3, j3, i6, c5, p5, q5⟩ h
 refine E_block ?_
 refine E_seq (E_region (EL_mv j3 rfl ?_))
 refine EL_mv i3 rfl ?_
 refine EL_in (.int .i64 ((w64 (o0 - j0)))) rfl rfl rfl rfl ?_
 refine EL_at (.int .i64 ((w64 (o0 - j0)))) rfl rfl ?_
 refine EL_nil (thn_n (E_joinC h (fun (s : (List Int)) e w => ∃ (g : Gh) , FrM iI gI wI g w ∧ e 0 = up0 ∧ OM 1 g w 3 (s : List Int) up0 ∧ e 1 = .int .i64 (j0) ∧ e 2 = .int .i64 (o0) ∧ e 3 = .int .i64 (j1) ∧ e 4 = (.func (.func ff4) fa4 fc4) ∧ e 10 = .bool (u0) ∧ e 11 = .bool (z1) ∧ e 12 = .int .i64 ((w64 (o0 - j0)))) (fun X6 k6 hk6 h => ?_) ?_))
 ·refine E_seq (E_region (EL_mw (.int .i64 ((w64 (o0 - j0)))) rfl rfl ?_))
  refine EL_in (.bool ((decide ((w64 (o0 - j0)) ≤ (12 : Int))))) rfl rfl rfl rfl ?_
  refine EL_nil (thn_n ?_)
  rcases csome h with ⟨d5, h⟩ | ⟨d5, h⟩
  ·refine E_ct d5 rfl ?_
   refine E_seq (E_region (EL_mv u4 rfl ?_))
   refine EL_mv i3 rfl ?_
   refine EL_mv j3 rfl ?_
   refine EL_mv c5 rfl ?_
   obtain ⟨y9, l6, h⟩ := bsome h
   refine EL_do .plain rfl (D_callM (g := g2) (i := 1) (vs := [up0, .int .i64 (j0), .int .i64 (o0), (.func (.func ff4) fa4 fc4)]) en106 (.cons rfl (.cons rfl (.cons rfl (.cons rfl .nil)))) (wk106 z4 (FnV2.ch ⟨_, _, _, rfl, fen4, fcl4⟩ hfr.ch) l6) fun g8 w8_ v8 hs hr => ?_)
   obtain ⟨hrv, b8⟩ := hr
   have hfr := hfr.stp hs
   subst hrv
   refine EL_nil (thn_n (E_ret (thn_r ?_)))
   refine blk_r ?_
   refine thn_r ?_
   refine blk_r ?_
   obtain rfl := sinj h
   exact end0 rfl rfl ⟨_, hfr, rfl, o5.back b8⟩
  ·refine E_cf d5 rfl ?_
   exact E_skip (thn_n (hk6 (j2) _ _ ⟨g2, hfr, u4, z4, i3, j3, i6, c5, p5, q5, rfl⟩ h))
 ·rintro z2 u6 z6 ⟨m6, hfr, z3, t5, c4, d4, i4, j4, i5, j5, l5⟩ h
  refine E_joinC h (fun (s : Unit) e w => ∃ (g : Gh) , FrM iI gI wI g w ∧ e 0 = up0 ∧ OM 1 g w 3 (z2 : List Int) up0 ∧ e 1 = .int .i64 (j0) ∧ e 2 = .int .i64 (o0) ∧ e 3 = .int .i64 (j1) ∧ e 4 = (.func (.func ff4) fa4 fc4) ∧ e 10 = .bool (u0) ∧ e 11 = .bool (z1) ∧ e 12 = .int .i64 ((w64 (o0 - j0)))) (fun X12 d6 j6 h => ?_) ?_
  ·refine E_seq (E_region (EL_mv i4 rfl ?_))
   refine EL_in (.bool ((j1 == (0 : Int)))) rfl rfl rfl rfl ?_
   refine EL_nil (thn_n ?_)
   rcases csome h with ⟨o3, h⟩ | ⟨o3, h⟩
   ·refine E_ct o3 rfl ?_
    refine E_seq (E_region (EL_mv z3 rfl ?_))
    refine EL_mv c4 rfl ?_
    refine EL_mv d4 rfl ?_
    refine EL_mv j4 rfl ?_
    cases h
   ·refine E_cf o3 rfl ?_
    exact E_skip (thn_n (j6 () _ _ ⟨m6, hfr, z3, t5, c4, d4, i4, j4, i5, j5, l5⟩ h))
  ·rintro _ v6 a7 ⟨n6, hfr, m4, u5, n4, o4, x5, p4, d3, m5, n5⟩ h
   obtain ⟨u3, hx, h⟩ := bsome h
   refine E_join (fun e w => ∃ (g : Gh) , FrM iI gI wI g w ∧ e 0 = up0 ∧ OM 1 g w 3 (z2 : List Int) up0 ∧ e 1 = .int .i64 (j0) ∧ e 2 = .int .i64 (o0) ∧ e 3 = .int .i64 (u3) ∧ e 4 = (.func (.func ff4) fa4 fc4) ∧ e 10 = .bool (u0) ∧ e 11 = .bool (z1) ∧ e 12 = .int .i64 ((w64 (o0 - j0)))) (fun Q' hQ => ?_) (fun x6 b7 hR => ?_)
   ·replace h := hx
    clear hx
    refine E_seq (E_region (EL_mv d3 rfl ?_))
    refine EL_pur (v := .bool (!u0)) (P_not rfl) .plain rfl ?_
    refine EL_nil (thn_n ?_)
    rcases csome h with ⟨p3, h⟩ | ⟨p3, h⟩
    ·refine E_ct p3 rfl ?_
     refine E_seq (E_region (EL_mv m4 rfl ?_))
     refine EL_mv n4 rfl ?_
     refine EL_mv o4 rfl ?_
     refine EL_mv p4 rfl ?_
     cases h
    ·refine E_cf p3 rfl ?_
     refine E_skip ?_
     obtain rfl := sinj h
     exact hQ _ _ ⟨n6, hfr, m4, u5, n4, o4, x5, p4, d3, m5, n5⟩
   ·clear hx
    obtain ⟨c7, hfr, y5, r6, z5, b6, t6, c6, o6, p6, q6⟩ := hR
    refine E_seq (E_region (EL_mv y5 rfl ?_))
    refine EL_mv z5 rfl ?_
    refine EL_mv b6 rfl ?_
    refine EL_mv c6 rfl ?_
    cases h
end Go.Proofs.Ytnfjhdagbknlbaa
