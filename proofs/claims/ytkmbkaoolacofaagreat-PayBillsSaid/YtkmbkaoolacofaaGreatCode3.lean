import Derived.Test.YtkmbkaoolacofaaGreatCode2
set_option maxRecDepth 8000
set_option maxHeartbeats 4000000
namespace Go.Proofs.YtkmbkaoolacofaaGreat
open Go.RowKit
def f21 (x0 : PayList) (x1 : PayPiece) : Option (Int) :=
 jn (σ := Unit) (fun _ =>
  jn (σ := Unit) (fun _ =>
   jn (σ := Unit) (fun _ =>
    some ((0 : Int))
    ) fun q8 =>
   lp (σ := Int) (fun r8 o0 =>
    jn (σ := Unit) (fun _ =>
     jn (σ := Unit) (fun _ =>
      r8 ((w64 (o0 + (1 : Int))))
      ) fun t8 =>
     (idx ((x1).Extras) o0).bind fun y6 =>
     (idx ((x1).Extras) (w64 (o0 - (1 : Int)))).bind fun a7 =>
     bif (decide (y6 ≤ a7)) then
      some ((4 : Int))
     else
      t8 ()
     ) fun v8 =>
    bif (decide (o0 < (((x1).Extras).length : Int))) then
     v8 ()
    else
     q8 ()
    ) big ((1 : Int))
   ) fun x8 =>
  lp (σ := Int) (fun y8 u0 =>
   jn (σ := Unit) (fun _ =>
    jn (σ := Unit) (fun _ =>
     y8 ((w64 (u0 + (1 : Int))))
     ) fun a9 =>
    (idx ((x1).Extras) u0).bind fun b7 =>
    (f25 b7 ((0 : Int)) ((w64 ((((x0).Extras).length : Int) - (1 : Int))))).bind fun l5 =>
    bif (!l5) then
     some ((7 : Int))
    else
     a9 ()
    ) fun d9 =>
   bif (decide (u0 < (((x1).Extras).length : Int))) then
    d9 ()
   else
    x8 ()
   ) big ((0 : Int))
  ) fun jC =>
 Option.bind (α := Bool) (
  (f25 ((x1).Weaver) ((0 : Int)) ((50 : Int))).bind fun x6 =>
  bif (!x6) then
   some (true)
  else
   (f25 ((x1).Dense) ((0 : Int)) ((1000 : Int))).bind fun q5 =>
   bif (!q5) then
    some (true)
   else
    (f25 ((x1).Picks) ((0 : Int)) ((1000000 : Int))).bind fun t5 =>
    bif (!t5) then
     some (true)
    else
     (f25 ((x1).Faults) ((0 : Int)) ((100 : Int))).bind fun l8 =>
     some ((!l8))
  ) fun u3 =>
 bif u3 then
  some ((2 : Int))
 else
  jC ()
theorem en21 : Enters Tryz.prog 21 := enters_of Tryz.func21 (by kernel_rfl) rfl
theorem wk21 {gI : Gh} {wI : World} {x0 : PayList} {x1 : PayPiece} {up0 : Value} (rp0 : RV gI.m wI x0 up0) {up1 : Value} (rp1 : RV gI.m wI x1 up1) {r : Int} (h : f21 x0 x1 = some r) : Fn Tryz.prog 21 #[up0, up1] gI wI (fun _ _ v => v = .int .i64 (r)) := by
 unfold f21 at h
 refine fn_of_E Tryz.func21 rfl (Nat.le_of_ble_eq_true rfl) fun g0 hm hfr => ?_
 have rp0 : RV g0.m wI x0 up0 := hm ▸ rp0
 have rp1 : RV g0.m wI x1 up1 := hm ▸ rp1
 show E _ 66 none _ _ _ _ _
 refine E_seq (E_region (EL_do .plain rfl (D_box (g := g0) rfl rp0 fun g1 w1 p1 hs q1 => ?_)))
 have hfr := hfr.ext hs
 have rp1 := rp1.ext hs
 refine EL_do .plain rfl (D_box (g := g1) rfl rp1 fun g2 w2 p2 hs q2 => ?_)
 have hfr := hfr.ext hs
 have q1 := q1.ext hs
 refine EL_at (.int .i64 (0)) rfl rfl ?_
 refine EL_nil (thn_n (E_joinC h (fun (s : Unit) e w => ∃ (g : Gh) , Fr gI wI g w ∧ e 2 = p1 ∧ PT g.m w (x0 : PayList) p1 ∧ e 3 = p2 ∧ PT g.m w (x1 : PayPiece) p2) (fun X43 jC kC h => ?_) ?_))
 ·obtain ⟨u3, hx, h⟩ := bsome h
  refine E_join (fun e w => ∃ (g : Gh) , Fr gI wI g w ∧ e 2 = p1 ∧ PT g.m w (x0 : PayList) p1 ∧ e 3 = p2 ∧ PT g.m w (x1 : PayPiece) p2 ∧ e 28 = .bool (u3)) (fun Q' hQ => ?_) (fun xE eG hR => ?_)
  ·replace h := hx
   clear hx
   refine E_region (EL_p (fPtr p2 0) (P_fieldAddr at_27_0 rfl (PT.ptr q2)) rfl ?_)
   have zD := PT_field (part_PayPiece_0).1 q2
   refine EL_do .plain rfl (D_load (g := g2) Tryz.isAgg3 Tryz.sizeOf3 rfl zD fun gG aE => ?_)
   obtain rfl := RV_int.1 aE
   obtain ⟨x6, lC, h⟩ := bsome h
   refine EL_do .plain rfl (D_call (g := g2) (vs := [.int .i64 ((x1).Weaver), .int .i64 (0), .int .i64 (50)]) en25 (.cons rfl (.cons rfl (.cons rfl .nil))) (wk25  lC) fun i9 yE hG hs hr => ?_)
   have hfr := hfr.ext hs
   have q1 := q1.ext hs
   have q2 := q2.ext hs
   subst hr
   refine EL_p (.bool (!x6)) (P_not rfl) rfl ?_
   refine EL_mw (.bool (!x6)) rfl rfl ?_
   rcases csome h with ⟨i3, h⟩ | ⟨i3, h⟩
   ·refine EL_s rfl rfl i3 rfl rfl ?_
    iterate 3 refine EL_s rfl rfl i3 rfl rfl ?_
    refine EL_p (.bool true) (P_pick (b := (!x6)) rfl (pick_t i3 rfl)) rfl ?_
    refine EL_dead 12 rfl ?_
    refine EL_nil ?_
    obtain rfl := sinj h
    exact hQ _ _ ⟨i9, hfr, rfl, q1, rfl, q2, rfl⟩
   ·refine EL_y (fPtr p2 1) (P_fieldAddr at_27_1 rfl (PT.ptr q2)) rfl rfl i3 rfl ?_
    have bE := PT_field (part_PayPiece_1).1 q2
    refine EL_do (.yes2 rfl rfl i3) rfl (D_load (g := i9) Tryz.isAgg3 Tryz.sizeOf3 rfl bE fun iG cE => ?_)
    obtain rfl := RV_int.1 cE
    obtain ⟨q5, mC, h⟩ := bsome h
    refine EL_do (.yes2 rfl rfl i3) rfl (D_call (g := i9) (vs := [.int .i64 ((x1).Dense), .int .i64 (0), .int .i64 (1000)]) en25 (.cons rfl (.cons rfl (.cons rfl .nil))) (wk25  mC) fun k9 zE jG hs hr => ?_)
    have hfr := hfr.ext hs
    have q1 := q1.ext hs
    have q2 := q2.ext hs
    subst hr
    refine EL_y (.bool (!q5)) (P_not rfl) rfl rfl i3 rfl ?_
    refine EL_p (.bool (!q5)) (P_pick (b := (!x6)) rfl (pick_f i3 rfl)) rfl ?_
    refine EL_mw (.bool (!q5)) rfl rfl ?_
    rcases csome h with ⟨j3, h⟩ | ⟨j3, h⟩
    ·refine EL_s rfl rfl j3 rfl rfl ?_
     iterate 3 refine EL_s rfl rfl j3 rfl rfl ?_
     refine EL_p (.bool true) (P_pick (b := (!q5)) rfl (pick_t j3 rfl)) rfl ?_
     refine EL_dead 6 rfl ?_
     refine EL_nil ?_
     obtain rfl := sinj h
     exact hQ _ _ ⟨k9, hfr, rfl, q1, rfl, q2, rfl⟩
    ·refine EL_y (fPtr p2 2) (P_fieldAddr at_27_2 rfl (PT.ptr q2)) rfl rfl j3 rfl ?_
     have dE := PT_field (part_PayPiece_2).1 q2
     refine EL_do (.yes2 rfl rfl j3) rfl (D_load (g := k9) Tryz.isAgg3 Tryz.sizeOf3 rfl dE fun kG eE => ?_)
     obtain rfl := RV_int.1 eE
     obtain ⟨t5, qC, h⟩ := bsome h
     refine EL_do (.yes2 rfl rfl j3) rfl (D_call (g := k9) (vs := [.int .i64 ((x1).Picks), .int .i64 (0), .int .i64 (1000000)]) en25 (.cons rfl (.cons rfl (.cons rfl .nil))) (wk25  qC) fun l9 cF lG hs hr => ?_)
     have hfr := hfr.ext hs
     have q1 := q1.ext hs
     have q2 := q2.ext hs
     subst hr
     refine EL_y (.bool (!t5)) (P_not rfl) rfl rfl j3 rfl ?_
     refine EL_p (.bool (!t5)) (P_pick (b := (!q5)) rfl (pick_f j3 rfl)) rfl ?_
     refine EL_mw (.bool (!t5)) rfl rfl ?_
     rcases csome h with ⟨o3, h⟩ | ⟨o3, h⟩
     ·refine EL_s rfl rfl o3 rfl rfl ?_
      iterate 3 refine EL_s rfl rfl o3 rfl rfl ?_
      refine EL_p (.bool true) (P_pick (b := (!t5)) rfl (pick_t o3 rfl)) rfl ?_
      refine EL_nil ?_
      obtain rfl := sinj h
      exact hQ _ _ ⟨l9, hfr, rfl, q1, rfl, q2, rfl⟩
     ·refine EL_y (fPtr p2 4) (P_fieldAddr at_27_4 rfl (PT.ptr q2)) rfl rfl o3 rfl ?_
      have gE := PT_field (part_PayPiece_4).1 q2
      refine EL_do (.yes2 rfl rfl o3) rfl (D_load (g := l9) Tryz.isAgg3 Tryz.sizeOf3 rfl gE fun mG iE => ?_)
      obtain rfl := RV_int.1 iE
      obtain ⟨l8, rC, h⟩ := bsome h
      refine EL_do (.yes2 rfl rfl o3) rfl (D_call (g := l9) (vs := [.int .i64 ((x1).Faults), .int .i64 (0), .int .i64 (100)]) en25 (.cons rfl (.cons rfl (.cons rfl .nil))) (wk25  rC) fun jE dF nG hs hr => ?_)
      have hfr := hfr.ext hs
      have q1 := q1.ext hs
      have q2 := q2.ext hs
      subst hr
      refine EL_y (.bool (!l8)) (P_not rfl) rfl rfl o3 rfl ?_
      refine EL_p (.bool (!l8)) (P_pick (b := (!t5)) rfl (pick_f o3 rfl)) rfl ?_
      refine EL_nil ?_
      obtain rfl := sinj h
      exact hQ _ _ ⟨jE, hfr, rfl, q1, rfl, q2, rfl⟩
  ·clear hx
   obtain ⟨kE, hfr, xA, yA, zA, aB, i7⟩ := hR
   rcases csome h with ⟨g8, h⟩ | ⟨g8, h⟩
   ·refine E_cond_true (Eq.trans (show ev _ _ = .bool (u3) from i7) (congrArg Value.bool g8)) ?_
    refine E_seq (E_region (EL_at (.int .i64 (2)) rfl rfl ?_))
    refine EL_nil (thn_n (E_ret (thn_r ?_)))
    obtain rfl := sinj h
    exact end1 rfl rfl (show _ = .int .i64 (2) from rfl) ⟨_, hfr, rfl⟩
   ·refine E_cond_false (Eq.trans (show ev _ _ = .bool (u3) from i7) (congrArg Value.bool g8)) ?_
    exact E_skip (thn_n (kC () _ _ ⟨kE, hfr, xA, yA, zA, aB⟩ h))
 ·rintro _ eF oG ⟨lE, hfr, bB, cB, dB, eB⟩ h
  refine E_joinC h (fun (s : Unit) e w => ∃ (g : Gh) , Fr gI wI g w ∧ e 3 = p2 ∧ PT g.m w (x1 : PayPiece) p2) (fun X148 x8 iB h => ?_) ?_
  ·refine E_seq (E_region (EL_at (.int .i64 (0)) rfl rfl ?_))
   refine EL_nil (thn_n (E_block ?_))
   refine E_lp h (fun (s : Int) e w => ∃ (g : Gh) , Fr gI wI g w ∧ e 2 = p1 ∧ PT g.m w (x0 : PayList) p1 ∧ e 3 = p2 ∧ PT g.m w (x1 : PayPiece) p2 ∧ e 5 = .int .i64 (s)) ⟨lE, hfr, bB, cB, dB, eB, rfl⟩ (fun X149 y8 jB => ?_)
   rintro u0 mE iF ⟨i8, hfr, n9, o9, x5, i5, j7⟩ h
   refine E_joinC h (fun (s : Unit) e w => ∃ (g : Gh) , Fr gI wI g w ∧ e 2 = p1 ∧ PT g.m w (x0 : PayList) p1 ∧ e 3 = p2 ∧ PT g.m w (x1 : PayPiece) p2 ∧ e 5 = .int .i64 (u0)) (fun X154 d9 lB h => ?_) ?_
   ·refine E_seq (E_region (EL_mv j7 rfl ?_))
    refine EL_p (fPtr p2 3) (P_fieldAddr at_27_3 x5 (PT.ptr i5)) rfl ?_
    have tC := PT_field (part_PayPiece_3).1 i5
    refine EL_do .plain rfl (D_load (g := i8) Tryz.isAgg23 Tryz.sizeOf23 rfl tC fun nF uC => ?_)
    refine EL_p (.int .i64 (((x1).Extras).length : Int)) (P_len Tryz.underlying23 rfl uC) rfl ?_
    refine EL_p (.bool ((decide (u0 < (((x1).Extras).length : Int))))) (P_int rfl rfl rfl) rfl ?_
    refine EL_nil (thn_n ?_)
    rcases csome h with ⟨c7, h⟩ | ⟨c7, h⟩
    ·refine E_ct c7 rfl ?_
     exact E_skip (thn_n (lB () _ _ ⟨i8, hfr, n9, o9, x5, i5, j7⟩ h))
    ·refine E_cf c7 rfl ?_
     refine E_exit ?_
     refine thn_e ?_
     refine thn_e ?_
     refine blk_hit ?_
     exact thn_n (iB () _ _ ⟨i8, hfr, x5, i5⟩ h)
   ·rintro _ nE oF ⟨vC, hfr, m7, z3, o7, z4, u7⟩ h
    refine E_joinC h (fun (s : Unit) e w => ∃ (g : Gh) , Fr gI wI g w ∧ e 2 = p1 ∧ PT g.m w (x0 : PayList) p1 ∧ e 3 = p2 ∧ PT g.m w (x1 : PayPiece) p2 ∧ e 5 = .int .i64 (u0)) (fun X184 a9 mB h => ?_) ?_
    ·refine E_block ?_
     refine E_seq ?_
     have xC := PT_field (part_PayPiece_3).1 z4
     refine L_load (x := .tmp 36) Tryz.isAgg23 Tryz.sizeOf23 xC fun t9 u9 nB => ?_
     obtain ⟨b7, m8, h⟩ := bsome h
     have yC := PT_idx u9 m8
     refine L_load (x := .tmp 39) Tryz.isAgg3 Tryz.sizeOf3 yC fun pF aD oB => ?_
     obtain rfl := RV_int.1 aD
     have bD := PT_field (part_PayList_1).1 z3
     refine L_load (x := .tmp 41) Tryz.isAgg23 Tryz.sizeOf23 bD fun cD eD tB => ?_
     obtain ⟨l5, vB, h⟩ := bsome h
     refine E_drawL (g := vC) (n := 11) [(9, (fun v g w => v = .bool (l5)))] [0, 1, 2, 3, 4, 5, 6, 7, 8, 9, 10] rfl mixed (by kernel_rfl) (⟨fun _ => up_eq _, trivial⟩) ?_
     refine L_p (fPtr p2 3) rfl rfl (P_fieldAddr at_27_3 o7 (PT.ptr z4)) ?_
     refine L_ld (c := t9) rfl rfl .plain (fun _ _ h => h.ch) nB rfl ?_
     refine L_p (.int .i64 (u0)) rfl rfl (P_move u7) ?_
     refine L_p (ePtr t9 u0 1) rfl rfl (P_indexAddr (α := Int) Tryz.underlying23 Tryz.sizeOf3 rfl u9 rfl m8) ?_
     refine L_ld (c := .int .i64 (b7)) rfl rfl .plain (fun _ _ h => h.ch) oB rfl ?_
     refine L_p (fPtr p1 1) rfl rfl (P_fieldAddr at_25_1 m7 (PT.ptr z3)) ?_
     refine L_ld (c := cD) rfl rfl .plain (fun _ _ h => h.ch) tB rfl ?_
     refine L_p (.int .i64 (((x0).Extras).length : Int)) rfl rfl (P_len Tryz.underlying23 rfl eD) ?_
     refine L_p (.int .i64 ((w64 ((((x0).Extras).length : Int) - (1 : Int))))) rfl rfl (P_int rfl rfl rfl) ?_
     refine L_do (φ := fun v g w => v = .bool (l5)) rfl rfl .plain (fun g w hd => D_call (g := g) (vs := [.int .i64 (b7), .int .i64 (0), .int .i64 ((w64 ((((x0).Extras).length : Int) - (1 : Int))))]) en25 (.cons rfl (.cons rfl (.cons rfl .nil))) (wk25  vB) fun g' w' v hs hr => ⟨g', hs, hr⟩) (fun qF hv => ?_)
     obtain ⟨_, _, _, rfl⟩ := hv
     refine L_p (.bool (!l5)) rfl rfl (P_not rfl) ?_
     refine L_nl fun gD rF hs => ?_
     have hfr := hfr.ext hs
     have z3 := z3.ext hs
     have z4 := z4.ext hs
     clear hs
     refine EL_nil (thn_n ?_)
     rcases csome h with ⟨d7, h⟩ | ⟨d7, h⟩
     ·refine E_ct d7 rfl ?_
      refine E_seq (E_region (EL_at (.int .i64 (7)) rfl rfl ?_))
      refine EL_nil (thn_n (E_ret (blk_r ?_)))
      refine thn_r ?_
      refine thn_r ?_
      refine blk_r ?_
      refine thn_r ?_
      obtain rfl := sinj h
      exact end1 rfl rfl (show _ = .int .i64 (7) from rfl) ⟨_, hfr, rfl⟩
     ·refine E_cf d7 rfl ?_
      exact E_skip (blk_n (thn_n (mB () _ _ ⟨gD, hfr, m7, z3, o7, z4, u7⟩ h)))
    ·rintro _ oE sF ⟨iD, hfr, y9, z9, bA, gA, iA⟩ h
     refine E_region (EL_mv iA rfl ?_)
     refine EL_in (.int .i64 ((w64 (u0 + (1 : Int))))) rfl rfl rfl rfl ?_
     refine EL_at (.int .i64 ((w64 (u0 + (1 : Int))))) rfl rfl ?_
     exact EL_nil (thn_n (jB ((w64 (u0 + (1 : Int)))) _ _ ⟨iD, hfr, y9, z9, bA, gA, rfl⟩ h))
  ·rintro _ rE tF ⟨jD, hfr, jA, lA⟩ h
   refine E_joinC h (fun (s : Unit) e w => ∃ (g : Gh) , Fr gI wI g w) (fun X276 q8 xB h => ?_) ?_
   ·refine E_seq (E_region (EL_at (.int .i64 (1)) rfl rfl ?_))
    refine EL_nil (thn_n (E_block ?_))
    refine E_lp h (fun (s : Int) e w => ∃ (g : Gh) , Fr gI wI g w ∧ e 3 = p2 ∧ PT g.m w (x1 : PayPiece) p2 ∧ e 6 = .int .i64 (s)) ⟨jD, hfr, jA, lA, rfl⟩ (fun X277 r8 yB => ?_)
    rintro o0 sE uF ⟨k8, hfr, v7, i6, c8⟩ h
    refine E_joinC h (fun (s : Unit) e w => ∃ (g : Gh) , Fr gI wI g w ∧ e 3 = p2 ∧ PT g.m w (x1 : PayPiece) p2 ∧ e 6 = .int .i64 (o0)) (fun X282 v8 zB h => ?_) ?_
    ·refine E_seq (E_region (EL_mv c8 rfl ?_))
     refine EL_p (fPtr p2 3) (P_fieldAddr at_27_3 v7 (PT.ptr i6)) rfl ?_
     have kD := PT_field (part_PayPiece_3).1 i6
     refine EL_do .plain rfl (D_load (g := k8) Tryz.isAgg23 Tryz.sizeOf23 rfl kD fun vF lD => ?_)
     refine EL_p (.int .i64 (((x1).Extras).length : Int)) (P_len Tryz.underlying23 rfl lD) rfl ?_
     refine EL_p (.bool ((decide (o0 < (((x1).Extras).length : Int))))) (P_int rfl rfl rfl) rfl ?_
     refine EL_nil (thn_n ?_)
     rcases csome h with ⟨e7, h⟩ | ⟨e7, h⟩
     ·refine E_ct e7 rfl ?_
      exact E_skip (thn_n (zB () _ _ ⟨k8, hfr, v7, i6, c8⟩ h))
     ·refine E_cf e7 rfl ?_
      refine E_exit ?_
      refine thn_e ?_
      refine thn_e ?_
      refine blk_hit ?_
      exact thn_n (xB () _ _ ⟨k8, hfr⟩ h)
    ·rintro _ tE xF ⟨mD, hfr, j6, j1, v6⟩ h
     refine E_joinC h (fun (s : Unit) e w => ∃ (g : Gh) , Fr gI wI g w ∧ e 3 = p2 ∧ PT g.m w (x1 : PayPiece) p2 ∧ e 6 = .int .i64 (o0)) (fun X313 t8 aC h => ?_) ?_
     ·refine E_block ?_
      refine E_seq ?_
      have nD := PT_field (part_PayPiece_3).1 j1
      refine L_load (x := .tmp 54) Tryz.isAgg23 Tryz.sizeOf23 nD fun mA nA cC => ?_
      obtain ⟨y6, n8, h⟩ := bsome h
      have oD := PT_idx nA n8
      refine L_load (x := .tmp 57) Tryz.isAgg3 Tryz.sizeOf3 oD fun yF sD dC => ?_
      obtain rfl := RV_int.1 sD
      have tD := PT_field (part_PayPiece_3).1 j1
      refine L_load (x := .tmp 59) Tryz.isAgg23 Tryz.sizeOf23 tD fun oA pA eC => ?_
      obtain ⟨a7, o8, h⟩ := bsome h
      have uD := PT_idx pA o8
      refine L_load (x := .tmp 63) Tryz.isAgg3 Tryz.sizeOf3 uD fun zF vD iC => ?_
      obtain rfl := RV_int.1 vD
      refine E_drawL (g := mD) (n := 12) [] [0, 1, 2, 3, 4, 5, 6, 7, 8, 9, 10, 11] rfl mixed (by kernel_rfl) trivial ?_
      refine L_p (fPtr p2 3) rfl rfl (P_fieldAddr at_27_3 j6 (PT.ptr j1)) ?_
      refine L_ld (c := mA) rfl rfl .plain (fun _ _ h => h.ch) cC rfl ?_
      refine L_p (.int .i64 (o0)) rfl rfl (P_move v6) ?_
      refine L_p (ePtr mA o0 1) rfl rfl (P_indexAddr (α := Int) Tryz.underlying23 Tryz.sizeOf3 rfl nA rfl n8) ?_
      refine L_ld (c := .int .i64 (y6)) rfl rfl .plain (fun _ _ h => h.ch) dC rfl ?_
      refine L_p (fPtr p2 3) rfl rfl (P_fieldAddr at_27_3 j6 (PT.ptr j1)) ?_
      refine L_ld (c := oA) rfl rfl .plain (fun _ _ h => h.ch) eC rfl ?_
      refine L_p (.int .i64 (o0)) rfl rfl (P_move v6) ?_
      refine L_p (.int .i64 ((w64 (o0 - (1 : Int))))) rfl rfl (P_int rfl rfl rfl) ?_
      refine L_p (ePtr oA (w64 (o0 - (1 : Int))) 1) rfl rfl (P_indexAddr (α := Int) Tryz.underlying23 Tryz.sizeOf3 rfl pA rfl o8) ?_
      refine L_ld (c := .int .i64 (a7)) rfl rfl .plain (fun _ _ h => h.ch) iC rfl ?_
      refine L_p (.bool ((decide (y6 ≤ a7)))) rfl rfl (P_int rfl rfl rfl) ?_
      refine L_nl fun xD aG hs => ?_
      have hfr := hfr.ext hs
      have j1 := j1.ext hs
      clear hs
      refine EL_nil (thn_n ?_)
      rcases csome h with ⟨g7, h⟩ | ⟨g7, h⟩
      ·refine E_ct g7 rfl ?_
       refine E_seq (E_region (EL_at (.int .i64 (4)) rfl rfl ?_))
       refine EL_nil (thn_n (E_ret (blk_r ?_)))
       refine thn_r ?_
       refine thn_r ?_
       refine blk_r ?_
       refine thn_r ?_
       obtain rfl := sinj h
       exact end1 rfl rfl (show _ = .int .i64 (4) from rfl) ⟨_, hfr, rfl⟩
      ·refine E_cf g7 rfl ?_
       exact E_skip (blk_n (thn_n (aC () _ _ ⟨xD, hfr, j6, j1, v6⟩ h)))
     ·rintro _ uE bG ⟨yD, hfr, qA, rA, uA⟩ h
      refine E_region (EL_mv uA rfl ?_)
      refine EL_in (.int .i64 ((w64 (o0 + (1 : Int))))) rfl rfl rfl rfl ?_
      refine EL_at (.int .i64 ((w64 (o0 + (1 : Int))))) rfl rfl ?_
      exact EL_nil (thn_n (yB ((w64 (o0 + (1 : Int)))) _ _ ⟨yD, hfr, qA, rA, rfl⟩ h))
   ·rintro _ vE cG ⟨dG, hfr⟩ h
    refine E_seq (E_region (EL_at (.int .i64 (0)) rfl rfl ?_))
    refine EL_nil (thn_n (E_ret ?_))
    obtain rfl := sinj h
    exact end1 rfl rfl (show _ = .int .i64 (0) from rfl) ⟨_, hfr, rfl⟩
def f67 (x0 : PaySheet) : Option ((List Int) × (List Int) × Int × Int) :=
 Option.bind (α := (List Int)) (
  lp (σ := (List Int) × Int) (fun aE (o8, u0) =>
   bif (decide (u0 < ((((x0).PayTable).Rows).length : Int))) then
    Option.bind (α := (List Int)) (
     (idx (((x0).PayTable).Rows) u0).bind fun y130 =>
     (f89 y130).bind fun z4 =>
     (idx (((x0).PayTable).Across) u0).bind fun i5 =>
     (apnd 8 o8 (([(w64 (z4 - i5))] : List Int))).bind fun pA =>
     some (pA)
     ) fun j6 =>
    aE (j6, (w64 (u0 + (1 : Int))))
   else
    some (o8)
   ) big ([], (0 : Int))
  ) fun o3 =>
 Option.bind (α := (List Int)) (
  lp (σ := (List Int) × Int) (fun qA (o7, o0) =>
   bif (decide (o0 < ((((x0).PayTable).Down).length : Int))) then
    Option.bind (α := (List Int)) (
     (idx (((x0).PayTable).Down) o0).bind fun a7 =>
     (f97 x0 o0).bind fun rA =>
     (f89 rA).bind fun u7 =>
     (apnd 8 o7 (([(w64 (u7 - a7))] : List Int))).bind fun uA =>
     some (uA)
     ) fun v6 =>
    qA (v6, (w64 (o0 + (1 : Int))))
   else
    some (o7)
   ) big ([], (0 : Int))
  ) fun d7 =>
 (f89 (((x0).PayTable).Across)).bind fun b7 =>
 (f89 (((x0).PayTable).Down)).bind fun c7 =>
 some (o3, d7, (w64 (b7 - ((x0).PayTable).Total)), (w64 (c7 - ((x0).PayTable).Total)))
def f68 (x0 : List Int) (x1 : Int → Option Bool) : Option (Bool) :=
 (f98 x0 x1).bind fun y2 =>
 some ((decide (y2 ≥ (0 : Int))))
theorem en68 : Enters Tryz.prog 68 := enters_of Tryz.func68 (by kernel_rfl) rfl
theorem wk68 {gI : Gh} {wI : World} {x0 : List Int} {x1 : Int → Option Bool} {up0 : Value} (rp0 : RV gI.m wI x0 up0) {up1 : Value} (rp1 : FnV1 Tryz.prog x1 up1 gI wI) {r : Bool} (h : f68 x0 x1 = some r) : Fn Tryz.prog 68 #[up0, up1] gI wI (fun _ _ v => v = .bool (r)) := by
 unfold f68 at h
 refine fn_of_E Tryz.func68 rfl (Nat.le_of_ble_eq_true rfl) fun g0 hm hfr => ?_
 have rp0 : RV g0.m wI x0 up0 := hm ▸ rp0
 obtain ⟨ff1, fa1, fc1, rfl, fen1, fcl1⟩ := rp1
 show E _ 9 none _ _ _ _ _
 refine E_seq (E_region (EL_at (.bool false) rfl rfl ?_))
 refine EL_nil (thn_n (E_seq (E_region (EL_mw up0 rfl rfl ?_))))
 refine EL_mw ((.func (.func ff1) fa1 fc1)) rfl rfl ?_
 obtain ⟨y2, hy2, h⟩ := bsome h
 refine EL_do .plain rfl (D_call (g := g0) (vs := [up0, (.func (.func ff1) fa1 fc1)]) en98 (.cons rfl (.cons rfl .nil)) (wk98 rp0 (FnV1.ch ⟨_, _, _, rfl, fen1, fcl1⟩ hfr.ch) hy2) fun g1 w1_ v1 hs hr => ?_)
 have hfr := hfr.ext hs
 subst hr
 refine EL_in (.bool ((decide (y2 ≥ (0 : Int))))) rfl rfl rfl rfl ?_
 refine EL_at (.bool ((decide (y2 ≥ (0 : Int))))) rfl rfl ?_
 refine EL_nil (thn_n (E_ret ?_))
 obtain rfl := sinj h
 exact end1 rfl rfl (show _ = .bool ((decide (y2 ≥ (0 : Int)))) from rfl) ⟨_, hfr, rfl⟩
def f69 (x0 : List (List Int)) : Option ((List Int)) :=
 Option.bind (α := Int) (
  lp (σ := Int × Int) (fun u9 (j1, o0) =>
   bif (decide (o0 < ((x0).length : Int))) then
    Option.bind (α := Int) (
     (idx x0 o0).bind fun o3 =>
     bif (decide ((w64 (j1 + ((o3).length : Int))) < (0 : Int))) then
      none
     else
      some ((w64 (j1 + ((o3).length : Int))))
     ) fun u3 =>
    u9 (u3, (w64 (o0 + (1 : Int))))
   else
    some (j1)
   ) big ((0 : Int), (0 : Int))
  ) fun z3 =>
 (f99 z3).bind fun y9 =>
 Option.bind (α := (List Int)) (
  lp (σ := (List Int) × Int) (fun z9 (t5, u0) =>
   bif (decide (u0 < ((x0).length : Int))) then
    Option.bind (α := (List Int)) (
     (idx x0 u0).bind fun bA =>
     (apnd 8 t5 bA).bind fun gA =>
     some (gA)
     ) fun j3 =>
    z9 (j3, (w64 (u0 + (1 : Int))))
   else
    some (t5)
   ) big (y9, (0 : Int))
  ) fun z4 =>
 some (z4)
def f77 (x0 : Int) (x1 : Int) : Option (Int) :=
 (f101 x0).bind fun y2 =>
 (f101 x1).bind fun y4 =>
 jn (σ := Unit) (fun _ =>
  jn (σ := Unit) (fun _ =>
   jn (σ := Unit) (fun _ =>
    jn (σ := Unit) (fun _ =>
     some ((0 : Int))
     ) fun t5 =>
    bif (decide (x0 > x1)) then
     some ((1 : Int))
    else
     t5 ()
    ) fun x5 =>
   bif (decide (x0 < x1)) then
    some ((-1 : Int))
   else
    x5 ()
   ) fun k18 =>
  bif y4 then
   some ((1 : Int))
  else
   k18 ()
  ) fun i6 =>
 bif y2 then
  jn (σ := Unit) (fun _ =>
   some ((-1 : Int))
   ) fun j6 =>
  bif y4 then
   some ((0 : Int))
  else
   j6 ()
 else
  i6 ()
theorem en77 : Enters Tryz.prog 77 := enters_of Tryz.func77 (by kernel_rfl) rfl
theorem wk77 {gI : Gh} {wI : World} {x0 : Int} {x1 : Int}  {r : Int} (h : f77 x0 x1 = some r) : Fn Tryz.prog 77 #[.int .i64 (x0), .int .i64 (x1)] gI wI (fun _ _ v => v = .int .i64 (r)) := by
 unfold f77 at h
 refine fn_of_E Tryz.func77 rfl (Nat.le_of_ble_eq_true rfl) fun g0 hm hfr => ?_
 show E _ 20 none _ _ _ _ _
 refine E_seq (E_region (EL_at (.int .i64 (0)) rfl rfl ?_))
 refine EL_nil (thn_n (E_seq (E_region (EL_mw (.int .i64 (x0)) rfl rfl ?_))))
 obtain ⟨y2, hy2, h⟩ := bsome h
 refine EL_do .plain rfl (D_call (g := g0) (vs := [.int .i64 (x0)]) en101 (.cons rfl .nil) (wk101  hy2) fun g1 w1_ v1 hs hr => ?_)
 have hfr := hfr.ext hs
 subst hr
 refine EL_at (.bool (y2)) rfl rfl ?_
 refine EL_nil (thn_n (E_seq (E_region (EL_mw (.int .i64 (x1)) rfl rfl ?_))))
 obtain ⟨y4, c7, h⟩ := bsome h
 refine EL_do .plain rfl (D_call (g := g1) (vs := [.int .i64 (x1)]) en101 (.cons rfl .nil) (wk101  c7) fun g3 w3_ v3 hs hr => ?_)
 have hfr := hfr.ext hs
 subst hr
 refine EL_at (.bool (y4)) rfl rfl ?_
 refine EL_nil (thn_n (E_joinC h (fun (s : Unit) e w => ∃ (g : Gh) , Fr gI wI g w ∧ e 0 = .int .i64 (x0) ∧ e 1 = .int .i64 (x1) ∧ e 6 = .bool (y4)) (fun X10 i6 v6 h => ?_) ?_))
 ·refine E_seq (E_region (EL_mw (.bool (y2)) rfl rfl ?_))
  refine EL_nil (thn_n ?_)
  rcases csome h with ⟨o0, h⟩ | ⟨o0, h⟩
  ·refine E_ct o0 rfl ?_
   refine E_joinC h (fun (s : Unit) e w => ∃ (g : Gh) , Fr gI wI g w) (fun X13 j6 x6 h => ?_) ?_
   ·refine E_seq (E_region (EL_mw (.bool (y4)) rfl rfl ?_))
    refine EL_nil (thn_n ?_)
    rcases csome h with ⟨u0, h⟩ | ⟨u0, h⟩
    ·refine E_ct u0 rfl ?_
     refine E_seq (E_region (EL_at (.int .i64 (0)) rfl rfl ?_))
     refine EL_nil (thn_n (E_ret (thn_r ?_)))
     refine thn_r ?_
     obtain rfl := sinj h
     exact end1 rfl rfl (show _ = .int .i64 (0) from rfl) ⟨_, hfr, rfl⟩
    ·refine E_cf u0 rfl ?_
     exact E_skip (thn_n (x6 () _ _ ⟨g3, hfr⟩ h))
   ·rintro _ i7 w15 ⟨v7, hfr⟩ h
    refine E_seq (E_region (EL_at (.int .i64 (-1)) rfl rfl ?_))
    refine EL_nil (thn_n (E_ret (thn_r ?_)))
    obtain rfl := sinj h
    exact end1 rfl rfl (show _ = .int .i64 (-1) from rfl) ⟨_, hfr, rfl⟩
  ·refine E_cf o0 rfl ?_
   exact E_skip (thn_n (v6 () _ _ ⟨g3, hfr, rfl, rfl, rfl⟩ h))
 ·rintro _ j7 c8 ⟨d7, hfr, z3, z4, i5⟩ h
  refine E_joinC h (fun (s : Unit) e w => ∃ (g : Gh) , Fr gI wI g w ∧ e 0 = .int .i64 (x0) ∧ e 1 = .int .i64 (x1)) (fun X18 k18 y6 h => ?_) ?_
  ·refine E_seq (E_region (EL_mv i5 rfl ?_))
   refine EL_nil (thn_n ?_)
   rcases csome h with ⟨j1, h⟩ | ⟨j1, h⟩
   ·refine E_ct j1 rfl ?_
    refine E_seq (E_region (EL_at (.int .i64 (1)) rfl rfl ?_))
    refine EL_nil (thn_n (E_ret (thn_r ?_)))
    obtain rfl := sinj h
    exact end1 rfl rfl (show _ = .int .i64 (1) from rfl) ⟨_, hfr, rfl⟩
   ·refine E_cf j1 rfl ?_
    exact E_skip (thn_n (y6 () _ _ ⟨d7, hfr, z3, z4⟩ h))
  ·rintro _ m7 g8 ⟨e7, hfr, o3, u3⟩ h
   refine E_joinC h (fun (s : Unit) e w => ∃ (g : Gh) , Fr gI wI g w ∧ e 0 = .int .i64 (x0) ∧ e 1 = .int .i64 (x1)) (fun X22 x5 a7 h => ?_) ?_
   ·refine E_seq (E_region (EL_mv o3 rfl ?_))
    refine EL_mv u3 rfl ?_
    refine EL_in (.bool ((decide (x0 < x1)))) rfl rfl rfl rfl ?_
    refine EL_nil (thn_n ?_)
    rcases csome h with ⟨i3, h⟩ | ⟨i3, h⟩
    ·refine E_ct i3 rfl ?_
     refine E_seq (E_region (EL_at (.int .i64 (-1)) rfl rfl ?_))
     refine EL_nil (thn_n (E_ret (thn_r ?_)))
     obtain rfl := sinj h
     exact end1 rfl rfl (show _ = .int .i64 (-1) from rfl) ⟨_, hfr, rfl⟩
    ·refine E_cf i3 rfl ?_
     exact E_skip (thn_n (a7 () _ _ ⟨e7, hfr, o3, u3⟩ h))
   ·rintro _ o7 i8 ⟨g7, hfr, l5, q5⟩ h
    refine E_joinC h (fun (s : Unit) e w => ∃ (g : Gh) , Fr gI wI g w) (fun X26 t5 b7 h => ?_) ?_
    ·refine E_seq (E_region (EL_mv l5 rfl ?_))
     refine EL_mv q5 rfl ?_
     refine EL_in (.bool ((decide (x0 > x1)))) rfl rfl rfl rfl ?_
     refine EL_nil (thn_n ?_)
     rcases csome h with ⟨j3, h⟩ | ⟨j3, h⟩
     ·refine E_ct j3 rfl ?_
      refine E_seq (E_region (EL_at (.int .i64 (1)) rfl rfl ?_))
      refine EL_nil (thn_n (E_ret (thn_r ?_)))
      obtain rfl := sinj h
      exact end1 rfl rfl (show _ = .int .i64 (1) from rfl) ⟨_, hfr, rfl⟩
     ·refine E_cf j3 rfl ?_
      exact E_skip (thn_n (b7 () _ _ ⟨g7, hfr⟩ h))
    ·rintro _ u7 k8 ⟨l8, hfr⟩ h
     refine E_seq (E_region (EL_at (.int .i64 (0)) rfl rfl ?_))
     refine EL_nil (thn_n (E_ret ?_))
     obtain rfl := sinj h
     exact end1 rfl rfl (show _ = .int .i64 (0) from rfl) ⟨_, hfr, rfl⟩
def f92 (x0 : PayFilling) (x1 : Int) (x2 : List PayStep) : Option (Int) :=
 Option.bind (α := Int) (
  lp (σ := Int × Int) (fun g7 (i3, o0) =>
   bif (decide (o0 < ((x2).length : Int))) then
    Option.bind (α := Int) (
     (idx x2 o0).bind fun i7 =>
     (f95 x0 i7).bind fun i5 =>
     some ((min64 i3 i5))
     ) fun o3 =>
    g7 (o3, (w64 (o0 + (1 : Int))))
   else
    some (i3)
   ) big (x1, (0 : Int))
  ) fun j3 =>
 some (j3)
def f104 (x0 : PayRate) (x1 : Int) : Option (Int) :=
 (f77 ((x0).From) x1).bind fun y5 =>
 some (y5)
theorem en104 : Enters Tryz.prog 104 := enters_of Tryz.func104 (by kernel_rfl) rfl
theorem wk104 {gI : Gh} {wI : World} {x0 : PayRate} {x1 : Int} {up0 : Value} (rp0 : RV gI.m wI x0 up0) {r : Int} (h : f104 x0 x1 = some r) : Fn Tryz.prog 104 #[up0, .int .i64 (x1)] gI wI (fun _ _ v => v = .int .i64 (r)) := by
 unfold f104 at h
 refine fn_of_E Tryz.func104 rfl (Nat.le_of_ble_eq_true rfl) fun g0 hm hfr => ?_
 have rp0 : RV g0.m wI x0 up0 := hm ▸ rp0
 show E _ 9 none _ _ _ _ _
 refine E_seq (E_region (EL_do .plain rfl (D_box (g := g0) rfl rp0 fun g1 w1 p1 hs q1 => ?_)))
 have hfr := hfr.ext hs
 refine EL_at (.int .i64 (0)) rfl rfl ?_
 refine EL_nil (thn_n (E_seq (E_region (EL_p (fPtr p1 0) (P_fieldAddr at_87_0 rfl (PT.ptr q1)) rfl ?_))))
 have q2 := PT_field (part_PayRate_0).1 q1
 refine EL_do .plain rfl (D_load (g := g1) Tryz.isAgg3 Tryz.sizeOf3 rfl q2 fun v3 r3 => ?_)
 obtain rfl := RV_int.1 r3
 refine EL_mw (.int .i64 (x1)) rfl rfl ?_
 obtain ⟨y5, hy5, h⟩ := bsome h
 refine EL_do .plain rfl (D_call (g := g1) (vs := [.int .i64 ((x0).From), .int .i64 (x1)]) en77 (.cons rfl (.cons rfl .nil)) (wk77  hy5) fun g4 w4_ v4 hs hr => ?_)
 have hfr := hfr.ext hs
 subst hr
 refine EL_at (.int .i64 (y5)) rfl rfl ?_
 refine EL_nil (thn_n (E_ret ?_))
 obtain rfl := sinj h
 exact end1 rfl rfl (show _ = .int .i64 (y5) from rfl) ⟨_, hfr, rfl⟩
def f108 (x0 : List (List Int)) (x1 : (List Int) → Option Bool) : Option (Bool) :=
 (f129 x0 x1).bind fun y2 =>
 some ((decide (y2 ≥ (0 : Int))))
def f116 (x0 : List Int) : Option (Bool) :=
 jn (σ := Unit) (fun _ =>
  some (true)
  ) fun k53 =>
 lp (σ := Int) (fun k54 o0 =>
  jn (σ := Unit) (fun _ =>
   jn (σ := Unit) (fun _ =>
    k54 ((w64 (o0 - (1 : Int))))
    ) fun v6 =>
   (idx x0 o0).bind fun y84 =>
   (idx x0 (w64 (o0 - (1 : Int)))).bind fun u3 =>
   (f124 y84 u3).bind fun z3 =>
   bif z3 then
    some (false)
   else
    v6 ()
   ) fun k57 =>
  bif (decide (o0 > (0 : Int))) then
   k57 ()
  else
   k53 ()
  ) big ((w64 (((x0).length : Int) - (1 : Int))))
theorem en116 : Enters Tryz.prog 116 := enters_of Tryz.func116 (by kernel_rfl) rfl
theorem wk116 {gI : Gh} {wI : World} {x0 : List Int} {up0 : Value} (rp0 : RV gI.m wI x0 up0) {r : Bool} (h : f116 x0 = some r) : Fn Tryz.prog 116 #[up0] gI wI (fun _ _ v => v = .bool (r)) := by
 unfold f116 at h
 refine fn_of_E Tryz.func116 rfl (Nat.le_of_ble_eq_true rfl) fun g0 hm hfr => ?_
 have rp0 : RV g0.m wI x0 up0 := hm ▸ rp0
 show E _ 21 none _ _ _ _ _
 refine E_seq (E_region (EL_at (.bool false) rfl rfl ?_))
 refine EL_nil (thn_n (E_joinC h (fun (s : Unit) e w => ∃ (g : Gh) , Fr gI wI g w) (fun X53 k53 y6 h => ?_) ?_))
 ·refine E_seq (E_region (EL_mw up0 rfl rfl ?_))
  refine EL_p (.int .i64 ((x0).length : Int)) (P_len Tryz.underlying23 rfl rp0) rfl ?_
  refine EL_in (.int .i64 ((w64 (((x0).length : Int) - (1 : Int))))) rfl rfl rfl rfl ?_
  refine EL_at (.int .i64 ((w64 (((x0).length : Int) - (1 : Int))))) rfl rfl ?_
  refine EL_nil (thn_n (E_block ?_))
  refine E_lp h (fun (s : Int) e w => ∃ (g : Gh) , Fr gI wI g w ∧ e 0 = up0 ∧ RV g.m w (x0 : List Int) up0 ∧ e 3 = .int .i64 (s)) ⟨g0, hfr, rfl, rp0, rfl⟩ (fun X54 k54 a7 => ?_)
  rintro o0 k8 q8 ⟨x6, hfr, i6, j6, z4⟩ h
  refine E_joinC h (fun (s : Unit) e w => ∃ (g : Gh) , Fr gI wI g w ∧ e 0 = up0 ∧ RV g.m w (x0 : List Int) up0 ∧ e 3 = .int .i64 (o0)) (fun X57 k57 b7 h => ?_) ?_
  ·refine E_seq (E_region (EL_mv z4 rfl ?_))
   refine EL_in (.bool ((decide (o0 > (0 : Int))))) rfl rfl rfl rfl ?_
   refine EL_nil (thn_n ?_)
   rcases csome h with ⟨o3, h⟩ | ⟨o3, h⟩
   ·refine E_ct o3 rfl ?_
    exact E_skip (thn_n (b7 () _ _ ⟨x6, hfr, i6, j6, z4⟩ h))
   ·refine E_cf o3 rfl ?_
    refine E_exit ?_
    refine thn_e ?_
    refine thn_e ?_
    refine blk_hit ?_
    exact thn_n (y6 () _ _ ⟨x6, hfr⟩ h)
  ·rintro _ l8 r8 ⟨j7, hfr, j1, u0, i3⟩ h
   refine E_joinC h (fun (s : Unit) e w => ∃ (g : Gh) , Fr gI wI g w ∧ e 0 = up0 ∧ RV g.m w (x0 : List Int) up0 ∧ e 3 = .int .i64 (o0)) (fun X83 v6 c7 h => ?_) ?_
   ·refine E_block ?_
    refine E_seq ?_
    obtain ⟨y84, i5, h⟩ := bsome h
    have m7 := PT_idx u0 i5
    refine L_load (x := .tmp 13) Tryz.isAgg3 Tryz.sizeOf3 m7 fun t8 o7 d7 => ?_
    obtain rfl := RV_int.1 o7
    obtain ⟨u3, l5, h⟩ := bsome h
    have u7 := PT_idx u0 l5
    refine L_load (x := .tmp 18) Tryz.isAgg3 Tryz.sizeOf3 u7 fun v8 v7 e7 => ?_
    obtain rfl := RV_int.1 v7
    obtain ⟨z3, g7, h⟩ := bsome h
    refine E_drawL (g := j7) (n := 10) [(9, (fun v g w => v = .bool (z3)))] [0, 1, 2, 3, 4, 5, 6, 7, 8, 9] rfl mixed (by kernel_rfl) (⟨fun _ => up_eq _, trivial⟩) ?_
    refine L_p up0 rfl rfl (P_move j1) ?_
    refine L_p (.int .i64 (o0)) rfl rfl (P_move i3) ?_
    refine L_p (ePtr up0 o0 1) rfl rfl (P_indexAddr (α := Int) Tryz.underlying23 Tryz.sizeOf3 rfl u0 rfl i5) ?_
    refine L_ld (c := .int .i64 (y84)) rfl rfl .plain (fun _ _ h => h.ch) d7 rfl ?_
    refine L_p up0 rfl rfl (P_move j1) ?_
    refine L_p (.int .i64 (o0)) rfl rfl (P_move i3) ?_
    refine L_p (.int .i64 ((w64 (o0 - (1 : Int))))) rfl rfl (P_int rfl rfl rfl) ?_
    refine L_p (ePtr up0 (w64 (o0 - (1 : Int))) 1) rfl rfl (P_indexAddr (α := Int) Tryz.underlying23 Tryz.sizeOf3 rfl u0 rfl l5) ?_
    refine L_ld (c := .int .i64 (u3)) rfl rfl .plain (fun _ _ h => h.ch) e7 rfl ?_
    refine L_do (φ := fun v g w => v = .bool (z3)) rfl rfl .plain (fun g w hd => D_call (g := g) (vs := [.int .i64 (y84), .int .i64 (u3)]) en124 (.cons rfl (.cons rfl .nil)) (wk124  g7) fun g' w' v hs hr => ⟨g', hs, hr⟩) (fun x8 hv => ?_)
    obtain ⟨_, _, _, rfl⟩ := hv
    refine L_nl fun c8 y8 hs => ?_
    have hfr := hfr.ext hs
    have u0 := u0.ext hs
    clear hs
    refine EL_nil (thn_n ?_)
    rcases csome h with ⟨j3, h⟩ | ⟨j3, h⟩
    ·refine E_ct j3 rfl ?_
     refine E_seq (E_region (EL_at (.bool false) rfl rfl ?_))
     refine EL_nil (thn_n (E_ret (blk_r ?_)))
     refine thn_r ?_
     refine thn_r ?_
     refine blk_r ?_
     refine thn_r ?_
     obtain rfl := sinj h
     exact end1 rfl rfl (show _ = .bool false from rfl) ⟨_, hfr, rfl⟩
    ·refine E_cf j3 rfl ?_
     exact E_skip (blk_n (thn_n (c7 () _ _ ⟨c8, hfr, j1, u0, i3⟩ h)))
   ·rintro _ g8 m8 ⟨i7, hfr, q5, t5, x5⟩ h
    refine E_region (EL_mv x5 rfl ?_)
    refine EL_in (.int .i64 ((w64 (o0 - (1 : Int))))) rfl rfl rfl rfl ?_
    refine EL_at (.int .i64 ((w64 (o0 - (1 : Int))))) rfl rfl ?_
    exact EL_nil (thn_n (a7 ((w64 (o0 - (1 : Int)))) _ _ ⟨i7, hfr, q5, t5, rfl⟩ h))
 ·rintro _ i8 n8 ⟨o8, hfr⟩ h
  refine E_seq (E_region (EL_at (.bool true) rfl rfl ?_))
  refine EL_nil (thn_n (E_ret ?_))
  obtain rfl := sinj h
  exact end1 rfl rfl (show _ = .bool true from rfl) ⟨_, hfr, rfl⟩
def f118 (x0 : List Int) (x1 : Int) (x2 : Int) : Option ((List Int)) :=
 lp (σ := (List Int) × Int) (fun k1 (x6, j3) =>
  jn (σ := Unit) (fun _ =>
   Option.bind (α := (List Int)) (
    lp (σ := (List Int) × Int) (fun l8 (j1, o0) =>
     jn (σ := Unit) (fun _ =>
      Option.bind (α := (List Int)) (
       (idx j1 (w64 (o0 - (1 : Int)))).bind fun i6 =>
       (idx j1 o0).bind fun y6 =>
       (idx j1 o0).bind fun xA =>
       (idx ((List.set j1 (Int.toNat o0) i6)) (w64 (o0 - (1 : Int)))).bind fun yA =>
       some ((List.set ((List.set j1 (Int.toNat o0) i6)) (Int.toNat (w64 (o0 - (1 : Int)))) y6))
       ) fun l5 =>
      l8 (l5, (w64 (o0 - (1 : Int))))
      ) fun m8 =>
     Option.bind (α := Bool) (
      bif (decide (o0 > x1)) then
       (idx j1 o0).bind fun a7 =>
       (idx j1 (w64 (o0 - (1 : Int)))).bind fun b7 =>
       (f124 a7 b7).bind fun j6 =>
       some (j6)
      else
       some (false)
      ) fun u3 =>
     bif u3 then
      m8 ()
     else
      some (j1)
     ) big (x6, j3)
    ) fun q5 =>
   k1 (q5, (w64 (j3 + (1 : Int))))
   ) fun k4 =>
  bif (decide (j3 < x2)) then
   k4 ()
  else
   some (x6)
  ) big (x0, (w64 (x1 + (1 : Int))))
def f119 (x0 : List Int) (x1 : Int) (x2 : Int) : Option ((List Int)) :=
 Option.bind (α := (List Int)) (
  (quo64 (w64 ((w64 (x2 - x1)) - (1 : Int))) (2 : Int)).bind fun j6 =>
  lp (σ := (List Int) × Int) (fun z9 (z3, u0) =>
   jn (σ := Unit) (fun _ =>
    Option.bind (α := (List Int)) (
     (f132 z3 u0 ((w64 (x2 - x1))) x1).bind fun y23 =>
     some (y23)
     ) fun z4 =>
    z9 (z4, (w64 (u0 - (1 : Int))))
    ) fun bA =>
   bif (decide (u0 ≥ (0 : Int))) then
    bA ()
   else
    some (z3)
   ) big (x0, j6)
  ) fun l5 =>
 lp (σ := (List Int) × Int) (fun gA (j1, o0) =>
  jn (σ := Unit) (fun _ =>
   Option.bind (α := (List Int)) (
    (idx j1 (w64 (x1 + o0))).bind fun q5 =>
    (idx j1 x1).bind fun v6 =>
    (idx j1 x1).bind fun bB =>
    (idx ((List.set j1 (Int.toNat x1) q5)) (w64 (x1 + o0))).bind fun cB =>
    (f132 ((List.set ((List.set j1 (Int.toNat x1) q5)) (Int.toNat (w64 (x1 + o0))) v6)) ((0 : Int)) o0 x1).bind fun iA =>
    some (iA)
    ) fun i5 =>
   gA (i5, (w64 (o0 - (1 : Int))))
   ) fun jA =>
  bif (decide (o0 ≥ (0 : Int))) then
   jA ()
  else
   some (j1)
  ) big (l5, (w64 ((w64 (x2 - x1)) - (1 : Int))))
def f123 (x0 : List Int) (x1 : Int) (x2 : Int) : Option (Bool × (List Int)) :=
 jn (σ := (List Int)) (fun xA =>
  some (false, xA)
  ) fun mE =>
 lp (σ := (List Int) × Int × Int) (fun nE (o3, q8, i3) =>
  jn (σ := Unit) (fun _ =>
   jn (σ := (List Int) × Int) (fun (r8, t8) =>
    nE (r8, t8, (w64 (i3 + (1 : Int))))
    ) fun k9 =>
   Option.bind (α := Int) (
    lp (σ := Int) (fun oE j3 =>
     jn (σ := Unit) (fun _ =>
      oE ((w64 (j3 + (1 : Int))))
      ) fun rE =>
     Option.bind (α := Bool) (
      bif (decide (j3 < x2)) then
       (idx o3 j3).bind fun l9 =>
       (idx o3 (w64 (j3 - (1 : Int)))).bind fun n9 =>
       (f124 l9 n9).bind fun g7 =>
       some ((!g7))
      else
       some (false)
      ) fun y6 =>
     bif y6 then
      rE ()
     else
      some (j3)
     ) big (q8)
    ) fun o0 =>
   jn (σ := Unit) (fun _ =>
    jn (σ := Unit) (fun _ =>
     (idx o3 (w64 (o0 - (1 : Int)))).bind fun i7 =>
     (idx o3 o0).bind fun k8 =>
     (idx o3 o0).bind fun uJ =>
     (idx ((List.set o3 (Int.toNat o0) i7)) (w64 (o0 - (1 : Int)))).bind fun vJ =>
     Option.bind (α := (List Int)) (
      bif (decide ((w64 (o0 - x1)) ≥ (2 : Int))) then
       lp (σ := (List Int) × Int) (fun sE (z3, j1) =>
        jn (σ := Unit) (fun _ =>
         jn (σ := (List Int)) (fun v8 =>
          sE (v8, (w64 (j1 - (1 : Int))))
          ) fun tE =>
         jn (σ := Unit) (fun _ =>
          (idx z3 (w64 (j1 - (1 : Int)))).bind fun j7 =>
          (idx z3 j1).bind fun l8 =>
          (idx z3 j1).bind fun xJ =>
          (idx ((List.set z3 (Int.toNat j1) j7)) (w64 (j1 - (1 : Int)))).bind fun yJ =>
          tE ((List.set ((List.set z3 (Int.toNat j1) j7)) (Int.toNat (w64 (j1 - (1 : Int)))) l8))
          ) fun uE =>
         (idx z3 j1).bind fun o9 =>
         (idx z3 (w64 (j1 - (1 : Int)))).bind fun t9 =>
         (f124 o9 t9).bind fun m8 =>
         bif (!m8) then
          some (z3)
         else
          uE ()
         ) fun vE =>
        bif (decide (j1 ≥ (1 : Int))) then
         vE ()
        else
         some (z3)
        ) big ((List.set ((List.set o3 (Int.toNat o0) i7)) (Int.toNat (w64 (o0 - (1 : Int)))) k8), (w64 (o0 - (1 : Int))))
      else
       some ((List.set ((List.set o3 (Int.toNat o0) i7)) (Int.toNat (w64 (o0 - (1 : Int)))) k8))
      ) fun b7 =>
     bif (decide ((w64 (x2 - o0)) ≥ (2 : Int))) then
      lp (σ := (List Int) × Int) (fun xE (u3, u0) =>
       jn (σ := Unit) (fun _ =>
        jn (σ := (List Int)) (fun x8 =>
         xE (x8, (w64 (u0 + (1 : Int))))
         ) fun yE =>
        jn (σ := Unit) (fun _ =>
         (idx u3 (w64 (u0 - (1 : Int)))).bind fun m7 =>
         (idx u3 u0).bind fun n8 =>
         (idx u3 u0).bind fun zJ =>
         (idx ((List.set u3 (Int.toNat u0) m7)) (w64 (u0 - (1 : Int)))).bind fun aK =>
         yE ((List.set ((List.set u3 (Int.toNat u0) m7)) (Int.toNat (w64 (u0 - (1 : Int)))) n8))
         ) fun zE =>
        (idx u3 u0).bind fun u9 =>
        (idx u3 (w64 (u0 - (1 : Int)))).bind fun y9 =>
        (f124 u9 y9).bind fun o8 =>
        bif (!o8) then
         k9 (u3, o0)
        else
         zE ()
        ) fun cF =>
       bif (decide (u0 < x2)) then
        cF ()
       else
        k9 (u3, o0)
       ) big (b7, (w64 (o0 + (1 : Int))))
     else
      k9 (b7, o0)
     ) fun dF =>
    bif (decide ((w64 (x2 - x1)) < (50 : Int))) then
     some (false, o3)
    else
     dF ()
    ) fun eF =>
   bif (o0 == x2) then
    some (true, o3)
   else
    eF ()
   ) fun iF =>
  bif (decide (i3 < (5 : Int))) then
   iF ()
  else
   mE (o3)
  ) big (x0, (w64 (x1 + (1 : Int))), (0 : Int))
def f131 (x0 : List Int) (x1 : Int) (x2 : Int) (x3 : Int) (x4 : Int → Int → Option Int) : Option ((List Int)) :=
 Option.bind (α := (List Int) × Int) (
  lp (σ := (List Int) × Int × Int) (fun c7 (u3, o0, u0) =>
   jn (σ := Unit) (fun _ =>
    bif (decide (o0 > u0)) then
     (f137 u3 ((w64 (x2 - o0))) x2 u0 x4).bind fun d7 =>
     c7 (d7, (w64 (o0 - u0)), u0)
    else
     (f137 u3 ((w64 (x2 - o0))) ((w64 ((w64 (x2 + u0)) - o0))) o0 x4).bind fun e7 =>
     c7 (e7, o0, (w64 (u0 - o0)))
    ) fun u7 =>
   bif (o0 != u0) then
    u7 ()
   else
    some (u3, o0)
   ) big (x0, (w64 (x2 - x1)), (w64 (x3 - x2)))
  ) fun (l5, i3) =>
 (f137 l5 ((w64 (x2 - i3))) x2 i3 x4).bind fun v7 =>
 some (v7)
def f54 (x0 : Int) (x1 : Int) (x2 : List Int) : Option (Bool) :=
 (f68 x2 ((fun a0 => f78 a0 x0 x1))).bind fun y4 =>
 some ((!y4))
theorem en54 : Enters Tryz.prog 54 := enters_of Tryz.func54 (by kernel_rfl) rfl
theorem wk54 {gI : Gh} {wI : World} {x0 : Int} {x1 : Int} {x2 : List Int} {up2 : Value} (rp2 : RV gI.m wI x2 up2) {r : Bool} (h : f54 x0 x1 x2 = some r) : Fn Tryz.prog 54 #[.int .i64 (x0), .int .i64 (x1), up2] gI wI (fun _ _ v => v = .bool (r)) := by
 unfold f54 at h
 refine fn_of_E Tryz.func54 rfl (Nat.le_of_ble_eq_true rfl) fun g0 hm hfr => ?_
 have rp2 : RV g0.m wI x2 up2 := hm ▸ rp2
 show E _ 11 none _ _ _ _ _
 refine E_seq (E_region (EL_do .plain rfl (D_box (g := g0) rfl (RV_int.2 rfl) fun g1 w1 p1 hs q1 => ?_)))
 have hfr := hfr.ext hs
 have rp2 := rp2.ext hs
 refine EL_do .plain rfl (D_box (g := g1) rfl (RV_int.2 rfl) fun g2 w2 p2 hs q2 => ?_)
 have hfr := hfr.ext hs
 have rp2 := rp2.ext hs
 have q1 := q1.ext hs
 refine EL_at (.bool false) rfl rfl ?_
 refine EL_nil (thn_n (E_seq (E_region (EL_mw up2 rfl rfl ?_))))
 refine EL_p ((.func (.func 78) #[] #[p1, p2])) (P_makeFunc (capf_0_2 (show ev _ _ = p1 from rfl) (show ev _ _ = p2 from rfl))) rfl ?_
 obtain ⟨y4, o0, h⟩ := bsome h
 refine EL_do .plain rfl (D_call (g := g2) (vs := [up2, (.func (.func 78) #[] #[p1, p2])]) en68 (.cons rfl (.cons rfl .nil)) (wk68 rp2 ⟨78, #[], #[p1, p2], rfl, en78, fun g' w' hch a0 b0 r hu0 hr => by obtain rfl := RV_int.1 hu0; exact Fn.mono (wk78  (q1.ch hch) (q2.ch hch) hr) fun _ _ _ h => RV_bool.2 h⟩ o0) fun g3 w3_ v3 hs hr => ?_)
 have hfr := hfr.ext hs
 subst hr
 refine EL_p (.bool (!y4)) (P_not rfl) rfl ?_
 refine EL_at (.bool (!y4)) rfl rfl ?_
 refine EL_nil (thn_n (E_ret ?_))
 obtain rfl := sinj h
 exact end1 rfl rfl (show _ = .bool (!y4) from rfl) ⟨_, hfr, rfl⟩
def f72 (x0 : List Int) : Option (Bool) :=
 (f54 ((0 : Int)) ((1000000000 : Int)) x0).bind fun y2 =>
 some (y2)
def f76 (x0 : Int) (x1 : Int) (z0 : Int) (z1 : List Int) (z2 : Int) : Option (Int) :=
 (idx z1 x1).bind fun y3 =>
 (rem64 (w64 (z0 * y3)) z2).bind fun y7 =>
 (idx z1 x0).bind fun u0 =>
 (rem64 (w64 (z0 * u0)) z2).bind fun j1 =>
 (f77 y7 j1).bind fun o0 =>
 some (o0)
def f80 (x0 : PayPayList) (x1 : Int) : Option (Int) :=
 (f103 (((x0).PayList).Rates) x1 ((fun a0 a1 => f104 a0 a1))).bind fun y6 =>
 Option.bind (α := Int) (
  bif (!y6.2) then
   some ((w64 (y6.1 - (1 : Int))))
  else
   some (y6.1)
  ) fun o0 =>
 (idx (((x0).PayList).Rates) o0).bind fun u0 =>
 some ((u0).Rate)
theorem en80 : Enters Tryz.prog 80 := enters_of Tryz.func80 (by kernel_rfl) rfl
theorem wk80 {gI : Gh} {wI : World} {x0 : PayPayList} {x1 : Int} {up0 : Value} (rp0 : RV gI.m wI x0 up0) {r : Int} (h : f80 x0 x1 = some r) : Fn Tryz.prog 80 #[up0, .int .i64 (x1)] gI wI (fun _ _ v => v = .int .i64 (r)) := by
 unfold f80 at h
 refine fn_of_E Tryz.func80 rfl (Nat.le_of_ble_eq_true rfl) fun g0 hm hfr => ?_
 have rp0 : RV g0.m wI x0 up0 := hm ▸ rp0
 show E _ 26 none _ _ _ _ _
 refine E_seq (E_region (EL_do .plain rfl (D_box (g := g0) rfl rp0 fun g1 w1 p1 hs q1 => ?_)))
 have hfr := hfr.ext hs
 refine EL_at (.int .i64 (0)) rfl rfl ?_
 refine EL_nil (thn_n (E_seq (E_region (EL_p (fPtr p1 0) (P_fieldAddr at_117_0 rfl (PT.ptr q1)) rfl ?_))))
 have q2 := PT_field (part_PayPayList_0).1 q1
 refine EL_p (fPtr (fPtr p1 0) 0) (P_fieldAddr at_25_0 rfl (PT.ptr q2)) rfl ?_
 have q3 := PT_field (part_PayList_0).1 q2
 refine EL_do .plain rfl (D_load (g := g1) Tryz.isAgg22 Tryz.sizeOf22 rfl q3 fun v4 r4 => ?_)
 refine EL_mw (.int .i64 (x1)) rfl rfl ?_
 obtain ⟨y6, l5, h⟩ := bsome h
 refine EL_do .plain rfl (D_call (g := g1) (vs := [v4, .int .i64 (x1), .func (.func 104) #[] #[]]) en103 (.cons rfl (.cons rfl (.cons rfl .nil))) (wk103 r4 ⟨104, #[], #[], rfl, en104, fun g' w' hch a0 a1 b0 b1 r hu0 hu1 hr => by obtain rfl := RV_int.1 hu1; exact Fn.mono (wk104 hu0  hr) fun _ _ _ h => RV_int.2 h⟩ l5) fun g5 w5_ v5 hs hr => ?_)
 have hfr := hfr.ext hs
 have q1 := q1.ext hs
 obtain ⟨i6, j6, rfl, rfl, rfl⟩ := hr
 refine EL_mw (.tuple #[.int .i64 (y6.1), .bool (y6.2)]) rfl rfl ?_
 refine EL_p (.int .i64 (y6.1)) (P_extract rfl rfl) rfl ?_
 refine EL_p (.bool (y6.2)) (P_extract rfl rfl) rfl ?_
 refine EL_at (.int .i64 (y6.1)) rfl rfl ?_
 refine EL_at (.bool (y6.2)) rfl rfl ?_
 refine EL_nil (thn_n ?_)
 obtain ⟨o0, hx, h⟩ := bsome h
 refine E_join (fun e w => ∃ (g : Gh) , Fr gI wI g w ∧ e 2 = p1 ∧ PT g.m w (x0 : PayPayList) p1 ∧ e 5 = .int .i64 (o0)) (fun Q' hQ => ?_) (fun v6 w9 hR => ?_)
 ·replace h := hx
  clear hx
  refine E_seq (E_region (EL_mw (.bool (y6.2)) rfl rfl ?_))
  refine EL_p (.bool (!y6.2)) (P_not rfl) rfl ?_
  refine EL_nil (thn_n ?_)
  rcases csome h with ⟨hc8, h⟩ | ⟨hc8, h⟩
  ·refine E_ct hc8 rfl ?_
   refine E_region (EL_mw (.int .i64 (y6.1)) rfl rfl ?_)
   refine EL_in (.int .i64 ((w64 (y6.1 - (1 : Int))))) rfl rfl rfl rfl ?_
   refine EL_at (.int .i64 ((w64 (y6.1 - (1 : Int))))) rfl rfl ?_
   refine EL_nil ?_
   obtain rfl := sinj h
   exact hQ _ _ ⟨g5, hfr, rfl, q1, rfl⟩
  ·refine E_cf hc8 rfl ?_
   refine E_skip ?_
   obtain rfl := sinj h
   exact hQ _ _ ⟨g5, hfr, rfl, q1, rfl⟩
 ·clear hx
  obtain ⟨g9, hfr, z4, j1, i5⟩ := hR
  refine E_seq (E_region (EL_p (fPtr p1 0) (P_fieldAddr at_117_0 z4 (PT.ptr j1)) rfl ?_))
  have j3 := PT_field (part_PayPayList_0).1 j1
  refine EL_p (fPtr (fPtr p1 0) 0) (P_fieldAddr at_25_0 rfl (PT.ptr j3)) rfl ?_
  have q5 := PT_field (part_PayList_0).1 j3
  refine EL_do .plain rfl (D_load (g := g9) Tryz.isAgg22 Tryz.sizeOf22 rfl q5 fun o3 u3 => ?_)
  refine EL_mv i5 rfl ?_
  obtain ⟨u0, i3, h⟩ := bsome h
  refine EL_p (ePtr o3 o0 2) (P_indexAddr (α := PayRate) Tryz.underlying22 Tryz.sizeOf87 rfl u3 rfl i3) rfl ?_
  have z3 := PT_idx u3 i3
  refine EL_p (fPtr (ePtr o3 o0 2) 1) (P_fieldAddr at_87_1 rfl (PT.ptr z3)) rfl ?_
  have t5 := PT_field (part_PayRate_1).1 z3
  refine EL_do .plain rfl (D_load (g := g9) Tryz.isAgg3 Tryz.sizeOf3 rfl t5 fun x6 x5 => ?_)
  obtain rfl := RV_int.1 x5
  refine EL_at (.int .i64 ((u0).Rate)) rfl rfl ?_
  refine EL_nil (thn_n (E_ret ?_))
  obtain rfl := sinj h
  exact end1 rfl rfl (show _ = .int .i64 ((u0).Rate) from rfl) ⟨_, hfr, rfl⟩
def f84 (x0 : PaySheet) : Option (Bool) :=
 Option.bind (α := Bool) (
  bif (decide (((((x0).PayTable).Rows).length : Int) > (6 : Int))) then
   some (true)
  else
   (f108 (((x0).PayTable).Rows) ((fun a0 => f109 a0))).bind fun j1 =>
   some (j1)
  ) fun u0 =>
 some (u0)
def f85 (x0 : PaySheet) : Option (Bool) :=
 jn (σ := Unit) (fun _ =>
  (f108 (((x0).PayTable).Rows) ((fun a0 => f110 a0 x0))).bind fun z4 =>
  some ((!z4))
  ) fun o7 =>
 Option.bind (α := Bool) (
  bif (((((x0).PayTable).Rows).length : Int) == (0 : Int)) then
   some (true)
  else
   (idx (((x0).PayTable).Rows) (0 : Int)).bind fun i3 =>
   bif (((i3).length : Int) == (0 : Int)) then
    some (true)
   else
    bif (((((x0).PayTable).Across).length : Int) != ((((x0).PayTable).Rows).length : Int)) then
     some (true)
    else
     (idx (((x0).PayTable).Rows) (0 : Int)).bind fun i5 =>
     some ((((((x0).PayTable).Down).length : Int) != ((i5).length : Int)))
  ) fun j3 =>
 bif j3 then
  some (false)
 else
  o7 ()
def f86 (x0 : List Int) : Option (Bool) :=
 (f54 ((-1 : Int)) ((1000000 : Int)) x0).bind fun y2 =>
 some (y2)
theorem v111_0 {iO : Nat} {gI : Gh} {wI : World} {x0 : List Int} {up0 : Value} (rp0 : RV gI.m wI x0 up0) {r : List Int} (h : f111 x0 = some r) : FnG Tryz.prog 111 #[up0] gI wI (fun g w v => OM iO g w 3 r v) := by
 unfold f111 at h
 refine fnG_of_E Tryz.func111 rfl (Nat.le_of_ble_eq_true rfl) fun g0 hm hfr => ?_
 have rp0 : RV g0.m wI x0 up0 := hm ▸ rp0
 show E _ 8 none _ _ _ _ _
 refine E_seq (E_region (EL_at (.slice none 0 0) rfl rfl (EL_nil (thn_n ?_))))
 refine E_seq (E_seq (E_region (EL_mw up0 rfl rfl ?_)))
 obtain ⟨a, c, hv, hc, hrow⟩ := RV_list rp0
 refine EL_p (.bool a.isNone) (P_slnil Tryz.underlying23 (show ev _ _ = _ from hv)) rfl (EL_nil (thn_n ?_))
 cases a with
 | none =>
  have hx : x0 = [] := by
   cases x0 with
   | nil => rfl
   | cons y ys => obtain ⟨b, off, hb, _⟩ := hrow (by simp); cases hb
  subst hx
  have hr : r = [] := by unfold apnd at h; split at h <;> simp at h; exact h
  subst hr
  refine E_cond_true rfl (E_seq (E_region ?_))
  refine EL_at (.slice none 0 0) rfl rfl (EL_nil (thn_n ?_))
  obtain ⟨gh, hxh, homh⟩ := OM.handn (i := iO) (t := 3) (α := Int) hfr; exact E_ret (thn_r (end1 rfl rfl (show _ = .slice none 0 0 from rfl) ⟨gh, hxh, homh⟩))
 | some a =>
  refine E_cond_false rfl (E_skip (thn_n ?_))
  refine E_seq (E_region (EL_do .plain rfl (D_buildSlice (g := g0) 1 (xs := ([] : List Int)) (vs := []) Tryz.underlying23 Tryz.sizeOf3 Tryz.zeroValue3 rfl rfl .nil RVs.nil rfl rfl fun g1 w1 v1 hs o1 r1 hxt hfl => ?_)))
  have hfr := hfr.stp hs
  have rp0 := rp0.stp hs
  refine EL_mw up0 rfl rfl ?_
  refine EL_do .plain rfl (D_append (g := g1) (i := 1) Tryz.underlying23 info_3 rfl rfl o1 r1 rfl rp0 h fun g2 w2 v2 hs o2 r2 _ => ?_)
  have hfr := hfr.stp hs
  refine EL_at v2 rfl rfl (EL_nil (thn_n ?_))
  obtain ⟨gh, hxh, homh⟩ := OM.hand (i := iO) plain_int hfr o2 r2; exact E_ret (end1 rfl rfl (show _ = v2 from rfl) ⟨gh, hxh, homh⟩)
def f106 : Nat → (List Int) → (Int) → (Int) → (Int) → Option ((List Int))
 | 0, _, _, _, _ => none
 | n + 1, x0, x1, x2, x3 =>
  lp (σ := (List Int) × Int × Int × Int × Bool × Bool) (fun k1 (j3, o0, u0, j1, i3, o3) =>
   jn (σ := (List Int)) (fun u3 =>
    jn (σ := (List Int)) (fun q5 =>
     Option.bind (α := Int) (
      bif (!i3) then
       none
      else
       some (j1)
      ) fun t5 =>
     none
     ) fun n8 =>
    bif (j1 == (0 : Int)) then
     none
    else
     n8 (u3)
    ) fun k6 =>
   bif (decide ((w64 (u0 - o0)) ≤ (12 : Int))) then
    (f118 j3 o0 u0).bind fun y9 =>
    some (y9)
   else
    k6 (j3)
   ) big (x0, x1, x2, x3, true, true)
def f115 : Nat → (List Int) → (Int) → (Int) → (Int) → (Int → Int → Option Int) → Option ((List Int))
 | 0, _, _, _, _, _ => none
 | n + 1, x0, x1, x2, x3, x4 =>
  jn (σ := (List Int)) (fun j6 =>
   jn (σ := (List Int)) (fun x5 =>
    (shr64 (wu64 (w64 (x1 + x3))) (1 : Int)).bind fun u0 =>
    Option.bind (α := Int × Int) (
     bif (decide (x2 > (w64 u0))) then
      some ((w64 ((w64 ((w64 u0) + x2)) - x3)), (w64 u0))
     else
      some (x1, x2)
     ) fun (l9, n9) =>
    Option.bind (α := Int) (
     lp (σ := Int × Int) (fun nG (o3, z4) =>
      jn (σ := Unit) (fun _ =>
       (shr64 (wu64 (w64 (o3 + z4))) (1 : Int)).bind fun j3 =>
       (idx x5 (w64 ((w64 ((w64 ((w64 u0) + x2)) - (1 : Int))) - (w64 j3)))).bind fun bD =>
       (idx x5 (w64 j3)).bind fun cD =>
       (x4 bD cD).bind fun o9 =>
       bif (!(decide (o9 < (0 : Int)))) then
        nG ((w64 ((w64 j3) + (1 : Int))), z4)
       else
        nG (o3, (w64 j3))
       ) fun dI =>
      bif (decide (o3 < z4)) then
       dI ()
      else
       some (o3)
      ) big (l9, n9)
     ) fun o0 =>
    Option.bind (α := (List Int)) (
     Option.bind (α := Bool) (
      bif (decide (o0 < x2)) then
       some ((decide (x2 < (w64 ((w64 ((w64 u0) + x2)) - o0)))))
      else
       some (false)
      ) fun m7 =>
     bif m7 then
      (f131 x5 o0 x2 ((w64 ((w64 ((w64 u0) + x2)) - o0))) x4).bind fun jI =>
      some (jI)
     else
      some (x5)
     ) fun g8 =>
    Option.bind (α := (List Int)) (
     Option.bind (α := Bool) (
      bif (decide (x1 < o0)) then
       some ((decide (o0 < (w64 u0))))
      else
       some (false)
      ) fun o7 =>
     bif o7 then
      (f115 n g8 x1 o0 ((w64 u0)) x4).bind fun kI =>
      some (kI)
     else
      some (g8)
     ) fun i8 =>
    Option.bind (α := Bool) (
     bif (decide ((w64 u0) < (w64 ((w64 ((w64 u0) + x2)) - o0)))) then
      some ((decide ((w64 ((w64 ((w64 u0) + x2)) - o0)) < x3)))
     else
      some (false)
     ) fun u7 =>
    bif u7 then
     (f115 n i8 ((w64 u0)) ((w64 ((w64 ((w64 u0) + x2)) - o0))) x3 x4).bind fun lI =>
     some (lI)
    else
     some (i8)
    ) fun mI =>
   bif ((w64 (x3 - x2)) == (1 : Int)) then
    Option.bind (α := Int) (
     lp (σ := Int × Int) (fun oG (u3, i5) =>
      jn (σ := Unit) (fun _ =>
       (shr64 (wu64 (w64 (u3 + i5))) (1 : Int)).bind fun q5 =>
       (idx j6 x2).bind fun eD =>
       (idx j6 (w64 q5)).bind fun gD =>
       (x4 eD gD).bind fun t9 =>
       bif (!(decide (t9 < (0 : Int)))) then
        oG ((w64 ((w64 q5) + (1 : Int))), i5)
       else
        oG (u3, (w64 q5))
       ) fun nI =>
      bif (decide (u3 < i5)) then
       nI ()
      else
       some (u3)
      ) big (x1, x2)
     ) fun v6 =>
    Option.bind (α := (List Int)) (
     lp (σ := (List Int) × Int) (fun pI (x6, j1) =>
      jn (σ := Unit) (fun _ =>
       Option.bind (α := (List Int)) (
        (idx x6 (w64 (j1 - (1 : Int)))).bind fun oA =>
        (idx x6 j1).bind fun iD =>
        (idx x6 j1).bind fun jM =>
        (idx ((List.set x6 (Int.toNat j1) oA)) (w64 (j1 - (1 : Int)))).bind fun kM =>
        some ((List.set ((List.set x6 (Int.toNat j1) oA)) (Int.toNat (w64 (j1 - (1 : Int)))) iD))
        ) fun r8 =>
       pI (r8, (w64 (j1 - (1 : Int))))
       ) fun qI =>
      bif (decide (j1 > v6)) then
       qI ()
      else
       some (x6)
      ) big (j6, x2)
     ) fun pA =>
    some (pA)
   else
    mI (j6)
   ) fun rI =>
  bif ((w64 (x2 - x1)) == (1 : Int)) then
   Option.bind (α := Int) (
    lp (σ := Int × Int) (fun pG (z3, l5) =>
     jn (σ := Unit) (fun _ =>
      (shr64 (wu64 (w64 (z3 + l5))) (1 : Int)).bind fun t5 =>
      (idx x0 (w64 t5)).bind fun jD =>
      (idx x0 x1).bind fun kD =>
      (x4 jD kD).bind fun qA =>
      bif (decide (qA < (0 : Int))) then
       pG ((w64 ((w64 t5) + (1 : Int))), l5)
      else
       pG (z3, (w64 t5))
      ) fun sI =>
     bif (decide (z3 < l5)) then
      sI ()
     else
      some (z3)
     ) big (x2, x3)
    ) fun i6 =>
   Option.bind (α := (List Int)) (
    lp (σ := (List Int) × Int) (fun tI (y6, i3) =>
     jn (σ := Unit) (fun _ =>
      Option.bind (α := (List Int)) (
       (idx y6 (w64 (i3 + (1 : Int)))).bind fun rA =>
       (idx y6 i3).bind fun lD =>
       (idx y6 i3).bind fun mM =>
       (idx ((List.set y6 (Int.toNat i3) rA)) (w64 (i3 + (1 : Int)))).bind fun nM =>
       some ((List.set ((List.set y6 (Int.toNat i3) rA)) (Int.toNat (w64 (i3 + (1 : Int)))) lD))
       ) fun t8 =>
      tI (t8, (w64 (i3 + (1 : Int))))
      ) fun uI =>
     bif (decide (i3 < (w64 (i6 - (1 : Int))))) then
      uI ()
     else
      some (y6)
     ) big (x0, x1)
    ) fun uA =>
   some (uA)
  else
   rI (x0)
def f52 (x0 : PayPayList) : Option (Bool) :=
 jn (σ := Unit) (fun _ =>
  some ((decide (((((x0).PayList).Rates).length : Int) > (0 : Int))))
  ) fun i8 =>
 lp (σ := Int × Int × Int) (fun k8 (q5, t5, j1) =>
  bif (decide (j1 < ((((x0).PayList).Rates).length : Int))) then
   jn (σ := Int × Int) (fun (x5, i6) =>
    k8 (x5, i6, (w64 (j1 + (1 : Int))))
    ) fun l8 =>
   (idx (((x0).PayList).Rates) j1).bind fun i3 =>
   jn (σ := Unit) (fun _ =>
    l8 ((w64 ((i3).From + (1 : Int))), (1000 : Int))
    ) fun m8 =>
   Option.bind (α := Bool) (
    (f54 q5 t5 (([(i3).From] : List Int))).bind fun i5 =>
    bif (!i5) then
     some (true)
    else
     (f54 ((0 : Int)) ((10000 : Int)) (([(i3).Rate] : List Int))).bind fun y6 =>
     some ((!y6))
    ) fun o3 =>
   bif o3 then
    some (false)
   else
    m8 ()
  else
   i8 ()
  ) big ((0 : Int), (0 : Int), (0 : Int))
theorem en52 : Enters Tryz.prog 52 := enters_of Tryz.func52 (by kernel_rfl) rfl
theorem wk52 {gI : Gh} {wI : World} {x0 : PayPayList} {up0 : Value} (rp0 : RV gI.m wI x0 up0) {r : Bool} (h : f52 x0 = some r) : Fn Tryz.prog 52 #[up0] gI wI (fun _ _ v => v = .bool (r)) := by
 unfold f52 at h
 refine fn_of_E Tryz.func52 rfl (Nat.le_of_ble_eq_true rfl) fun g0 hm hfr => ?_
 have rp0 : RV g0.m wI x0 up0 := hm ▸ rp0
 show E _ 38 none _ _ _ _ _
 refine E_seq (E_region (EL_do .plain rfl (D_box (g := g0) rfl rp0 fun g1 w1 p1 hs q1 => ?_)))
 have hfr := hfr.ext hs
 refine EL_at (.bool false) rfl rfl ?_
 refine EL_nil (thn_n (E_seq (E_region (EL_at (.int .i64 (0)) rfl rfl ?_))))
 refine EL_at (.int .i64 (0)) rfl rfl ?_
 refine EL_nil (thn_n (E_joinC h (fun (s : Unit) e w => ∃ (g : Gh) , Fr gI wI g w ∧ e 1 = p1 ∧ PT g.m w (x0 : PayPayList) p1) (fun X125 i8 nA h => ?_) ?_))
 ·refine E_seq (E_region (EL_p (fPtr p1 0) (P_fieldAddr at_117_0 rfl (PT.ptr q1)) rfl ?_))
  have n8 := PT_field (part_PayPayList_0).1 q1
  refine EL_p (fPtr (fPtr p1 0) 0) (P_fieldAddr at_25_0 rfl (PT.ptr n8)) rfl ?_
  have xA := PT_field (part_PayList_0).1 n8
  refine EL_do .plain rfl (D_load (g := g1) Tryz.isAgg22 Tryz.sizeOf22 rfl xA fun u3 o8 => ?_)
  refine EL_p (.int .i64 ((((x0).PayList).Rates).length : Int)) (P_len Tryz.underlying22 rfl o8) rfl ?_
  refine EL_mw (.int .i64 (0)) rfl rfl ?_
  refine EL_nil (thn_n (E_block ?_))
  refine E_lp h (fun (s : Int × Int × Int) e w => ∃ (g : Gh) , Fr gI wI g w ∧ e 1 = p1 ∧ PT g.m w (x0 : PayPayList) p1 ∧ e 3 = .int .i64 (s.1) ∧ e 4 = .int .i64 (s.2.1) ∧ e 9 = u3 ∧ RV g.m w (((x0).PayList).Rates : List PayRate) u3 ∧ e 10 = .int .i64 (((((x0).PayList).Rates).length : Int)) ∧ e 11 = .int .i64 (s.2.2)) ⟨g1, hfr, rfl, q1, rfl, rfl, rfl, o8, rfl, rfl⟩ (fun X129 k8 oA => ?_)
  rintro ⟨q5, t5, j1⟩ aC lC ⟨e7, hfr, j6, u0, q8, r8, v6, o0, l5, z3⟩ h
  refine E_seq (E_region (EL_p (.bool ((decide (j1 < ((((x0).PayList).Rates).length : Int))))) (P_int z3 l5 rfl) rfl ?_))
  refine EL_nil (thn_n (E_seq ?_))
  rcases csome h with ⟨a7, h⟩ | ⟨a7, h⟩
  ·refine E_ct a7 rfl ?_
   refine E_skip (thn_n (E_joinC h (fun (s : Int × Int) e w => ∃ (g : Gh) , Fr gI wI g w ∧ e 1 = p1 ∧ PT g.m w (x0 : PayPayList) p1 ∧ e 3 = .int .i64 (s.1) ∧ e 4 = .int .i64 (s.2) ∧ e 9 = u3 ∧ RV g.m w (((x0).PayList).Rates : List PayRate) u3 ∧ e 10 = .int .i64 (((((x0).PayList).Rates).length : Int)) ∧ e 11 = .int .i64 (j1)) (fun X189 l8 pA h => ?_) ?_))
   ·refine E_block ?_
    refine E_seq (E_region ?_)
    obtain ⟨i3, j7, h⟩ := bsome h
    refine EL_p (ePtr u3 j1 2) (P_indexAddr (α := PayRate) Tryz.underlying22 Tryz.sizeOf87 v6 o0 z3 j7) rfl ?_
    have yA := PT_idx o0 j7
    refine EL_do .plain rfl (D_load (g := e7) Tryz.isAgg87 Tryz.sizeOf87 rfl yA fun zA g7 => ?_)
    refine EL_do .plain rfl (D_allocOc (g := e7) 2006 (⟨0, 0⟩ : PayRate) Tryz.zeroValue87 (fun m w => ⟨_, (rep_two rep_int rep_int), rfl⟩) fun aB mC z4 hs b193 cb => ?_)
    have hfr := hfr.stp hs
    have u0 := u0.stp hs
    have o0 := o0.stp hs
    have g7 := g7.stp hs
    clear cb
    refine EL_do .plain rfl (D_storeOc (g := aB) (v := zA) Tryz.sizeOf87 rfl b193 rfl g7 fun t8 qC hs b194 cb => ?_)
    clear cb
    have hfr := hfr.stp hs
    have u0 := u0.stp hs
    have o0 := o0.stp hs
    refine EL_nil (thn_n (E_joinC h (fun (s : Unit) e w => ∃ (g : Gh) , Fr gI wI g w ∧ e 1 = p1 ∧ PT g.m w (x0 : PayPayList) p1 ∧ e 6 = z4 ∧ OB 2006 g w 87 (i3 : PayRate) z4 ∧ e 9 = u3 ∧ RV g.m w (((x0).PayList).Rates : List PayRate) u3 ∧ e 10 = .int .i64 (((((x0).PayList).Rates).length : Int)) ∧ e 11 = .int .i64 (j1)) (fun X219 m8 qA h => ?_) ?_))
    ·obtain ⟨o3, hx, h⟩ := bsome h
     refine E_join (fun e w => ∃ (g : Gh) , Fr gI wI g w ∧ e 1 = p1 ∧ PT g.m w (x0 : PayPayList) p1 ∧ e 6 = z4 ∧ OB 2006 g w 87 (i3 : PayRate) z4 ∧ e 9 = u3 ∧ RV g.m w (((x0).PayList).Rates : List PayRate) u3 ∧ e 10 = .int .i64 (((((x0).PayList).Rates).length : Int)) ∧ e 11 = .int .i64 (j1) ∧ e 28 = .bool (o3)) (fun Q' hQ => ?_) (fun cC rC hR => ?_)
     ·replace h := hx
      clear hx
      refine E_region (EL_mv q8 rfl ?_)
      refine EL_mv r8 rfl ?_
      refine EL_p (fPtr z4 0) (P_fieldAddr at_87_0 rfl (OB.ptr b194)) rfl ?_
      refine EL_do .plain rfl (D_loadF (g := t8) part_PayRate_0.1 Tryz.isAgg3 Tryz.sizeOf3 rfl b194 fun tC bB => ?_)
      obtain rfl := RV_int.1 bB
      refine EL_do .plain rfl (D_buildSlice (g := t8) 3019 (xs := ([(i3).From] : List Int)) (vs := [.int .i64 ((i3).From)]) Tryz.underlying23 Tryz.sizeOf3 Tryz.zeroValue3 rfl rfl (.cons rfl .nil) (RVs.cons (RV_int.2 rfl) RVs.nil) rfl rfl fun cB uC dB hs o233 eB hxt hfl => ?_)
      have hfr := hfr.stp hs
      have u0 := u0.stp hs
      have o0 := o0.stp hs
      have b194 := b194.stp hs rfl
      obtain ⟨i5, rA, h⟩ := bsome h
      refine EL_do .plain rfl (D_call (g := cB) (vs := [.int .i64 (q5), .int .i64 (t5), dB]) en54 (.cons rfl (.cons rfl (.cons rfl .nil))) (wk54 eB rA) fun i7 dC vC hs hr => ?_)
      have hfr := hfr.ext hs
      have u0 := u0.ext hs
      have o0 := o0.ext hs
      have b194 := b194.ext hs
      subst hr
      refine EL_p (.bool (!i5)) (P_not rfl) rfl ?_
      refine EL_mw (.bool (!i5)) rfl rfl ?_
      rcases csome h with ⟨j3, h⟩ | ⟨j3, h⟩
      ·refine EL_s rfl rfl j3 rfl rfl ?_
       iterate 4 refine EL_s rfl rfl j3 rfl rfl ?_
       refine EL_p (.bool true) (P_pick (b := (!i5)) rfl (pick_t j3 rfl)) rfl ?_
       refine EL_nil ?_
       obtain rfl := sinj h
       exact hQ _ _ ⟨i7, hfr, j6, u0, rfl, b194, v6, o0, l5, z3, rfl⟩
      ·refine EL_y (fPtr z4 1) (P_fieldAddr at_87_1 rfl (OB.ptr b194)) rfl rfl j3 rfl ?_
       refine EL_do (.yes2 rfl rfl j3) rfl (D_loadF (g := i7) part_PayRate_1.1 Tryz.isAgg3 Tryz.sizeOf3 rfl b194 fun xC iB => ?_)
       obtain rfl := RV_int.1 iB
       refine EL_do (.yes2 rfl rfl j3) rfl (D_buildSlice (g := i7) 3025 (xs := ([(i3).Rate] : List Int)) (vs := [.int .i64 ((i3).Rate)]) Tryz.underlying23 Tryz.sizeOf3 Tryz.zeroValue3 rfl rfl (.cons rfl .nil) (RVs.cons (RV_int.2 rfl) RVs.nil) rfl rfl fun jB yC lB hs o239 mB hxt hfl => ?_)
       have hfr := hfr.stp hs
       have u0 := u0.stp hs
       have o0 := o0.stp hs
       have b194 := b194.stp hs rfl
       obtain ⟨y6, uA, h⟩ := bsome h
       refine EL_do (.yes2 rfl rfl j3) rfl (D_call (g := jB) (vs := [.int .i64 (0), .int .i64 (10000), lB]) en54 (.cons rfl (.cons rfl (.cons rfl .nil))) (wk54 mB uA) fun nB eC aD hs hr => ?_)
       have hfr := hfr.ext hs
       have u0 := u0.ext hs
       have o0 := o0.ext hs
       have b194 := b194.ext hs
       subst hr
       refine EL_y (.bool (!y6)) (P_not rfl) rfl rfl j3 rfl ?_
       refine EL_p (.bool (!y6)) (P_pick (b := (!i5)) rfl (pick_f j3 rfl)) rfl ?_
       refine EL_nil ?_
       obtain rfl := sinj h
       exact hQ _ _ ⟨nB, hfr, j6, u0, rfl, b194, v6, o0, l5, z3, rfl⟩
     ·clear hx
      obtain ⟨oB, hfr, v8, x8, y8, a9, d9, i9, m7, o7, x6⟩ := hR
      rcases csome h with ⟨b7, h⟩ | ⟨b7, h⟩
      ·refine E_cond_true (Eq.trans (show ev _ _ = .bool (o3) from x6) (congrArg Value.bool b7)) ?_
       refine E_seq (E_region (EL_at (.bool false) rfl rfl ?_))
       refine EL_nil (thn_n (E_ret (thn_r ?_)))
       refine blk_r ?_
       refine thn_r ?_
       refine thn_r ?_
       refine blk_r ?_
       refine thn_r ?_
       obtain rfl := sinj h
       exact end1 rfl rfl (show _ = .bool false from rfl) ⟨_, hfr, rfl⟩
      ·refine E_cond_false (Eq.trans (show ev _ _ = .bool (o3) from x6) (congrArg Value.bool b7)) ?_
       exact E_skip (thn_n (qA () _ _ ⟨oB, hfr, v8, x8, y8, a9, d9, i9, m7, o7⟩ h))
    ·rintro _ iC bD ⟨k9, hfr, l9, n9, o9, c7, t9, u9, u7, v7⟩ h
     refine E_region (EL_p (fPtr z4 0) (P_fieldAddr at_87_0 o9 (OB.ptr c7)) rfl ?_)
     refine EL_do .plain rfl (D_loadF (g := k9) part_PayRate_0.1 Tryz.isAgg3 Tryz.sizeOf3 rfl c7 fun cD tB => ?_)
     obtain rfl := RV_int.1 tB
     refine EL_in (.int .i64 ((w64 ((i3).From + (1 : Int))))) rfl rfl rfl rfl ?_
     refine EL_at (.int .i64 ((w64 ((i3).From + (1 : Int))))) rfl rfl ?_
     refine EL_at (.int .i64 (1000)) rfl rfl ?_
     exact EL_nil (blk_n (thn_n (pA ((w64 ((i3).From + (1 : Int))), (1000 : Int)) _ _ ⟨k9, hfr, l9, n9, rfl, rfl, t9, u9, u7, v7⟩ h)))
   ·rintro ⟨x5, i6⟩ jC eD ⟨vB, hfr, y9, z9, bA, gA, iA, jA, c8, g8⟩ h
    refine E_region (EL_in (.int .i64 ((w64 (j1 + (1 : Int))))) g8 rfl rfl rfl ?_)
    refine EL_mw (.int .i64 ((w64 (j1 + (1 : Int))))) rfl rfl ?_
    exact EL_nil (thn_n (oA (x5, i6, (w64 (j1 + (1 : Int)))) _ _ ⟨vB, hfr, y9, z9, bA, gA, iA, jA, c8, rfl⟩ h))
  ·refine E_cf a7 rfl ?_
   refine E_exit ?_
   refine thn_e ?_
   refine thn_e ?_
   refine blk_hit ?_
   exact thn_n (nA () _ _ ⟨e7, hfr, j6, u0⟩ h)
 ·rintro _ kC gD ⟨xB, hfr, lA, d7⟩ h
  refine E_seq (E_region (EL_p (fPtr p1 0) (P_fieldAddr at_117_0 lA (PT.ptr d7)) rfl ?_))
  have mA := PT_field (part_PayPayList_0).1 d7
  refine EL_p (fPtr (fPtr p1 0) 0) (P_fieldAddr at_25_0 rfl (PT.ptr mA)) rfl ?_
  have yB := PT_field (part_PayList_0).1 mA
  refine EL_do .plain rfl (D_load (g := xB) Tryz.isAgg22 Tryz.sizeOf22 rfl yB fun iD zB => ?_)
  refine EL_p (.int .i64 ((((x0).PayList).Rates).length : Int)) (P_len Tryz.underlying22 rfl zB) rfl ?_
  refine EL_p (.bool ((decide (((((x0).PayList).Rates).length : Int) > (0 : Int))))) (P_int rfl rfl rfl) rfl ?_
  refine EL_p (.bool ((decide (((((x0).PayList).Rates).length : Int) > (0 : Int))))) (P_assign rfl) rfl ?_
  refine EL_nil (thn_n (E_ret ?_))
  obtain rfl := sinj h
  exact end1 rfl rfl (show _ = .bool ((decide (((((x0).PayList).Rates).length : Int) > (0 : Int)))) from rfl) ⟨_, hfr, rfl⟩
def f53 (x0 : List Int) : Option (Bool) :=
 (f54 ((0 : Int)) ((1000 : Int)) x0).bind fun y2 =>
 some (y2)
theorem en53 : Enters Tryz.prog 53 := enters_of Tryz.func53 (by kernel_rfl) rfl
theorem wk53 {gI : Gh} {wI : World} {x0 : List Int} {up0 : Value} (rp0 : RV gI.m wI x0 up0) {r : Bool} (h : f53 x0 = some r) : Fn Tryz.prog 53 #[up0] gI wI (fun _ _ v => v = .bool (r)) := by
 unfold f53 at h
 refine fn_of_E Tryz.func53 rfl (Nat.le_of_ble_eq_true rfl) fun g0 hm hfr => ?_
 have rp0 : RV g0.m wI x0 up0 := hm ▸ rp0
 show E _ 5 none _ _ _ _ _
 refine E_seq (E_region (EL_at (.bool false) rfl rfl ?_))
 refine EL_nil (thn_n (E_seq (E_region (EL_mw up0 rfl rfl ?_))))
 obtain ⟨y2, hy2, h⟩ := bsome h
 refine EL_do .plain rfl (D_call (g := g0) (vs := [.int .i64 (0), .int .i64 (1000), up0]) en54 (.cons rfl (.cons rfl (.cons rfl .nil))) (wk54 rp0 hy2) fun g1 w1_ v1 hs hr => ?_)
 have hfr := hfr.ext hs
 subst hr
 refine EL_at (.bool (y2)) rfl rfl ?_
 refine EL_nil (thn_n (E_ret ?_))
 obtain rfl := sinj h
 exact end1 rfl rfl (show _ = .bool (y2) from rfl) ⟨_, hfr, rfl⟩
def f56 (x0 : PayPayList) (x1 : PayPiece) : Option (Int) :=
 Option.bind (α := Int) (
  lp (σ := Int × Int) (fun m8 (u0, o0) =>
   bif (decide (o0 < (((x1).Extras).length : Int))) then
    Option.bind (α := Int) (
     (idx ((x1).Extras) o0).bind fun l5 =>
     (idx (((x0).PayList).Extras) l5).bind fun v6 =>
     some ((w64 (u0 + v6)))
     ) fun i3 =>
    m8 (i3, (w64 (o0 + (1 : Int))))
   else
    some (u0)
   ) big ((1000 : Int), (0 : Int))
  ) fun j1 =>
 (f80 x0 ((x1).Dense)).bind fun z3 =>
 (quo64 (w64 ((w64 ((x1).Picks * z3)) * j1)) (1000000 : Int)).bind fun q5 =>
 some (q5)
theorem en56 : Enters Tryz.prog 56 := enters_of Tryz.func56 (by kernel_rfl) rfl
theorem wk56 {gI : Gh} {wI : World} {x0 : PayPayList} {x1 : PayPiece} {up0 : Value} (rp0 : RV gI.m wI x0 up0) {up1 : Value} (rp1 : RV gI.m wI x1 up1) {r : Int} (h : f56 x0 x1 = some r) : Fn Tryz.prog 56 #[up0, up1] gI wI (fun _ _ v => v = .int .i64 (r)) := by
 unfold f56 at h
 refine fn_of_E Tryz.func56 rfl (Nat.le_of_ble_eq_true rfl) fun g0 hm hfr => ?_
 have rp0 : RV g0.m wI x0 up0 := hm ▸ rp0
 have rp1 : RV g0.m wI x1 up1 := hm ▸ rp1
 show E _ 34 none _ _ _ _ _
 refine E_seq (E_region (EL_do .plain rfl (D_box (g := g0) rfl rp0 fun g1 w1 p1 hs q1 => ?_)))
 have hfr := hfr.ext hs
 have rp1 := rp1.ext hs
 refine EL_do .plain rfl (D_box (g := g1) rfl rp1 fun g2 w2 p2 hs q2 => ?_)
 have hfr := hfr.ext hs
 have q1 := q1.ext hs
 refine EL_at (.int .i64 (0)) rfl rfl ?_
 refine EL_nil (thn_n (E_seq (E_region (EL_at (.int .i64 (1000)) rfl rfl ?_))))
 refine EL_nil (thn_n ?_)
 obtain ⟨j1, hx, h⟩ := bsome h
 refine E_join (fun e w => ∃ (g : Gh) , Fr gI wI g w ∧ e 2 = p1 ∧ PT g.m w (x0 : PayPayList) p1 ∧ e 3 = p2 ∧ PT g.m w (x1 : PayPiece) p2 ∧ e 5 = .int .i64 (j1)) (fun Q' hQ => ?_) (fun mA pA hR => ?_)
 ·replace h := hx
  clear hx
  refine E_seq (E_region (EL_p (fPtr p2 3) (P_fieldAddr at_27_3 rfl (PT.ptr q2)) rfl ?_))
  have i9 := PT_field (part_PayPiece_3).1 q2
  refine EL_do .plain rfl (D_load (g := g2) Tryz.isAgg23 Tryz.sizeOf23 rfl i9 fun t5 n8 => ?_)
  refine EL_p (.int .i64 (((x1).Extras).length : Int)) (P_len Tryz.underlying23 rfl n8) rfl ?_
  refine EL_mw (.int .i64 (0)) rfl rfl ?_
  refine EL_nil (thn_n (E_block ?_))
  refine E_lp h (fun (s : Int × Int) e w => ∃ (g : Gh) , Fr gI wI g w ∧ e 2 = p1 ∧ PT g.m w (x0 : PayPayList) p1 ∧ e 3 = p2 ∧ PT g.m w (x1 : PayPiece) p2 ∧ e 5 = .int .i64 (s.1) ∧ e 9 = t5 ∧ RV g.m w ((x1).Extras : List Int) t5 ∧ e 10 = .int .i64 ((((x1).Extras).length : Int)) ∧ e 11 = .int .i64 (s.2)) ⟨g2, hfr, rfl, q1, rfl, q2, rfl, rfl, n8, rfl, rfl⟩ (fun X29 m8 t8 => ?_)
  rintro ⟨u0, o0⟩ nA qA ⟨x5, hfr, z4, j3, x6, y6, a7, b7, i5, i6, u3⟩ h
  refine E_seq (E_region (EL_p (.bool ((decide (o0 < (((x1).Extras).length : Int))))) (P_int u3 i6 rfl) rfl ?_))
  refine EL_nil (thn_n (E_seq ?_))
  rcases csome h with ⟨j6, h⟩ | ⟨j6, h⟩
  ·refine E_ct j6 rfl ?_
   refine E_skip (thn_n ?_)
   obtain ⟨i3, hx, h⟩ := bsome h
   refine E_join (fun e w => ∃ (g : Gh) , Fr gI wI g w ∧ e 2 = p1 ∧ PT g.m w (x0 : PayPayList) p1 ∧ e 3 = p2 ∧ PT g.m w (x1 : PayPiece) p2 ∧ e 5 = .int .i64 (i3) ∧ e 9 = t5 ∧ RV g.m w ((x1).Extras : List Int) t5 ∧ e 10 = .int .i64 ((((x1).Extras).length : Int)) ∧ e 11 = .int .i64 (o0)) (fun Q' hQ => ?_) (fun oA rA hR => ?_)
   ·replace h := hx
    clear hx
    refine E_block ?_
    refine E_seq (E_region ?_)
    obtain ⟨l5, d7, h⟩ := bsome h
    refine EL_p (ePtr t5 o0 1) (P_indexAddr (α := Int) Tryz.underlying23 Tryz.sizeOf3 b7 i5 u3 d7) rfl ?_
    have k9 := PT_idx i5 d7
    refine EL_do .plain rfl (D_load (g := x5) Tryz.isAgg3 Tryz.sizeOf3 rfl k9 fun uA l9 => ?_)
    obtain rfl := RV_int.1 l9
    refine EL_at (.int .i64 (l5)) rfl rfl ?_
    refine EL_nil (thn_n (E_region (EL_mv a7 rfl ?_)))
    refine EL_p (fPtr p1 0) (P_fieldAddr at_117_0 z4 (PT.ptr j3)) rfl ?_
    have o8 := PT_field (part_PayPayList_0).1 j3
    refine EL_p (fPtr (fPtr p1 0) 1) (P_fieldAddr at_25_1 rfl (PT.ptr o8)) rfl ?_
    have n9 := PT_field (part_PayList_1).1 o8
    refine EL_do .plain rfl (D_load (g := x5) Tryz.isAgg23 Tryz.sizeOf23 rfl n9 fun o9 q8 => ?_)
    refine EL_mw (.int .i64 (l5)) rfl rfl ?_
    obtain ⟨v6, e7, h⟩ := bsome h
    refine EL_p (ePtr o9 l5 1) (P_indexAddr (α := Int) Tryz.underlying23 Tryz.sizeOf3 rfl q8 rfl e7) rfl ?_
    have t9 := PT_idx q8 e7
    refine EL_do .plain rfl (D_load (g := x5) Tryz.isAgg3 Tryz.sizeOf3 rfl t9 fun xA u9 => ?_)
    obtain rfl := RV_int.1 u9
    refine EL_in (.int .i64 ((w64 (u0 + v6)))) rfl rfl rfl rfl ?_
    refine EL_at (.int .i64 ((w64 (u0 + v6)))) rfl rfl ?_
    refine EL_nil (blk_n ?_)
    obtain rfl := sinj h
    exact hQ _ _ ⟨x5, hfr, z4, j3, x6, y6, rfl, b7, i5, i6, u3⟩
   ·clear hx
    obtain ⟨y9, hfr, j7, m7, o7, u7, v7, c8, g8, g7, i7⟩ := hR
    refine E_region (EL_in (.int .i64 ((w64 (o0 + (1 : Int))))) i7 rfl rfl rfl ?_)
    refine EL_mw (.int .i64 ((w64 (o0 + (1 : Int))))) rfl rfl ?_
    exact EL_nil (thn_n (t8 (i3, (w64 (o0 + (1 : Int)))) _ _ ⟨y9, hfr, j7, m7, o7, u7, v7, c8, g8, g7, rfl⟩ h))
  ·refine E_cf j6 rfl ?_
   refine E_exit ?_
   refine thn_e ?_
   refine thn_e ?_
   refine blk_hit ?_
   obtain rfl := sinj h
   exact hQ _ _ ⟨x5, hfr, z4, j3, x6, y6, a7⟩
 ·clear hx
  obtain ⟨z9, hfr, i8, k8, c7, o3, l8⟩ := hR
  refine E_seq ?_
  have bA := PT_field (part_PayPiece_2).1 o3
  refine L_load (x := .tmp 24) Tryz.isAgg3 Tryz.sizeOf3 bA fun yA gA v8 => ?_
  obtain rfl := RV_int.1 gA
  refine L_load (x := .tmp 2) Tryz.isAgg117 Tryz.sizeOf117 k8 fun r8 iA x8 => ?_
  have jA := PT_field (part_PayPiece_1).1 o3
  refine L_load (x := .tmp 27) Tryz.isAgg3 Tryz.sizeOf3 jA fun zA lA y8 => ?_
  obtain rfl := RV_int.1 lA
  obtain ⟨z3, a9, h⟩ := bsome h
  obtain ⟨q5, d9, h⟩ := bsome h
  refine E_drawL (g := z9) (n := 11) [(5, (fun v g w => v = .int .i64 (z3)))] [0, 1, 2, 3, 4, 5, 6, 7, 8, 9, 10] rfl mixed (by kernel_rfl) (⟨fun _ => up_eq _, trivial⟩) ?_
  refine L_p (fPtr p2 2) rfl rfl (P_fieldAddr at_27_2 c7 (PT.ptr o3)) ?_
  refine L_ld (c := .int .i64 ((x1).Picks)) rfl rfl .plain (fun _ _ h => h.ch) v8 rfl ?_
  refine L_ld (c := r8) rfl rfl .plain (fun _ _ h => h.ch) x8 i8 ?_
  refine L_p (fPtr p2 1) rfl rfl (P_fieldAddr at_27_1 c7 (PT.ptr o3)) ?_
  refine L_ld (c := .int .i64 ((x1).Dense)) rfl rfl .plain (fun _ _ h => h.ch) y8 rfl ?_
  refine L_do (φ := fun v g w => v = .int .i64 (z3)) rfl rfl .plain (fun g w hd => D_call (g := g) (vs := [r8, .int .i64 ((x1).Dense)]) en80 (.cons rfl (.cons rfl .nil)) (wk80 (iA.ext hd.1) a9) fun g' w' v hs hr => ⟨g', hs, hr⟩) (fun aB hv => ?_)
  obtain ⟨_, _, _, rfl⟩ := hv
  refine L_p (.int .i64 ((w64 ((x1).Picks * z3)))) rfl rfl (P_int rfl rfl rfl) ?_
  refine L_p (.int .i64 (j1)) rfl rfl (P_move l8) ?_
  refine L_p (.int .i64 ((w64 ((w64 ((x1).Picks * z3)) * j1)))) rfl rfl (P_int rfl rfl rfl) ?_
  refine L_p (.int .i64 (q5)) rfl rfl (P_int rfl rfl (congrArg (Option.map (Value.int .i64)) d9)) ?_
  refine L_p (.int .i64 (q5)) rfl rfl (P_assign rfl) ?_
  refine L_nl fun bB cB hs => ?_
  have hfr := hfr.ext hs
  clear hs
  refine EL_nil (thn_n (E_ret ?_))
  obtain rfl := sinj h
  exact end1 rfl rfl (show _ = .int .i64 (q5) from rfl) ⟨_, hfr, rfl⟩
def f58 (x0 : PayPayList) (x1 : PayPiece) (x2 : Int) : Option (Int) :=
 (f56 x0 x1).bind fun y6 =>
 (f57 x0 y6 x2).bind fun y9 =>
 some ((w64 (y6 - y9)))
theorem en58 : Enters Tryz.prog 58 := enters_of Tryz.func58 (by kernel_rfl) rfl
theorem wk58 {gI : Gh} {wI : World} {x0 : PayPayList} {x1 : PayPiece} {x2 : Int} {up0 : Value} (rp0 : RV gI.m wI x0 up0) {up1 : Value} (rp1 : RV gI.m wI x1 up1) {r : Int} (h : f58 x0 x1 x2 = some r) : Fn Tryz.prog 58 #[up0, up1, .int .i64 (x2)] gI wI (fun _ _ v => v = .int .i64 (r)) := by
 unfold f58 at h
 refine fn_of_E Tryz.func58 rfl (Nat.le_of_ble_eq_true rfl) fun g0 hm hfr => ?_
 have rp0 : RV g0.m wI x0 up0 := hm ▸ rp0
 have rp1 : RV g0.m wI x1 up1 := hm ▸ rp1
 show E _ 17 none _ _ _ _ _
 refine E_seq (E_region (EL_do .plain rfl (D_box (g := g0) rfl rp0 fun g1 w1 p1 hs q1 => ?_)))
 have hfr := hfr.ext hs
 have rp1 := rp1.ext hs
 refine EL_do .plain rfl (D_box (g := g1) rfl rp1 fun g2 w2 p2 hs q2 => ?_)
 have hfr := hfr.ext hs
 have q1 := q1.ext hs
 refine EL_at (.int .i64 (0)) rfl rfl ?_
 refine EL_nil (thn_n (E_seq (E_region (EL_do .plain rfl (D_load (g := g2) Tryz.isAgg117 Tryz.sizeOf117 rfl q1 fun v3 r3 => ?_)))))
 refine EL_do .plain rfl (D_load (g := g2) Tryz.isAgg27 Tryz.sizeOf27 rfl q2 fun v4 r4 => ?_)
 obtain ⟨y6, o0, h⟩ := bsome h
 refine EL_do .plain rfl (D_call (g := g2) (vs := [v3, v4]) en56 (.cons rfl (.cons rfl .nil)) (wk56 r3 r4 o0) fun g5 w5_ v5 hs hr => ?_)
 have hfr := hfr.ext hs
 have q1 := q1.ext hs
 subst hr
 refine EL_at (.int .i64 (y6)) rfl rfl ?_
 refine EL_nil (thn_n (E_seq (E_region (EL_mw (.int .i64 (y6)) rfl rfl ?_))))
 refine EL_do .plain rfl (D_load (g := g5) Tryz.isAgg117 Tryz.sizeOf117 rfl q1 fun v7 r7 => ?_)
 refine EL_mw (.int .i64 (y6)) rfl rfl ?_
 refine EL_mw (.int .i64 (x2)) rfl rfl ?_
 obtain ⟨y9, u0, h⟩ := bsome h
 refine EL_do .plain rfl (D_call (g := g5) (vs := [v7, .int .i64 (y6), .int .i64 (x2)]) en57 (.cons rfl (.cons rfl (.cons rfl .nil))) (wk57 r7 u0) fun g8 w8_ v8 hs hr => ?_)
 have hfr := hfr.ext hs
 subst hr
 refine EL_in (.int .i64 ((w64 (y6 - y9)))) rfl rfl rfl rfl ?_
 refine EL_at (.int .i64 ((w64 (y6 - y9)))) rfl rfl ?_
 refine EL_nil (thn_n (E_ret ?_))
 obtain rfl := sinj h
 exact end1 rfl rfl (show _ = .int .i64 ((w64 (y6 - y9))) from rfl) ⟨_, hfr, rfl⟩
def f63 (x0 : PayTable) : Option (PaySheet × Int) :=
 jn (σ := PaySheet) (fun v7 =>
  some ((⟨x0⟩ : PaySheet), (0 : Int))
  ) fun i9 =>
 (f84 ((⟨x0⟩ : PaySheet))).bind fun c8 =>
 bif c8 then
  some ((⟨x0⟩ : PaySheet), (5 : Int))
 else
  (f85 ((⟨x0⟩ : PaySheet))).bind fun m7 =>
  bif (!m7) then
   some ((⟨x0⟩ : PaySheet), (4 : Int))
  else
   Option.bind (α := Bool) (
    (f69 ((x0).Rows)).bind fun g8 =>
    (f86 g8).bind fun z4 =>
    bif (!z4) then
     some ((!z4))
    else
     (f72 ((x0).Across)).bind fun i5 =>
     bif (!i5) then
      some ((!i5))
     else
      (f72 ((x0).Down)).bind fun l5 =>
      bif (!l5) then
       some ((!l5))
      else
       (f72 (([(x0).Total] : List Int))).bind fun x5 =>
       some ((!x5))
    ) fun i3 =>
   bif i3 then
    some ((⟨x0⟩ : PaySheet), (2 : Int))
   else
    (f87 ((⟨x0⟩ : PaySheet))).bind fun q5 =>
    bif (decide (((q5).length : Int) > (12 : Int))) then
     some ((⟨x0⟩ : PaySheet), (8 : Int))
    else
     i9 ((⟨⟨[], [], [], 0⟩⟩ : PaySheet))
def f66 (x0 : PayTable) : Option (PaySheet × Int) :=
 (f63 x0).bind fun y5 =>
 Option.bind (α := Int) (
  Option.bind (α := Bool) (
   bif (y5.2 == (0 : Int)) then
    (f87 (y5.1)).bind fun u3 =>
    some ((decide (((u3).length : Int) > (0 : Int))))
   else
    some (false)
   ) fun j3 =>
  bif j3 then
   some ((7 : Int))
  else
   some (y5.2)
  ) fun o3 =>
 some (y5.1, o3)
def f82 (x0 : List Int) : Option ((List Int)) :=
 (f107 ((wu64 ((x0).length : Int)))).bind fun y2 =>
 (f106 big x0 ((0 : Int)) (((x0).length : Int)) y2).bind fun y4 =>
 some (y4)
def f100 (x0 : List Int) (x1 : Int) (x2 : Int → Int → Option Int) : Option ((List Int)) :=
 Option.bind (α := (List Int) × Int) (
  lp (σ := (List Int) × Int × Int) (fun k9 (u3, o3, u0) =>
   jn (σ := Unit) (fun _ =>
    (f114 u3 o3 u0 x2).bind fun y9 =>
    k9 (y9, u0, (w64 (u0 + (20 : Int))))
    ) fun iB =>
   bif (decide (u0 ≤ x1)) then
    iB ()
   else
    some (u3, o3)
   ) big (x0, (0 : Int), (20 : Int))
  ) fun (x5, z3) =>
 (f114 x5 z3 x1 x2).bind fun jB =>
 lp (σ := (List Int) × Int) (fun lB (z4, o0) =>
  jn (σ := Unit) (fun _ =>
   Option.bind (α := (List Int) × Int) (
    lp (σ := (List Int) × Int × Int) (fun mB (i5, j3, j1) =>
     jn (σ := Unit) (fun _ =>
      (f115 big i5 j3 ((w64 (j3 + o0))) j1 x2).bind fun z9 =>
      mB (z9, j1, (w64 (j1 + (w64 ((2 : Int) * o0)))))
      ) fun nB =>
     bif (decide (j1 ≤ x1)) then
      nB ()
     else
      some (i5, j3)
     ) big (z4, (0 : Int), (w64 ((2 : Int) * o0)))
    ) fun (l5, i3) =>
   Option.bind (α := (List Int)) (
    bif (decide ((w64 (i3 + o0)) < x1)) then
     (f115 big l5 i3 ((w64 (i3 + o0))) x1 x2).bind fun oB =>
     some (oB)
    else
     some (l5)
    ) fun q5 =>
   lB (q5, (w64 (o0 * (2 : Int))))
   ) fun tB =>
  bif (decide (o0 < x1)) then
   tB ()
  else
   some (z4)
  ) big (jB, (20 : Int))
def f102 (x0 : List Int) : Option (Bool) :=
 Option.bind (α := Bool) (
  (f116 x0).bind fun y9 =>
  bif y9 then
   (f111 x0).bind fun j3 =>
   (f117 j3).bind fun j1 =>
   some ((((Int.toNat j1 : Nat) : Int) == ((x0).length : Int)))
  else
   some (false)
  ) fun u0 =>
 some (u0)
theorem en102 : Enters Tryz.prog 102 := enters_of Tryz.func102 (by kernel_rfl) rfl
theorem wk102 {gI : Gh} {wI : World} {x0 : List Int} {up0 : Value} (rp0 : RV gI.m wI x0 up0) {r : Bool} (h : f102 x0 = some r) : Fn Tryz.prog 102 #[up0] gI wI (fun _ _ v => v = .bool (r)) := by
 unfold f102 at h
 refine fn_of_E Tryz.func102 rfl (Nat.le_of_ble_eq_true rfl) fun g0 hm hfr => ?_
 have rp0 : RV g0.m wI x0 up0 := hm ▸ rp0
 show E _ 14 none _ _ _ _ _
 refine E_seq (E_region (EL_at (.bool false) rfl rfl ?_))
 refine EL_nil (thn_n ?_)
 obtain ⟨u0, hx, h⟩ := bsome h
 refine E_join (fun e w => ∃ (g : Gh) , Fr gI wI g w ∧ e 2 = .bool (u0)) (fun Q' hQ => ?_) (fun q5 w15 hR => ?_)
 ·replace h := hx
  clear hx
  refine E_region (EL_mw up0 rfl rfl ?_)
  obtain ⟨y9, z3, h⟩ := bsome h
  refine EL_do .plain rfl (D_call (g := g0) (vs := [up0]) en116 (.cons rfl .nil) (wk116 rp0 z3) fun g8 w8_ v8 hs hr => ?_)
  have hfr := hfr.ext hs
  have rp0 := rp0.ext hs
  subst hr
  refine EL_mw (.bool (y9)) rfl rfl ?_
  rcases csome h with ⟨o0, h⟩ | ⟨o0, h⟩
  ·refine EL_y up0 (P_move rfl) rfl rfl o0 rfl ?_
   obtain ⟨j3, o3, h⟩ := bsome h
   refine EL_do (.yes2 rfl rfl o0) rfl (D_callG (g := g8) (vs := [up0]) en111 (.cons rfl .nil) (v111_0 (iO := 9007) rp0 o3) fun z4 t5 i5 hs hr => ?_)
   have hfr := hfr.ext hs
   have rp0 := rp0.ext hs
   have hm11 := hr
   obtain ⟨j1, u3, h⟩ := bsome h
   refine EL_do (.yes2 rfl rfl o0) rfl (D_callM (g := z4) (i := 9007) (vs := [i5]) en117 (.cons rfl .nil) (wk117 hm11 u3) fun l5 x5 i6 hs hr => ?_)
   obtain ⟨sa13, sc13, hsl13⟩ := hr
   subst hsl13
   have hfr := hfr.stp hs
   have rp0 := rp0.stp hs
   refine EL_y (.int .i64 ((Int.toNat j1 : Nat) : Int)) (P_lenSl Tryz.underlying23 rfl) rfl rfl o0 rfl ?_
   refine EL_y up0 (P_move rfl) rfl rfl o0 rfl ?_
   refine EL_y (.int .i64 ((x0).length : Int)) (P_len Tryz.underlying23 rfl rp0) rfl rfl o0 rfl ?_
   refine EL_y (.bool ((((Int.toNat j1 : Nat) : Int) == ((x0).length : Int)))) (P_int rfl rfl rfl) rfl rfl o0 rfl ?_
   refine EL_p (.bool ((((Int.toNat j1 : Nat) : Int) == ((x0).length : Int)))) (P_pick (b := y9) rfl (pick_t o0 rfl)) rfl ?_
   refine EL_at (.bool ((((Int.toNat j1 : Nat) : Int) == ((x0).length : Int)))) rfl rfl ?_
   refine EL_nil ?_
   obtain rfl := sinj h
   exact hQ _ _ ⟨l5, hfr, rfl⟩
  ·refine EL_s rfl rfl o0 rfl rfl ?_
   iterate 6 refine EL_s rfl rfl o0 rfl rfl ?_
   refine EL_p (.bool false) (P_pick (b := y9) rfl (pick_f o0 rfl)) rfl ?_
   refine EL_at (.bool false) rfl rfl ?_
   refine EL_nil ?_
   obtain rfl := sinj h
   exact hQ _ _ ⟨g8, hfr, rfl⟩
 ·clear hx
  obtain ⟨j6, hfr, i3⟩ := hR
  refine E_ret ?_
  obtain rfl := sinj h
  exact end1 rfl rfl (show _ = .bool (u0) from i3) ⟨_, hfr, rfl⟩
def f15 (x0 : PayList) : Option (Int) :=
 jn (σ := Unit) (fun _ =>
  some ((0 : Int))
  ) fun g7 =>
 Option.bind (α := Bool) (
  bif (decide ((((x0).Rates).length : Int) > (6 : Int))) then
   some ((decide ((((x0).Rates).length : Int) > (6 : Int))))
  else
   some ((decide ((((x0).Extras).length : Int) > (8 : Int))))
  ) fun j1 =>
 bif j1 then
  some ((5 : Int))
 else
  Option.bind (α := Bool) (
   (f52 ((⟨x0⟩ : PayPayList))).bind fun q5 =>
   bif (!q5) then
    some ((!q5))
   else
    (f53 ((x0).Extras)).bind fun j3 =>
    bif (!j3) then
     some ((!j3))
    else
     (f54 ((0 : Int)) ((1000 : Int)) (([(x0).Fine] : List Int))).bind fun o3 =>
     bif (!o3) then
      some ((!o3))
     else
      (f53 (([(x0).Cap] : List Int))).bind fun z3 =>
      some ((!z3))
   ) fun u0 =>
  bif u0 then
   some ((2 : Int))
  else
   g7 ()
theorem en15 : Enters Tryz.prog 15 := enters_of Tryz.func15 (by kernel_rfl) rfl
theorem wk15 {gI : Gh} {wI : World} {x0 : PayList} {up0 : Value} (rp0 : RV gI.m wI x0 up0) {r : Int} (h : f15 x0 = some r) : Fn Tryz.prog 15 #[up0] gI wI (fun _ _ v => v = .int .i64 (r)) := by
 unfold f15 at h
 refine fn_of_E Tryz.func15 rfl (Nat.le_of_ble_eq_true rfl) fun g0 hm hfr => ?_
 have rp0 : RV g0.m wI x0 up0 := hm ▸ rp0
 show E _ 31 none _ _ _ _ _
 refine E_seq (E_region (EL_do .plain rfl (D_box (g := g0) rfl rp0 fun g1 w1 p1 hs q1 => ?_)))
 have hfr := hfr.ext hs
 refine EL_at (.int .i64 (0)) rfl rfl ?_
 refine EL_nil (thn_n (E_joinC h (fun (s : Unit) e w => ∃ (g : Gh) , Fr gI wI g w) (fun X58 g7 o7 h => ?_) ?_))
 ·refine E_block ?_
  obtain ⟨j1, hx, h⟩ := bsome h
  refine E_join (fun e w => ∃ (g : Gh) , Fr gI wI g w ∧ e 1 = p1 ∧ PT g.m w (x0 : PayList) p1 ∧ e 3 = .bool (j1)) (fun Q' hQ => ?_) (fun z9 uA hR => ?_)
  ·replace h := hx
   clear hx
   refine E_seq (E_region (EL_p (fPtr p1 0) (P_fieldAddr at_25_0 rfl (PT.ptr q1)) rfl ?_))
   have x8 := PT_field (part_PayList_0).1 q1
   refine EL_do .plain rfl (D_load (g := g1) Tryz.isAgg22 Tryz.sizeOf22 rfl x8 fun xA y8 => ?_)
   refine EL_p (.int .i64 (((x0).Rates).length : Int)) (P_len Tryz.underlying22 rfl y8) rfl ?_
   refine EL_p (.bool ((decide ((((x0).Rates).length : Int) > (6 : Int))))) (P_int rfl rfl rfl) rfl ?_
   refine EL_p (.bool ((decide ((((x0).Rates).length : Int) > (6 : Int))))) (P_assign rfl) rfl ?_
   refine EL_nil (thn_n ?_)
   rcases csome h with ⟨t5, h⟩ | ⟨t5, h⟩
   ·refine E_ct t5 rfl ?_
    refine E_skip ?_
    obtain rfl := sinj h
    exact hQ _ _ ⟨g1, hfr, rfl, q1, rfl⟩
   ·refine E_cf t5 rfl ?_
    refine E_region (EL_p (fPtr p1 1) (P_fieldAddr at_25_1 rfl (PT.ptr q1)) rfl ?_)
    have a9 := PT_field (part_PayList_1).1 q1
    refine EL_do .plain rfl (D_load (g := g1) Tryz.isAgg23 Tryz.sizeOf23 rfl a9 fun yA d9 => ?_)
    refine EL_p (.int .i64 (((x0).Extras).length : Int)) (P_len Tryz.underlying23 rfl d9) rfl ?_
    refine EL_p (.bool ((decide ((((x0).Extras).length : Int) > (8 : Int))))) (P_int rfl rfl rfl) rfl ?_
    refine EL_p (.bool ((decide ((((x0).Extras).length : Int) > (8 : Int))))) (P_assign rfl) rfl ?_
    refine EL_nil ?_
    obtain rfl := sinj h
    exact hQ _ _ ⟨g1, hfr, rfl, q1, rfl⟩
  ·clear hx
   obtain ⟨y6, hfr, i3, o0, x6⟩ := hR
   rcases csome h with ⟨x5, h⟩ | ⟨x5, h⟩
   ·refine E_cond_true (Eq.trans (show ev _ _ = .bool (j1) from x6) (congrArg Value.bool x5)) ?_
    refine E_seq (E_region (EL_at (.int .i64 (5)) rfl rfl ?_))
    refine EL_nil (thn_n (E_ret (blk_r ?_)))
    refine thn_r ?_
    obtain rfl := sinj h
    exact end1 rfl rfl (show _ = .int .i64 (5) from rfl) ⟨_, hfr, rfl⟩
   ·refine E_cond_false (Eq.trans (show ev _ _ = .bool (j1) from x6) (congrArg Value.bool x5)) ?_
    obtain ⟨u0, hx, h⟩ := bsome h
    refine E_join (fun e w => ∃ (g : Gh) , Fr gI wI g w ∧ e 12 = .bool (u0)) (fun Q' hQ => ?_) (fun n9 bA hR => ?_)
    ·replace h := hx
     clear hx
     refine E_seq (E_region (EL_do .plain rfl (D_load (g := y6) Tryz.isAgg25 Tryz.sizeOf25 i3 o0 fun a7 i7 => ?_)))
     have j7 : RV y6.m _ (⟨x0⟩ : PayPayList) (.agg (setCh [[.slice none 0 0, .slice none 0 0, .int .i64 0, .int .i64 0]] [(0, a7)]).flatten.toArray) := RV_build rfl (rep_last (RV.cells i7))
     generalize u7 : (Value.agg (setCh [[.slice none 0 0, .slice none 0 0, .int .i64 0, .int .i64 0]] [(0, a7)]).flatten.toArray) = m7 at j7
     refine EL_p m7 (u7 ▸ P_build (vs := [(0, a7)]) [[.slice none 0 0, .slice none 0 0, .int .i64 0, .int .i64 0]] lay_117 rfl rfl (.cons rfl .nil) ⟨⟨_, rfl, cells_size i7⟩, trivial⟩) rfl ?_
     obtain ⟨q5, v7, h⟩ := bsome h
     refine EL_do .plain rfl (D_call (g := y6) (vs := [m7]) en52 (.cons rfl .nil) (wk52 j7 v7) fun b7 gA zA hs hr => ?_)
     have hfr := hfr.ext hs
     have o0 := o0.ext hs
     subst hr
     refine EL_p (.bool (!q5)) (P_not rfl) rfl ?_
     refine EL_at (.bool (!q5)) rfl rfl ?_
     refine EL_nil (thn_n ?_)
     rcases csome h with ⟨i6, h⟩ | ⟨i6, h⟩
     ·refine E_ct i6 rfl ?_
      refine E_skip ?_
      obtain rfl := sinj h
      exact hQ _ _ ⟨b7, hfr, rfl⟩
     ·refine E_cf i6 rfl ?_
      refine E_seq (E_region (EL_p (fPtr p1 1) (P_fieldAddr at_25_1 i3 (PT.ptr o0)) rfl ?_))
      have i9 := PT_field (part_PayList_1).1 o0
      refine EL_do .plain rfl (D_load (g := b7) Tryz.isAgg23 Tryz.sizeOf23 rfl i9 fun k9 l9 => ?_)
      obtain ⟨j3, c7, h⟩ := bsome h
      refine EL_do .plain rfl (D_call (g := b7) (vs := [k9]) en53 (.cons rfl .nil) (wk53 l9 c7) fun j6 o9 iA hs hr => ?_)
      have hfr := hfr.ext hs
      have o0 := o0.ext hs
      subst hr
      refine EL_p (.bool (!j3)) (P_not rfl) rfl ?_
      refine EL_at (.bool (!j3)) rfl rfl ?_
      refine EL_nil (thn_n ?_)
      rcases csome h with ⟨z4, h⟩ | ⟨z4, h⟩
      ·refine E_ct z4 rfl ?_
       refine E_skip ?_
       obtain rfl := sinj h
       exact hQ _ _ ⟨j6, hfr, rfl⟩
      ·refine E_cf z4 rfl ?_
       refine E_seq (E_region (EL_p (fPtr p1 2) (P_fieldAddr at_25_2 i3 (PT.ptr o0)) rfl ?_))
       have c8 := PT_field (part_PayList_2).1 o0
       refine EL_do .plain rfl (D_load (g := j6) Tryz.isAgg3 Tryz.sizeOf3 rfl c8 fun jA g8 => ?_)
       obtain rfl := RV_int.1 g8
       refine EL_do .plain rfl (D_buildSlice (g := j6) 3023 (xs := ([(x0).Fine] : List Int)) (vs := [.int .i64 ((x0).Fine)]) Tryz.underlying23 Tryz.sizeOf3 Tryz.zeroValue3 rfl rfl (.cons rfl .nil) (RVs.cons (RV_int.2 rfl) RVs.nil) rfl rfl fun i8 lA k8 hs o105 l8 hxt hfl => ?_)
       have hfr := hfr.stp hs
       have o0 := o0.stp hs
       obtain ⟨o3, d7, h⟩ := bsome h
       refine EL_do .plain rfl (D_call (g := i8) (vs := [.int .i64 (0), .int .i64 (1000), k8]) en54 (.cons rfl (.cons rfl (.cons rfl .nil))) (wk54 l8 d7) fun v6 t9 mA hs hr => ?_)
       have hfr := hfr.ext hs
       have o0 := o0.ext hs
       subst hr
       refine EL_p (.bool (!o3)) (P_not rfl) rfl ?_
       refine EL_at (.bool (!o3)) rfl rfl ?_
       refine EL_nil (thn_n ?_)
       rcases csome h with ⟨i5, h⟩ | ⟨i5, h⟩
       ·refine E_ct i5 rfl ?_
        refine E_skip ?_
        obtain rfl := sinj h
        exact hQ _ _ ⟨v6, hfr, rfl⟩
       ·refine E_cf i5 rfl ?_
        refine E_region (EL_p (fPtr p1 3) (P_fieldAddr at_25_3 i3 (PT.ptr o0)) rfl ?_)
        have m8 := PT_field (part_PayList_3).1 o0
        refine EL_do .plain rfl (D_load (g := v6) Tryz.isAgg3 Tryz.sizeOf3 rfl m8 fun nA n8 => ?_)
        obtain rfl := RV_int.1 n8
        refine EL_do .plain rfl (D_buildSlice (g := v6) 3028 (xs := ([(x0).Cap] : List Int)) (vs := [.int .i64 ((x0).Cap)]) Tryz.underlying23 Tryz.sizeOf3 Tryz.zeroValue3 rfl rfl (.cons rfl .nil) (RVs.cons (RV_int.2 rfl) RVs.nil) rfl rfl fun o8 oA q8 hs o111 r8 hxt hfl => ?_)
        have hfr := hfr.stp hs
        obtain ⟨z3, e7, h⟩ := bsome h
        refine EL_do .plain rfl (D_call (g := o8) (vs := [q8]) en53 (.cons rfl .nil) (wk53 r8 e7) fun t8 u9 pA hs hr => ?_)
        have hfr := hfr.ext hs
        subst hr
        refine EL_p (.bool (!z3)) (P_not rfl) rfl ?_
        refine EL_at (.bool (!z3)) rfl rfl ?_
        refine EL_nil ?_
        obtain rfl := sinj h
        exact hQ _ _ ⟨t8, hfr, rfl⟩
    ·clear hx
     obtain ⟨v8, hfr, u3⟩ := hR
     rcases csome h with ⟨l5, h⟩ | ⟨l5, h⟩
     ·refine E_cond_true (Eq.trans (show ev _ _ = .bool (u0) from u3) (congrArg Value.bool l5)) ?_
      refine E_seq (E_region (EL_at (.int .i64 (2)) rfl rfl ?_))
      refine EL_nil (thn_n (E_ret (blk_r ?_)))
      refine thn_r ?_
      obtain rfl := sinj h
      exact end1 rfl rfl (show _ = .int .i64 (2) from rfl) ⟨_, hfr, rfl⟩
     ·refine E_cond_false (Eq.trans (show ev _ _ = .bool (u0) from u3) (congrArg Value.bool l5)) ?_
      exact E_skip (blk_n (thn_n (o7 () _ _ ⟨v8, hfr⟩ h)))
 ·rintro _ y9 qA ⟨rA, hfr⟩ h
  refine E_seq (E_region (EL_at (.int .i64 (0)) rfl rfl ?_))
  refine EL_nil (thn_n (E_ret ?_))
  obtain rfl := sinj h
  exact end1 rfl rfl (show _ = .int .i64 (0) from rfl) ⟨_, hfr, rfl⟩
end Go.Proofs.YtkmbkaoolacofaaGreat
