import Derived.Test.YtkmbkaoolacofaaGreatCode3
set_option maxRecDepth 8000
set_option maxHeartbeats 4000000
namespace Go.Proofs.YtkmbkaoolacofaaGreat
open Go.RowKit
def f41 (x0 : PayTable) : Option (Bool × Int) :=
 (f66 x0).bind fun y4 =>
 jn (σ := Unit) (fun _ =>
  (f67 (y4.1)).bind fun o0 =>
  (f69 (([o0.1, o0.2.1, ([o0.2.2.1, o0.2.2.2] : List Int)] : List (List Int)))).bind fun q5 =>
  (f68 q5 ((fun a0 => f70 a0))).bind fun o3 =>
  some ((!o3), (0 : Int))
  ) fun k8 =>
 bif (y4.2 != (0 : Int)) then
  some (false, y4.2)
 else
  k8 ()
def f42 (x0 : PayTable) : Option (PayEntry × Int) :=
 (f66 x0).bind fun y5 =>
 jn (σ := PayEntry) (fun m8 =>
  (f67 (y5.1)).bind fun o0 =>
  (f71 (o0.1)).bind fun j1 =>
  (f71 (o0.2.1)).bind fun u0 =>
  jn (σ := PayEntry × Bool) (fun (lC, zB) =>
   jn (σ := PayEntry) (fun vD =>
    some (vD, (0 : Int))
    ) fun cF =>
   bif (!zB) then
    some ((⟨0, 0, 0, 0⟩ : PayEntry), (9 : Int))
   else
    cF (lC)
   ) fun mC =>
  Option.bind (α := Bool) (
   bif (j1.2 == (0 : Int)) then
    bif (u0.2 == (0 : Int)) then
     bif (o0.2.2.1 == (0 : Int)) then
      some ((o0.2.2.2 == (0 : Int)))
     else
      some (false)
    else
     some (false)
   else
    some (false)
   ) fun mA =>
  bif mA then
   some (m8, (0 : Int))
  else
   Option.bind (α := Bool) (
    bif (j1.2 == (1 : Int)) then
     bif (u0.2 == (1 : Int)) then
      bif (o0.2.2.1 == (0 : Int)) then
       bif (o0.2.2.2 == (0 : Int)) then
        (idx (o0.1) j1.1).bind fun qC =>
        (idx (o0.2.1) u0.1).bind fun rC =>
        some ((qC == rC))
       else
        some (false)
      else
       some (false)
     else
      some (false)
    else
     some (false)
    ) fun k9 =>
   bif k9 then
    (idx (((y5.1).PayTable).Rows) j1.1).bind fun dF =>
    (idx dF u0.1).bind fun v6 =>
    (idx (o0.1) j1.1).bind fun x6 =>
    (f54 ((0 : Int)) ((1000000 : Int)) (([(w64 (v6 - x6))] : List Int))).bind fun cD =>
    mC ((⟨(1 : Int), j1.1, u0.1, (w64 (v6 - x6))⟩ : PayEntry), cD)
   else
    Option.bind (α := Bool) (
     bif (j1.2 == (1 : Int)) then
      bif (u0.2 == (0 : Int)) then
       bif (o0.2.2.2 == (0 : Int)) then
        (idx (o0.1) j1.1).bind fun dC =>
        some ((dC == (w64 (0 - o0.2.2.1))))
       else
        some (false)
      else
       some (false)
     else
      some (false)
     ) fun c8 =>
    bif c8 then
     (idx (((y5.1).PayTable).Across) j1.1).bind fun n8 =>
     (idx (o0.1) j1.1).bind fun o8 =>
     mC ((⟨(2 : Int), j1.1, 0, (w64 (n8 + o8))⟩ : PayEntry), true)
    else
     Option.bind (α := Bool) (
      bif (j1.2 == (0 : Int)) then
       bif (u0.2 == (1 : Int)) then
        bif (o0.2.2.1 == (0 : Int)) then
         (idx (o0.2.1) u0.1).bind fun eC =>
         some ((eC == (w64 (0 - o0.2.2.2))))
        else
         some (false)
       else
        some (false)
      else
       some (false)
      ) fun g8 =>
     bif g8 then
      (idx (((y5.1).PayTable).Down) u0.1).bind fun q8 =>
      (idx (o0.2.1) u0.1).bind fun r8 =>
      mC ((⟨(3 : Int), 0, u0.1, (w64 (q8 + r8))⟩ : PayEntry), true)
     else
      Option.bind (α := Bool) (
       bif (j1.2 == (0 : Int)) then
        bif (u0.2 == (0 : Int)) then
         some ((o0.2.2.1 == o0.2.2.2))
        else
         some (false)
       else
        some (false)
       ) fun i8 =>
      bif i8 then
       (f72 (([(w64 (((y5.1).PayTable).Total + o0.2.2.1))] : List Int))).bind fun eD =>
       mC ((⟨(4 : Int), 0, 0, (w64 (((y5.1).PayTable).Total + o0.2.2.1))⟩ : PayEntry), eD)
      else
       mC (m8, false)
  ) fun mJ =>
 bif (y5.2 != (0 : Int)) then
  some ((⟨0, 0, 0, 0⟩ : PayEntry), y5.2)
 else
  mJ ((⟨0, 0, 0, 0⟩ : PayEntry))
def f75 (x0 : List Int) (x1 : Int → Int → Option Int) : Option ((List Int)) :=
 (f100 x0 (((x0).length : Int)) x1).bind fun y2 =>
 some (y2)
def f79 (x0 : PayPayList) (x1 : PayPiece) : Option (Int) :=
 jn (σ := Unit) (fun _ =>
  some ((0 : Int))
  ) fun m7 =>
 Option.bind (α := Bool) (
  (f54 ((0 : Int)) ((50 : Int)) (([(x1).Weaver] : List Int))).bind fun l5 =>
  bif (!l5) then
   some ((!l5))
  else
   (f54 ((0 : Int)) ((1000 : Int)) (([(x1).Dense] : List Int))).bind fun q5 =>
   bif (!q5) then
    some ((!q5))
   else
    (f54 ((0 : Int)) ((1000000 : Int)) (([(x1).Picks] : List Int))).bind fun j1 =>
    bif (!j1) then
     some ((!j1))
    else
     (f54 ((0 : Int)) ((100 : Int)) (([(x1).Faults] : List Int))).bind fun i3 =>
     some ((!i3))
  ) fun u0 =>
 bif u0 then
  some ((2 : Int))
 else
  (f54 ((0 : Int)) ((w64 (((((x0).PayList).Extras).length : Int) - (1 : Int)))) ((x1).Extras)).bind fun j3 =>
  bif (!j3) then
   some ((7 : Int))
  else
   (f102 ((x1).Extras)).bind fun y125 =>
   bif (!y125) then
    some ((4 : Int))
   else
    m7 ()
theorem en79 : Enters Tryz.prog 79 := enters_of Tryz.func79 (by kernel_rfl) rfl
theorem wk79 {gI : Gh} {wI : World} {x0 : PayPayList} {x1 : PayPiece} {up0 : Value} (rp0 : RV gI.m wI x0 up0) {up1 : Value} (rp1 : RV gI.m wI x1 up1) {r : Int} (h : f79 x0 x1 = some r) : Fn Tryz.prog 79 #[up0, up1] gI wI (fun _ _ v => v = .int .i64 (r)) := by
 unfold f79 at h
 refine fn_of_E Tryz.func79 rfl (Nat.le_of_ble_eq_true rfl) fun g0 hm hfr => ?_
 have rp0 : RV g0.m wI x0 up0 := hm ▸ rp0
 have rp1 : RV g0.m wI x1 up1 := hm ▸ rp1
 show E _ 41 none _ _ _ _ _
 refine E_seq (E_region (EL_do .plain rfl (D_box (g := g0) rfl rp0 fun g1 w1 p1 hs q1 => ?_)))
 have hfr := hfr.ext hs
 have rp1 := rp1.ext hs
 refine EL_do .plain rfl (D_box (g := g1) rfl rp1 fun g2 w2 p2 hs q2 => ?_)
 have hfr := hfr.ext hs
 have q1 := q1.ext hs
 refine EL_at (.int .i64 (0)) rfl rfl ?_
 refine EL_nil (thn_n (E_joinC h (fun (s : Unit) e w => ∃ (g : Gh) , Fr gI wI g w) (fun X65 m7 n7 h => ?_) ?_))
 ·refine E_block ?_
  obtain ⟨u0, hx, h⟩ := bsome h
  refine E_join (fun e w => ∃ (g : Gh) , Fr gI wI g w ∧ e 2 = p1 ∧ PT g.m w (x0 : PayPayList) p1 ∧ e 3 = p2 ∧ PT g.m w (x1 : PayPiece) p2 ∧ e 5 = .bool (u0)) (fun Q' hQ => ?_) (fun jA qA hR => ?_)
  ·replace h := hx
   clear hx
   refine E_seq (E_region (EL_p (fPtr p2 0) (P_fieldAddr at_27_0 rfl (PT.ptr q2)) rfl ?_))
   have l9 := PT_field (part_PayPiece_0).1 q2
   refine EL_do .plain rfl (D_load (g := g2) Tryz.isAgg3 Tryz.sizeOf3 rfl l9 fun mB n9 => ?_)
   obtain rfl := RV_int.1 n9
   refine EL_do .plain rfl (D_buildSlice (g := g2) 3008 (xs := ([(x1).Weaver] : List Int)) (vs := [.int .i64 ((x1).Weaver)]) Tryz.underlying23 Tryz.sizeOf3 Tryz.zeroValue3 rfl rfl (.cons rfl .nil) (RVs.cons (RV_int.2 rfl) RVs.nil) rfl rfl fun o9 nB t9 hs o91 u9 hxt hfl => ?_)
   have hfr := hfr.stp hs
   have q1 := q1.stp hs
   have q2 := q2.stp hs
   obtain ⟨l5, o7, h⟩ := bsome h
   refine EL_do .plain rfl (D_call (g := o9) (vs := [.int .i64 (0), .int .i64 (50), t9]) en54 (.cons rfl (.cons rfl (.cons rfl .nil))) (wk54 u9 o7) fun y6 rA oB hs hr => ?_)
   have hfr := hfr.ext hs
   have q1 := q1.ext hs
   have q2 := q2.ext hs
   subst hr
   refine EL_p (.bool (!l5)) (P_not rfl) rfl ?_
   refine EL_at (.bool (!l5)) rfl rfl ?_
   refine EL_nil (thn_n ?_)
   rcases csome h with ⟨j6, h⟩ | ⟨j6, h⟩
   ·refine E_ct j6 rfl ?_
    refine E_skip ?_
    obtain rfl := sinj h
    exact hQ _ _ ⟨y6, hfr, rfl, q1, rfl, q2, rfl⟩
   ·refine E_cf j6 rfl ?_
    refine E_seq (E_region (EL_p (fPtr p2 1) (P_fieldAddr at_27_1 rfl (PT.ptr q2)) rfl ?_))
    have y9 := PT_field (part_PayPiece_1).1 q2
    refine EL_do .plain rfl (D_load (g := y6) Tryz.isAgg3 Tryz.sizeOf3 rfl y9 fun tB z9 => ?_)
    obtain rfl := RV_int.1 z9
    refine EL_do .plain rfl (D_buildSlice (g := y6) 3013 (xs := ([(x1).Dense] : List Int)) (vs := [.int .i64 ((x1).Dense)]) Tryz.underlying23 Tryz.sizeOf3 Tryz.zeroValue3 rfl rfl (.cons rfl .nil) (RVs.cons (RV_int.2 rfl) RVs.nil) rfl rfl fun bA vB gA hs o97 iA hxt hfl => ?_)
    have hfr := hfr.stp hs
    have q1 := q1.stp hs
    have q2 := q2.stp hs
    obtain ⟨q5, u7, h⟩ := bsome h
    refine EL_do .plain rfl (D_call (g := bA) (vs := [.int .i64 (0), .int .i64 (1000), gA]) en54 (.cons rfl (.cons rfl (.cons rfl .nil))) (wk54 iA u7) fun a7 uA xB hs hr => ?_)
    have hfr := hfr.ext hs
    have q1 := q1.ext hs
    have q2 := q2.ext hs
    subst hr
    refine EL_p (.bool (!q5)) (P_not rfl) rfl ?_
    refine EL_at (.bool (!q5)) rfl rfl ?_
    refine EL_nil (thn_n ?_)
    rcases csome h with ⟨o3, h⟩ | ⟨o3, h⟩
    ·refine E_ct o3 rfl ?_
     refine E_skip ?_
     obtain rfl := sinj h
     exact hQ _ _ ⟨a7, hfr, rfl, q1, rfl, q2, rfl⟩
    ·refine E_cf o3 rfl ?_
     refine E_seq (E_region (EL_p (fPtr p2 2) (P_fieldAddr at_27_2 rfl (PT.ptr q2)) rfl ?_))
     have v7 := PT_field (part_PayPiece_2).1 q2
     refine EL_do .plain rfl (D_load (g := a7) Tryz.isAgg3 Tryz.sizeOf3 rfl v7 fun xA c8 => ?_)
     obtain rfl := RV_int.1 c8
     refine EL_do .plain rfl (D_buildSlice (g := a7) 3018 (xs := ([(x1).Picks] : List Int)) (vs := [.int .i64 ((x1).Picks)]) Tryz.underlying23 Tryz.sizeOf3 Tryz.zeroValue3 rfl rfl (.cons rfl .nil) (RVs.cons (RV_int.2 rfl) RVs.nil) rfl rfl fun g8 yA i8 hs o103 k8 hxt hfl => ?_)
     have hfr := hfr.stp hs
     have q1 := q1.stp hs
     have q2 := q2.stp hs
     obtain ⟨j1, e7, h⟩ := bsome h
     refine EL_do .plain rfl (D_call (g := g8) (vs := [.int .i64 (0), .int .i64 (1000000), i8]) en54 (.cons rfl (.cons rfl (.cons rfl .nil))) (wk54 k8 e7) fun v6 lA zA hs hr => ?_)
     have hfr := hfr.ext hs
     have q1 := q1.ext hs
     have q2 := q2.ext hs
     subst hr
     refine EL_p (.bool (!j1)) (P_not rfl) rfl ?_
     refine EL_at (.bool (!j1)) rfl rfl ?_
     refine EL_nil (thn_n ?_)
     rcases csome h with ⟨u3, h⟩ | ⟨u3, h⟩
     ·refine E_ct u3 rfl ?_
      refine E_skip ?_
      obtain rfl := sinj h
      exact hQ _ _ ⟨v6, hfr, rfl, q1, rfl, q2, rfl⟩
     ·refine E_cf u3 rfl ?_
      refine E_region (EL_p (fPtr p2 4) (P_fieldAddr at_27_4 rfl (PT.ptr q2)) rfl ?_)
      have l8 := PT_field (part_PayPiece_4).1 q2
      refine EL_do .plain rfl (D_load (g := v6) Tryz.isAgg3 Tryz.sizeOf3 rfl l8 fun aB m8 => ?_)
      obtain rfl := RV_int.1 m8
      refine EL_do .plain rfl (D_buildSlice (g := v6) 3023 (xs := ([(x1).Faults] : List Int)) (vs := [.int .i64 ((x1).Faults)]) Tryz.underlying23 Tryz.sizeOf3 Tryz.zeroValue3 rfl rfl (.cons rfl .nil) (RVs.cons (RV_int.2 rfl) RVs.nil) rfl rfl fun n8 bB o8 hs o109 q8 hxt hfl => ?_)
      have hfr := hfr.stp hs
      have q1 := q1.stp hs
      have q2 := q2.stp hs
      obtain ⟨i3, g7, h⟩ := bsome h
      refine EL_do .plain rfl (D_call (g := n8) (vs := [.int .i64 (0), .int .i64 (100), o8]) en54 (.cons rfl (.cons rfl (.cons rfl .nil))) (wk54 q8 g7) fun r8 mA cB hs hr => ?_)
      have hfr := hfr.ext hs
      have q1 := q1.ext hs
      have q2 := q2.ext hs
      subst hr
      refine EL_p (.bool (!i3)) (P_not rfl) rfl ?_
      refine EL_at (.bool (!i3)) rfl rfl ?_
      refine EL_nil ?_
      obtain rfl := sinj h
      exact hQ _ _ ⟨r8, hfr, rfl, q1, rfl, q2, rfl⟩
  ·clear hx
   obtain ⟨x6, hfr, b7, t5, x5, o0, i6⟩ := hR
   rcases csome h with ⟨z3, h⟩ | ⟨z3, h⟩
   ·refine E_cond_true (Eq.trans (show ev _ _ = .bool (u0) from i6) (congrArg Value.bool z3)) ?_
    refine E_seq (E_region (EL_at (.int .i64 (2)) rfl rfl ?_))
    refine EL_nil (thn_n (E_ret (blk_r ?_)))
    refine thn_r ?_
    obtain rfl := sinj h
    exact end1 rfl rfl (show _ = .int .i64 (2) from rfl) ⟨_, hfr, rfl⟩
   ·refine E_cond_false (Eq.trans (show ev _ _ = .bool (u0) from i6) (congrArg Value.bool z3)) ?_
    refine E_seq (E_region (EL_p (fPtr p1 0) (P_fieldAddr at_117_0 b7 (PT.ptr t5)) rfl ?_))
    have c7 := PT_field (part_PayPayList_0).1 t5
    refine EL_p (fPtr (fPtr p1 0) 1) (P_fieldAddr at_25_1 rfl (PT.ptr c7)) rfl ?_
    have t8 := PT_field (part_PayList_1).1 c7
    refine EL_do .plain rfl (D_load (g := x6) Tryz.isAgg23 Tryz.sizeOf23 rfl t8 fun dB v8 => ?_)
    refine EL_p (.int .i64 ((((x0).PayList).Extras).length : Int)) (P_len Tryz.underlying23 rfl v8) rfl ?_
    refine EL_p (.int .i64 ((w64 (((((x0).PayList).Extras).length : Int) - (1 : Int))))) (P_int rfl rfl rfl) rfl ?_
    refine EL_p (fPtr p2 3) (P_fieldAddr at_27_3 x5 (PT.ptr o0)) rfl ?_
    have x8 := PT_field (part_PayPiece_3).1 o0
    refine EL_do .plain rfl (D_load (g := x6) Tryz.isAgg23 Tryz.sizeOf23 rfl x8 fun y8 a9 => ?_)
    obtain ⟨j3, i7, h⟩ := bsome h
    refine EL_do .plain rfl (D_call (g := x6) (vs := [.int .i64 (0), .int .i64 ((w64 (((((x0).PayList).Extras).length : Int) - (1 : Int)))), y8]) en54 (.cons rfl (.cons rfl (.cons rfl .nil))) (wk54 a9 i7) fun d7 nA eB hs hr => ?_)
    have hfr := hfr.ext hs
    have o0 := o0.ext hs
    subst hr
    refine EL_p (.bool (!j3)) (P_not rfl) rfl ?_
    refine EL_at (.bool (!j3)) rfl rfl ?_
    refine EL_nil (thn_n ?_)
    rcases csome h with ⟨z4, h⟩ | ⟨z4, h⟩
    ·refine E_ct z4 rfl ?_
     refine E_seq (E_region (EL_at (.int .i64 (7)) rfl rfl ?_))
     refine EL_nil (thn_n (E_ret (blk_r ?_)))
     refine thn_r ?_
     obtain rfl := sinj h
     exact end1 rfl rfl (show _ = .int .i64 (7) from rfl) ⟨_, hfr, rfl⟩
    ·refine E_cf z4 rfl ?_
     refine E_seq (E_region (EL_p (fPtr p2 3) (P_fieldAddr at_27_3 x5 (PT.ptr o0)) rfl ?_))
     have d9 := PT_field (part_PayPiece_3).1 o0
     refine EL_do .plain rfl (D_load (g := d7) Tryz.isAgg23 Tryz.sizeOf23 rfl d9 fun e9 i9 => ?_)
     obtain ⟨y125, j7, h⟩ := bsome h
     refine EL_do .plain rfl (D_call (g := d7) (vs := [e9]) en102 (.cons rfl .nil) (wk102 i9 j7) fun k9 oA iB hs hr => ?_)
     have hfr := hfr.ext hs
     subst hr
     refine EL_p (.bool (!y125)) (P_not rfl) rfl ?_
     refine EL_at (.bool (!y125)) rfl rfl ?_
     refine EL_nil (thn_n ?_)
     rcases csome h with ⟨i5, h⟩ | ⟨i5, h⟩
     ·refine E_ct i5 rfl ?_
      refine E_seq (E_region (EL_at (.int .i64 (4)) rfl rfl ?_))
      refine EL_nil (thn_n (E_ret (blk_r ?_)))
      refine thn_r ?_
      obtain rfl := sinj h
      exact end1 rfl rfl (show _ = .int .i64 (4) from rfl) ⟨_, hfr, rfl⟩
     ·refine E_cf i5 rfl ?_
      exact E_skip (blk_n (thn_n (n7 () _ _ ⟨k9, hfr⟩ h)))
 ·rintro _ pA jB ⟨lB, hfr⟩ h
  refine E_seq (E_region (EL_at (.int .i64 (0)) rfl rfl ?_))
  refine EL_nil (thn_n (E_ret ?_))
  obtain rfl := sinj h
  exact end1 rfl rfl (show _ = .int .i64 (0) from rfl) ⟨_, hfr, rfl⟩
def f50 (x0 : Int) (x1 : List Int) : Option ((List Int) × Int) :=
 Option.bind (α := Int) (
  lp (σ := Int × Int) (fun nG (n7, i3) =>
   bif (decide (i3 < ((x1).length : Int))) then
    Option.bind (α := Int) (
     (idx x1 i3).bind fun n8 =>
     some ((w64 (n7 + (min64 (max64 n8 (0 : Int)) (1000 : Int)))))
     ) fun o8 =>
    nG (o8, (w64 (i3 + (1 : Int))))
   else
    some (n7)
   ) big ((0 : Int), (0 : Int))
  ) fun o3 =>
 jn (σ := (List Int)) (fun cC =>
  (mks 8 (0 : Int) (((x1).length : Int))).bind fun cB =>
  Option.bind (α := (List Int) × Int × (List Int)) (
   lp (σ := (List Int) × Int × (List Int) × Int) (fun nD (a9, a7, i7, o0) =>
    bif (decide (o0 < ((x1).length : Int))) then
     Option.bind (α := (List Int) × Int × (List Int)) (
      (idx x1 o0).bind fun d9 =>
      (quo64 (w64 (x0 * d9)) o3).bind fun y158 =>
      (apnd 8 a9 (([y158] : List Int))).bind fun y161 =>
      (idx i7 o0).bind fun tG =>
      (idx y161 o0).bind fun mA =>
      some (y161, (w64 (a7 - mA)), (List.set i7 (Int.toNat o0) o0))
      ) fun (o7, u7, j7) =>
     nD (o7, u7, j7, (w64 (o0 + (1 : Int))))
    else
     some (a9, a7, i7)
    ) big (cC, x0, cB, (0 : Int))
   ) fun (e9, u3, i8) =>
  (f75 i8 ((fun a0 a1 => f76 a0 a1 x0 x1 o3))).bind fun oD =>
  Option.bind (α := (List Int)) (
   (cut oD 0 u3).bind fun y6 =>
   lp (σ := (List Int) × Int) (fun sD (b7, u0) =>
    bif (decide (u0 < ((y6).length : Int))) then
     Option.bind (α := (List Int)) (
      (idx y6 u0).bind fun c7 =>
      (idx b7 c7).bind fun nA =>
      (idx b7 c7).bind fun uG =>
      some ((List.set b7 (Int.toNat c7) ((w64 (nA + (1 : Int))))))
      ) fun v7 =>
     sD (v7, (w64 (u0 + (1 : Int))))
    else
     some (b7)
    ) big (e9, (0 : Int))
   ) fun i9 =>
  some (i9, (0 : Int))
  ) fun oG =>
 (f54 ((0 : Int)) ((1000000000 : Int)) (([x0] : List Int))).bind fun dC =>
 bif (!dC) then
  some (([] : List Int), (3 : Int))
 else
  bif (decide (((x1).length : Int) > (10 : Int))) then
   some (([] : List Int), (5 : Int))
  else
   Option.bind (α := Bool) (
    (f54 ((0 : Int)) ((1000 : Int)) x1).bind fun dB =>
    bif (!dB) then
     some ((!dB))
    else
     some ((o3 == (0 : Int)))
    ) fun d7 =>
   bif d7 then
    some (([] : List Int), (2 : Int))
   else
    oG (([] : List Int))
def f55 (x0 : PayList) (x1 : PayPiece) : Option (PayPayList × Int) :=
 jn (σ := PayPayList) (fun j6 =>
  (f79 ((⟨x0⟩ : PayPayList)) x1).bind fun u0 =>
  some ((⟨x0⟩ : PayPayList), u0)
  ) fun y6 =>
 (f15 x0).bind fun o0 =>
 bif (o0 != (0 : Int)) then
  some ((⟨x0⟩ : PayPayList), o0)
 else
  y6 ((⟨⟨[], [], 0, 0⟩⟩ : PayPayList))
theorem en55 : Enters Tryz.prog 55 := enters_of Tryz.func55 (by kernel_rfl) rfl
theorem wk55 {gI : Gh} {wI : World} {x0 : PayList} {x1 : PayPiece} {up0 : Value} (rp0 : RV gI.m wI x0 up0) {up1 : Value} (rp1 : RV gI.m wI x1 up1) {r : PayPayList × Int} (h : f55 x0 x1 = some r) : Fn Tryz.prog 55 #[up0, up1] gI wI (fun m w v => ∃ y0 y1, v = .tuple #[y0, y1] ∧ RV m w (r.1) y0 ∧ y1 = .int .i64 (r.2)) := by
 unfold f55 at h
 refine fn_of_E Tryz.func55 rfl (Nat.le_of_ble_eq_true rfl) fun g0 hm hfr => ?_
 have rp0 : RV g0.m wI x0 up0 := hm ▸ rp0
 have rp1 : RV g0.m wI x1 up1 := hm ▸ rp1
 show E _ 20 none _ _ _ _ _
 refine E_seq (E_region (EL_do .plain rfl (D_box (g := g0) rfl rp0 fun g1 w1 p1 hs q1 => ?_)))
 have hfr := hfr.ext hs
 have rp1 := rp1.ext hs
 refine EL_do .plain rfl (D_box (g := g1) rfl rp1 fun g2 w2 p2 hs q2 => ?_)
 have hfr := hfr.ext hs
 have q1 := q1.ext hs
 refine EL_do .plain rfl (D_allocOc (g := g2) 2004 (⟨⟨[], [], 0, 0⟩⟩ : PayPayList) Tryz.zeroValue117 (fun m w => ⟨_, (rep_two rep_nil (rep_two rep_nil (rep_two rep_int rep_int))), rfl⟩) fun g3 w3 p3 hs b3 cb => ?_)
 have hfr := hfr.stp hs
 have q1 := q1.stp hs
 have q2 := q2.stp hs
 have i3 : OSF 2004 60400 0 g3 w3 87 117 ([] : List PayRate) p3 := cb.osf (by rfl)
 have j3 : OSF 2004 60401 1 g3 w3 3 117 ([] : List Int) p3 := cb.osf (by rfl)
 clear cb
 refine EL_at (.int .i64 (0)) rfl rfl ?_
 refine EL_nil (thn_n (E_joinC h (fun (s : PayPayList) e w => ∃ (g : Gh) , Fr gI wI g w ∧ e 2 = p1 ∧ PT g.m w (x0 : PayList) p1 ∧ e 3 = p2 ∧ PT g.m w (x1 : PayPiece) p2 ∧ e 4 = p3 ∧ OB 2004 g w 117 (s : PayPayList) p3 ∧ OSF 2004 60400 0 g w 87 117 (((s).PayList).Rates) p3 ∧ OSF 2004 60401 1 g w 3 117 (((s).PayList).Extras) p3) (fun X12 y6 n7 h => ?_) ?_))
 ·refine E_seq (E_region (EL_do .plain rfl (D_load (g := g3) Tryz.isAgg25 Tryz.sizeOf25 rfl q1 fun o8 q8 => ?_)))
  obtain ⟨o0, o7, h⟩ := bsome h
  refine EL_do .plain rfl (D_call (g := g3) (vs := [o8]) en15 (.cons rfl .nil) (wk15 q8 o7) fun u3 v8 y8 hs hr => ?_)
  have hfr := hfr.ext hs
  have q1 := q1.ext hs
  have q2 := q2.ext hs
  have i3 := i3.ext hs
  have j3 := j3.ext hs
  have b3 := b3.ext hs
  subst hr
  refine EL_at (.int .i64 (o0)) rfl rfl ?_
  refine EL_nil (thn_n (E_seq (E_region (EL_mw (.int .i64 (o0)) rfl rfl ?_))))
  refine EL_in (.bool ((o0 != (0 : Int)))) rfl rfl rfl rfl ?_
  refine EL_nil (thn_n ?_)
  rcases csome h with ⟨o3, h⟩ | ⟨o3, h⟩
  ·refine E_ct o3 rfl ?_
   refine E_seq (E_region (EL_do .plain rfl (D_load (g := u3) Tryz.isAgg25 Tryz.sizeOf25 rfl q1 fun x5 a7 => ?_)))
   have b7 : RV u3.m _ (⟨x0⟩ : PayPayList) (.agg (setCh [[.slice none 0 0, .slice none 0 0, .int .i64 0, .int .i64 0]] [(0, x5)]).flatten.toArray) := RV_build rfl (rep_last (RV.cells a7))
   generalize u7 : (Value.agg (setCh [[.slice none 0 0, .slice none 0 0, .int .i64 0, .int .i64 0]] [(0, x5)]).flatten.toArray) = c7 at b7
   refine EL_p c7 (u7 ▸ P_build (vs := [(0, x5)]) [[.slice none 0 0, .slice none 0 0, .int .i64 0, .int .i64 0]] lay_117 rfl rfl (.cons rfl .nil) ⟨⟨_, rfl, cells_size a7⟩, trivial⟩) rfl ?_
   refine EL_mw (.int .i64 (o0)) rfl rfl ?_
   refine EL_do .plain rfl (D_storeOc (g := u3) (v := c7) Tryz.sizeOf117 rfl b3 rfl b7 fun a9 d9 hs b19 cb => ?_)
   clear cb
   have hfr := hfr.stp hs
   refine EL_at (.int .i64 (o0)) rfl rfl ?_
   refine EL_nil (thn_n (E_ret (thn_r ?_)))
   obtain rfl := sinj h
   obtain ⟨ad20, cv20, hp20, v7, cr20⟩ := ob_read Tryz.isAgg117 Tryz.sizeOf117 b19
   exact endm_ct rfl rfl ((show _ = p3 from rfl).trans hp20) v7 (show _ = .int .i64 (o0) from rfl) ⟨_, hfr, _, _, rfl, cr20, rfl⟩
  ·refine E_cf o3 rfl ?_
   exact E_skip (thn_n (n7 ((⟨⟨[], [], 0, 0⟩⟩ : PayPayList)) _ _ ⟨u3, hfr, rfl, q1, rfl, q2, rfl, b3, i3, j3⟩ h))
 ·rintro j6 x8 e9 ⟨i6, hfr, z3, z4, v6, x6, i5, j1, u4_0_21, u4_1_21⟩ h
  refine E_seq (L_load (x := .tmp 2) Tryz.isAgg25 Tryz.sizeOf25 z4 fun l5 d7 c8 => ?_)
  have q5 : RV i6.m _ (⟨x0⟩ : PayPayList) (.agg (setCh [[.slice none 0 0, .slice none 0 0, .int .i64 0, .int .i64 0]] [(0, l5)]).flatten.toArray) := RV_build rfl (rep_last (RV.cells d7))
  generalize g8 : (Value.agg (setCh [[.slice none 0 0, .slice none 0 0, .int .i64 0, .int .i64 0]] [(0, l5)]).flatten.toArray) = e7 at q5
  refine L_load (x := .tmp 2) Tryz.isAgg25 Tryz.sizeOf25 z4 fun t5 g7 i8 => ?_
  have i7 : RV i6.m _ (⟨x0⟩ : PayPayList) (.agg (setCh [[.slice none 0 0, .slice none 0 0, .int .i64 0, .int .i64 0]] [(0, t5)]).flatten.toArray) := RV_build rfl (rep_last (RV.cells g7))
  generalize k8 : (Value.agg (setCh [[.slice none 0 0, .slice none 0 0, .int .i64 0, .int .i64 0]] [(0, t5)]).flatten.toArray) = j7 at i7
  refine L_load (x := .tmp 3) Tryz.isAgg27 Tryz.sizeOf27 x6 fun m7 r8 l8 => ?_
  obtain ⟨u0, m8, h⟩ := bsome h
  refine E_drawL (g := i6) (n := 6) [(5, (fun v g w => v = .int .i64 (u0)))] [0, 1, 2, 3, 4, 5] rfl mixed (by kernel_rfl) (⟨fun _ => up_eq _, trivial⟩) ?_
  refine L_ld (c := l5) rfl rfl .plain (fun _ _ h => h.ch) c8 z3 ?_
  refine L_p e7 rfl rfl (g8 ▸ P_build (vs := [(0, l5)]) [[.slice none 0 0, .slice none 0 0, .int .i64 0, .int .i64 0]] lay_117 rfl rfl (.cons rfl .nil) ⟨⟨_, rfl, cells_size d7⟩, trivial⟩) ?_
  refine L_ld (c := t5) rfl rfl .plain (fun _ _ h => h.ch) i8 z3 ?_
  refine L_p j7 rfl rfl (k8 ▸ P_build (vs := [(0, t5)]) [[.slice none 0 0, .slice none 0 0, .int .i64 0, .int .i64 0]] lay_117 rfl rfl (.cons rfl .nil) ⟨⟨_, rfl, cells_size g7⟩, trivial⟩) ?_
  refine L_ld (c := m7) rfl rfl .plain (fun _ _ h => h.ch) l8 v6 ?_
  refine L_do (φ := fun v g w => v = .int .i64 (u0)) rfl rfl .plain (fun g w hd => D_call (g := g) (vs := [j7, m7]) en79 (.cons rfl (.cons rfl .nil)) (wk79 (i7.ext hd.1) (r8.ext hd.1) m8) fun g' w' v hs hr => ⟨g', hs, hr⟩) (fun i9 hv => ?_)
  obtain ⟨_, _, _, rfl⟩ := hv
  refine L_nl fun t8 k9 hs => ?_
  have hfr := hfr.ext hs
  have j1 := j1.ext hs
  have q5 := q5.ext hs
  clear hs
  refine EL_do .plain rfl (D_storeOc (g := t8) (v := e7) Tryz.sizeOf117 i5 j1 rfl q5 fun l9 n9 hs b39 cb => ?_)
  clear cb
  have hfr := hfr.stp hs
  refine EL_at (.int .i64 (u0)) rfl rfl ?_
  refine EL_nil (thn_n (E_ret ?_))
  obtain rfl := sinj h
  obtain ⟨ad40, cv40, hp40, n8, cr40⟩ := ob_read Tryz.isAgg117 Tryz.sizeOf117 b39
  exact endm_ct rfl rfl ((show _ = p3 from i5).trans hp40) n8 (show _ = .int .i64 (u0) from rfl) ⟨_, hfr, _, _, rfl, cr40, rfl⟩
def f16 (x0 : PayList) (x1 : PayPiece) : Option (Int × Int × Int × Int) :=
 (f55 x0 x1).bind fun y6 =>
 jn (σ := Unit) (fun _ =>
  (f56 (y6.1) x1).bind fun u0 =>
  (f57 (y6.1) u0 ((x1).Faults)).bind fun j3 =>
  (f58 (y6.1) x1 ((x1).Faults)).bind fun o3 =>
  some (u0, j3, o3, (0 : Int))
  ) fun q5 =>
 bif (y6.2 != (0 : Int)) then
  some ((0 : Int), (0 : Int), (0 : Int), y6.2)
 else
  q5 ()
theorem en16 : Enters Tryz.prog 16 := enters_of Tryz.func16 (by kernel_rfl) rfl
theorem wk16 {gI : Gh} {wI : World} {x0 : PayList} {x1 : PayPiece} {up0 : Value} (rp0 : RV gI.m wI x0 up0) {up1 : Value} (rp1 : RV gI.m wI x1 up1) {r : Int × Int × Int × Int} (h : f16 x0 x1 = some r) : Fn Tryz.prog 16 #[up0, up1] gI wI (fun m w v => ∃ y0 y1 y2 y3, v = .tuple #[y0, y1, y2, y3] ∧ y0 = .int .i64 (r.1) ∧ y1 = .int .i64 (r.2.1) ∧ y2 = .int .i64 (r.2.2.1) ∧ y3 = .int .i64 (r.2.2.2)) := by
 unfold f16 at h
 refine fn_of_E Tryz.func16 rfl (Nat.le_of_ble_eq_true rfl) fun g0 hm hfr => ?_
 have rp0 : RV g0.m wI x0 up0 := hm ▸ rp0
 have rp1 : RV g0.m wI x1 up1 := hm ▸ rp1
 show E _ 32 none _ _ _ _ _
 refine E_seq (E_region (EL_do .plain rfl (D_box (g := g0) rfl rp0 fun g1 w1 p1 hs q1 => ?_)))
 have hfr := hfr.ext hs
 have rp1 := rp1.ext hs
 refine EL_do .plain rfl (D_box (g := g1) rfl rp1 fun g2 w2 p2 hs q2 => ?_)
 have hfr := hfr.ext hs
 have q1 := q1.ext hs
 iterate 4 refine EL_at (.int .i64 (0)) rfl rfl ?_
 refine EL_nil (thn_n (E_seq (E_region (EL_do .plain rfl (D_load (g := g2) Tryz.isAgg25 Tryz.sizeOf25 rfl q1 fun v3 r3 => ?_)))))
 refine EL_do .plain rfl (D_load (g := g2) Tryz.isAgg27 Tryz.sizeOf27 rfl q2 fun v4 r4 => ?_)
 obtain ⟨y6, m7, h⟩ := bsome h
 refine EL_do .plain rfl (D_call (g := g2) (vs := [v3, v4]) en55 (.cons rfl (.cons rfl .nil)) (wk55 r3 r4 m7) fun g5 w5_ v5 hs hr => ?_)
 have hfr := hfr.ext hs
 have q2 := q2.ext hs
 obtain ⟨z3, r8, rfl, z4, rfl⟩ := hr
 refine EL_mw (.tuple #[z3, .int .i64 (y6.2)]) rfl rfl ?_
 refine EL_p z3 (P_extract rfl rfl) rfl ?_
 refine EL_p (.int .i64 (y6.2)) (P_extract rfl rfl) rfl ?_
 refine EL_do .plain rfl (D_allocOc (g := g5) 2008 (⟨⟨[], [], 0, 0⟩⟩ : PayPayList) Tryz.zeroValue117 (fun m w => ⟨_, (rep_two rep_nil (rep_two rep_nil (rep_two rep_int rep_int))), rfl⟩) fun g7 w7 p7 hs b7 cb => ?_)
 have hfr := hfr.stp hs
 have q2 := q2.stp hs
 have z4 := z4.stp hs
 have t8 : OSF 2008 60800 0 g7 w7 87 117 ([] : List PayRate) p7 := cb.osf (by rfl)
 have v8 : OSF 2008 60801 1 g7 w7 3 117 ([] : List Int) p7 := cb.osf (by rfl)
 clear cb
 refine EL_do .plain rfl (D_storeOc (g := g7) (v := z3) Tryz.sizeOf117 rfl b7 rfl z4 fun g8 w8 hs b8 cb => ?_)
 clear cb
 have hfr := hfr.stp hs
 have q2 := q2.stp hs
 refine EL_at (.int .i64 (y6.2)) rfl rfl ?_
 refine EL_nil (thn_n (E_joinC h (fun (s : Unit) e w => ∃ (g : Gh) , Fr gI wI g w ∧ e 3 = p2 ∧ PT g.m w (x1 : PayPiece) p2 ∧ e 8 = p7 ∧ OB 2008 g w 117 (y6.1 : PayPayList) p7) (fun X10 q5 j6 h => ?_) ?_))
 ·refine E_seq (E_region (EL_mw (.int .i64 (y6.2)) rfl rfl ?_))
  refine EL_in (.bool ((y6.2 != (0 : Int)))) rfl rfl rfl rfl ?_
  refine EL_nil (thn_n ?_)
  rcases csome h with ⟨i5, h⟩ | ⟨i5, h⟩
  ·refine E_ct i5 rfl ?_
   refine E_seq (E_region (EL_mw (.int .i64 (y6.2)) rfl rfl ?_))
   iterate 3 refine EL_at (.int .i64 (0)) rfl rfl ?_
   refine EL_at (.int .i64 (y6.2)) rfl rfl ?_
   refine EL_nil (thn_n (E_ret (thn_r ?_)))
   obtain rfl := sinj h
   exact end4 rfl rfl (show _ = .int .i64 (0) from rfl) (show _ = .int .i64 (0) from rfl) (show _ = .int .i64 (0) from rfl) (show _ = .int .i64 (y6.2) from rfl) ⟨_, hfr, _, _, _, _, rfl, rfl, rfl, rfl, rfl⟩
  ·refine E_cf i5 rfl ?_
   exact E_skip (thn_n (j6 () _ _ ⟨g8, hfr, rfl, q2, rfl, b8⟩ h))
 ·rintro _ x8 a9 ⟨l5, hfr, i3, o0, u3, j1⟩ h
  refine E_seq (E_region (EL_do .plain rfl (D_loadO (g := l5) Tryz.isAgg117 Tryz.sizeOf117 u3 j1 fun n7 o7 => ?_)))
  refine EL_do .plain rfl (D_load (g := l5) Tryz.isAgg27 Tryz.sizeOf27 i3 o0 fun u7 v7 => ?_)
  obtain ⟨u0, v6, h⟩ := bsome h
  refine EL_do .plain rfl (D_call (g := l5) (vs := [n7, u7]) en56 (.cons rfl (.cons rfl .nil)) (wk56 o7 v7 v6) fun c8 y8 d9 hs hr => ?_)
  have hfr := hfr.ext hs
  have o0 := o0.ext hs
  have j1 := j1.ext hs
  subst hr
  refine EL_at (.int .i64 (u0)) rfl rfl ?_
  refine EL_nil (thn_n (E_seq (L_loadO0 (x := .tmp 8) Tryz.isAgg117 Tryz.sizeOf117 j1 fun t5 i8 x6 => ?_)))
  have k8 := PT_field (part_PayPiece_4).1 o0
  refine L_load (x := .tmp 24) Tryz.isAgg3 Tryz.sizeOf3 k8 fun e9 l8 a7 => ?_
  obtain rfl := RV_int.1 l8
  obtain ⟨j3, c7, h⟩ := bsome h
  refine L_loadO0 (x := .tmp 8) Tryz.isAgg117 Tryz.sizeOf117 j1 fun x5 m8 d7 => ?_
  refine L_load (x := .tmp 3) Tryz.isAgg27 Tryz.sizeOf27 o0 fun i6 n8 e7 => ?_
  have o8 := PT_field (part_PayPiece_4).1 o0
  refine L_load (x := .tmp 29) Tryz.isAgg3 Tryz.sizeOf3 o8 fun i9 q8 i7 => ?_
  obtain rfl := RV_int.1 q8
  obtain ⟨o3, j7, h⟩ := bsome h
  refine E_drawL (g := c8) (n := 15) [(5, (fun v g w => v = .int .i64 (j3))), (10, (fun v g w => v = .int .i64 (o3)))] [0, 1, 2, 3, 4, 5, 6, 7, 8, 9, 10, 11, 12, 13, 14] rfl mixed (by kernel_rfl) (⟨fun _ => up_eq _, fun _ => up_eq _, trivial⟩) ?_
  refine L_p (.int .i64 (u0)) rfl rfl (P_move rfl) ?_
  refine L_ld (c := t5) rfl rfl .plain (fun _ _ h => ⟨h.ch, fun b hb _ => h.below.block b hb⟩) x6 u3 ?_
  refine L_p (.int .i64 (u0)) rfl rfl (P_move rfl) ?_
  refine L_p (fPtr p2 4) rfl rfl (P_fieldAddr at_27_4 i3 (PT.ptr o0)) ?_
  refine L_ld (c := .int .i64 ((x1).Faults)) rfl rfl .plain (fun _ _ h => h.ch) a7 rfl ?_
  refine L_do (φ := fun v g w => v = .int .i64 (j3)) rfl rfl .plain (fun g w hd => D_call (g := g) (vs := [t5, .int .i64 (u0), .int .i64 ((x1).Faults)]) en57 (.cons rfl (.cons rfl (.cons rfl .nil))) (wk57 (i8.ext hd.1) c7) fun g' w' v hs hr => ⟨g', hs, hr⟩) (fun k9 hv => ?_)
  obtain ⟨_, _, _, rfl⟩ := hv
  refine L_ld (c := x5) rfl rfl .plain (fun _ _ h => ⟨h.ch, fun b hb _ => h.below.block b hb⟩) d7 u3 ?_
  refine L_ld (c := i6) rfl rfl .plain (fun _ _ h => h.ch) e7 i3 ?_
  refine L_p (fPtr p2 4) rfl rfl (P_fieldAddr at_27_4 i3 (PT.ptr o0)) ?_
  refine L_ld (c := .int .i64 ((x1).Faults)) rfl rfl .plain (fun _ _ h => h.ch) i7 rfl ?_
  refine L_do (φ := fun v g w => v = .int .i64 (o3)) rfl rfl .plain (fun g w hd => D_call (g := g) (vs := [x5, i6, .int .i64 ((x1).Faults)]) en58 (.cons rfl (.cons rfl (.cons rfl .nil))) (wk58 (m8.ext hd.1) (n8.ext hd.1) j7) fun g' w' v hs hr => ⟨g', hs, hr⟩) (fun l9 hv => ?_)
  obtain ⟨_, _, _, rfl⟩ := hv
  refine L_p (.int .i64 (u0)) rfl rfl (P_assign rfl) ?_
  refine L_p (.int .i64 (j3)) rfl rfl (P_assign rfl) ?_
  refine L_p (.int .i64 (o3)) rfl rfl (P_assign rfl) ?_
  refine L_p (.int .i64 (0)) rfl rfl (P_assign rfl) ?_
  refine L_nl fun n9 o9 hs => ?_
  have hfr := hfr.ext hs
  clear hs
  refine EL_nil (thn_n (E_ret ?_))
  obtain rfl := sinj h
  exact end4 rfl rfl (show _ = .int .i64 (u0) from rfl) (show _ = .int .i64 (j3) from rfl) (show _ = .int .i64 (o3) from rfl) (show _ = .int .i64 (0) from rfl) ⟨_, hfr, _, _, _, _, rfl, rfl, rfl, rfl, rfl⟩
def f17 (x0 : PayList) (x1 : PayPiece) (x2 : Span) : Option (Span × Int) :=
 (f55 x0 x1).bind fun y8 =>
 jn (σ := Span) (fun m7 =>
  (f58 (y8.1) x1 ((x2).High)).bind fun u0 =>
  (f58 (y8.1) x1 ((x2).Low)).bind fun j1 =>
  some ((⟨u0, j1⟩ : Span), (0 : Int))
  ) fun m8 =>
 bif (y8.2 != (0 : Int)) then
  some ((⟨0, 0⟩ : Span), y8.2)
 else
  Option.bind (α := Bool) (
   (f54 ((0 : Int)) ((100 : Int)) (([(x2).Low, (x2).High] : List Int))).bind fun z3 =>
   bif (!z3) then
    some ((!z3))
   else
    some ((decide ((x2).Low > (x2).High)))
   ) fun o0 =>
  bif o0 then
   some ((⟨0, 0⟩ : Span), (3 : Int))
  else
   m8 ((⟨0, 0⟩ : Span))
theorem en17 : Enters Tryz.prog 17 := enters_of Tryz.func17 (by kernel_rfl) rfl
theorem wk17 {gI : Gh} {wI : World} {x0 : PayList} {x1 : PayPiece} {x2 : Span} {up0 : Value} (rp0 : RV gI.m wI x0 up0) {up1 : Value} (rp1 : RV gI.m wI x1 up1) {up2 : Value} (rp2 : RV gI.m wI x2 up2) {r : Span × Int} (h : f17 x0 x1 x2 = some r) : Fn Tryz.prog 17 #[up0, up1, up2] gI wI (fun m w v => ∃ y0 y1, v = .tuple #[y0, y1] ∧ RV m w (r.1) y0 ∧ y1 = .int .i64 (r.2)) := by
 unfold f17 at h
 refine fn_of_E Tryz.func17 rfl (Nat.le_of_ble_eq_true rfl) fun g0 hm hfr => ?_
 have rp0 : RV g0.m wI x0 up0 := hm ▸ rp0
 have rp1 : RV g0.m wI x1 up1 := hm ▸ rp1
 have rp2 : RV g0.m wI x2 up2 := hm ▸ rp2
 show E _ 45 none _ _ _ _ _
 refine E_seq (E_region (EL_do .plain rfl (D_box (g := g0) rfl rp0 fun g1 w1 p1 hs q1 => ?_)))
 have hfr := hfr.ext hs
 have rp1 := rp1.ext hs
 have rp2 := rp2.ext hs
 refine EL_do .plain rfl (D_box (g := g1) rfl rp1 fun g2 w2 p2 hs q2 => ?_)
 have hfr := hfr.ext hs
 have rp2 := rp2.ext hs
 have q1 := q1.ext hs
 refine EL_do .plain rfl (D_box (g := g2) rfl rp2 fun g3 w3 p3 hs q3 => ?_)
 have hfr := hfr.ext hs
 have q1 := q1.ext hs
 have q2 := q2.ext hs
 refine EL_do .plain rfl (D_allocOc (g := g3) 2006 (⟨0, 0⟩ : Span) Tryz.zeroValue29 (fun m w => ⟨_, (rep_two rep_int rep_int), rfl⟩) fun g4 w4 p4 hs b4 cb => ?_)
 have hfr := hfr.stp hs
 have q1 := q1.stp hs
 have q2 := q2.stp hs
 have q3 := q3.stp hs
 clear cb
 refine EL_at (.int .i64 (0)) rfl rfl ?_
 refine EL_nil (thn_n (E_seq (E_region (EL_do .plain rfl (D_load (g := g4) Tryz.isAgg25 Tryz.sizeOf25 rfl q1 fun v5 r5 => ?_)))))
 refine EL_do .plain rfl (D_load (g := g4) Tryz.isAgg27 Tryz.sizeOf27 rfl q2 fun v6 r6 => ?_)
 obtain ⟨y8, y9, h⟩ := bsome h
 refine EL_do .plain rfl (D_call (g := g4) (vs := [v5, v6]) en55 (.cons rfl (.cons rfl .nil)) (wk55 r5 r6 y9) fun g7 w7_ v7 hs hr => ?_)
 have hfr := hfr.ext hs
 have q2 := q2.ext hs
 have q3 := q3.ext hs
 have b4 := b4.ext hs
 obtain ⟨l5, nB, rfl, q5, rfl⟩ := hr
 refine EL_mw (.tuple #[l5, .int .i64 (y8.2)]) rfl rfl ?_
 refine EL_p l5 (P_extract rfl rfl) rfl ?_
 refine EL_p (.int .i64 (y8.2)) (P_extract rfl rfl) rfl ?_
 refine EL_do .plain rfl (D_allocOc (g := g7) 2008 (⟨⟨[], [], 0, 0⟩⟩ : PayPayList) Tryz.zeroValue117 (fun m w => ⟨_, (rep_two rep_nil (rep_two rep_nil (rep_two rep_int rep_int))), rfl⟩) fun g9 w9 p9 hs b9 cb => ?_)
 have hfr := hfr.stp hs
 have q2 := q2.stp hs
 have q3 := q3.stp hs
 have b4 := b4.stp hs rfl
 have q5 := q5.stp hs
 have oB : OSF 2008 60800 0 g9 w9 87 117 ([] : List PayRate) p9 := cb.osf (by rfl)
 have tB : OSF 2008 60801 1 g9 w9 3 117 ([] : List Int) p9 := cb.osf (by rfl)
 clear cb
 refine EL_do .plain rfl (D_storeOc (g := g9) (v := l5) Tryz.sizeOf117 rfl b9 rfl q5 fun z4 cC hs b10 cb => ?_)
 clear cb
 have hfr := hfr.stp hs
 have q2 := q2.stp hs
 have q3 := q3.stp hs
 have b4 := b4.stp hs rfl
 refine EL_at (.int .i64 (y8.2)) rfl rfl ?_
 refine EL_nil (thn_n (E_joinC h (fun (s : Span) e w => ∃ (g : Gh) , Fr gI wI g w ∧ e 4 = p2 ∧ PT g.m w (x1 : PayPiece) p2 ∧ e 5 = p3 ∧ PT g.m w (x2 : Span) p3 ∧ e 6 = p4 ∧ OB 2006 g w 29 (s : Span) p4 ∧ e 8 = p9 ∧ OB 2008 g w 117 (y8.1 : PayPayList) p9) (fun X44 m8 v8 h => ?_) ?_))
 ·refine E_block ?_
  refine E_seq (E_region (EL_mw (.int .i64 (y8.2)) rfl rfl ?_))
  refine EL_in (.bool ((y8.2 != (0 : Int)))) rfl rfl rfl rfl ?_
  refine EL_at (.bool ((y8.2 != (0 : Int)))) rfl rfl ?_
  refine EL_nil (thn_n ?_)
  rcases csome h with ⟨t5, h⟩ | ⟨t5, h⟩
  ·refine E_ct t5 rfl ?_
   refine E_seq (E_region (EL_do .plain rfl (D_loadO (g := z4) Tryz.isAgg29 Tryz.sizeOf29 rfl b4 fun z9 bA => ?_)))
   refine EL_mw (.int .i64 (y8.2)) rfl rfl ?_
   refine EL_do .plain rfl (D_storeOc (g := z4) (v := z9) Tryz.sizeOf29 rfl b4 rfl bA fun dC eC hs b47 cb => ?_)
   clear cb
   have hfr := hfr.stp hs
   refine EL_at (.int .i64 (y8.2)) rfl rfl ?_
   refine EL_nil (thn_n (E_ret (blk_r ?_)))
   refine thn_r ?_
   obtain rfl := sinj h
   obtain ⟨ad48, cv48, hp48, x8, cr48⟩ := ob_read Tryz.isAgg29 Tryz.sizeOf29 b47
   exact endm_ct rfl rfl ((show _ = p4 from rfl).trans hp48) x8 (show _ = .int .i64 (y8.2) from rfl) ⟨_, hfr, _, _, rfl, cr48, rfl⟩
  ·refine E_cf t5 rfl ?_
   obtain ⟨o0, hx, h⟩ := bsome h
   refine E_join (fun e w => ∃ (g : Gh) , Fr gI wI g w ∧ e 4 = p2 ∧ PT g.m w (x1 : PayPiece) p2 ∧ e 5 = p3 ∧ PT g.m w (x2 : Span) p3 ∧ e 6 = p4 ∧ OB 2006 g w 29 ((⟨0, 0⟩ : Span) : Span) p4 ∧ e 8 = p9 ∧ OB 2008 g w 117 (y8.1 : PayPayList) p9 ∧ e 20 = .bool (o0)) (fun Q' hQ => ?_) (fun vB iC hR => ?_)
   ·replace h := hx
    clear hx
    refine E_seq (E_region (EL_p (fPtr p3 0) (P_fieldAddr at_29_0 rfl (PT.ptr q3)) rfl ?_))
    have gA := PT_field (part_Span_0).1 q3
    refine EL_do .plain rfl (D_load (g := z4) Tryz.isAgg3 Tryz.sizeOf3 rfl gA fun v62 iA => ?_)
    obtain rfl := RV_int.1 iA
    refine EL_p (fPtr p3 1) (P_fieldAddr at_29_1 rfl (PT.ptr q3)) rfl ?_
    have jA := PT_field (part_Span_1).1 q3
    refine EL_do .plain rfl (D_load (g := z4) Tryz.isAgg3 Tryz.sizeOf3 rfl jA fun jC lA => ?_)
    obtain rfl := RV_int.1 lA
    refine EL_do .plain rfl (D_buildSlice (g := z4) 3025 (xs := ([(x2).Low, (x2).High] : List Int)) (vs := [.int .i64 ((x2).Low), .int .i64 ((x2).High)]) Tryz.underlying23 Tryz.sizeOf3 Tryz.zeroValue3 rfl rfl (.cons rfl (.cons rfl .nil)) (RVs.cons (RV_int.2 rfl) (RVs.cons (RV_int.2 rfl) RVs.nil)) rfl rfl fun mA kC nA hs o66 oA hxt hfl => ?_)
    have hfr := hfr.stp hs
    have q2 := q2.stp hs
    have q3 := q3.stp hs
    have b4 := b4.stp hs rfl
    have b10 := b10.stp hs rfl
    obtain ⟨z3, a9, h⟩ := bsome h
    refine EL_do .plain rfl (D_call (g := mA) (vs := [.int .i64 (0), .int .i64 (100), nA]) en54 (.cons rfl (.cons rfl (.cons rfl .nil))) (wk54 oA a9) fun j6 xB lC hs hr => ?_)
    have hfr := hfr.ext hs
    have q2 := q2.ext hs
    have q3 := q3.ext hs
    have b4 := b4.ext hs
    have b10 := b10.ext hs
    subst hr
    refine EL_p (.bool (!z3)) (P_not rfl) rfl ?_
    refine EL_at (.bool (!z3)) rfl rfl ?_
    refine EL_nil (thn_n ?_)
    rcases csome h with ⟨x5, h⟩ | ⟨x5, h⟩
    ·refine E_ct x5 rfl ?_
     refine E_skip ?_
     obtain rfl := sinj h
     exact hQ _ _ ⟨j6, hfr, rfl, q2, rfl, q3, rfl, b4, rfl, b10, rfl⟩
    ·refine E_cf x5 rfl ?_
     refine E_region (EL_p (fPtr p3 0) (P_fieldAddr at_29_0 rfl (PT.ptr q3)) rfl ?_)
     have pA := PT_field (part_Span_0).1 q3
     refine EL_do .plain rfl (D_load (g := j6) Tryz.isAgg3 Tryz.sizeOf3 rfl pA fun mC qA => ?_)
     obtain rfl := RV_int.1 qA
     refine EL_p (fPtr p3 1) (P_fieldAddr at_29_1 rfl (PT.ptr q3)) rfl ?_
     have rA := PT_field (part_Span_1).1 q3
     refine EL_do .plain rfl (D_load (g := j6) Tryz.isAgg3 Tryz.sizeOf3 rfl rA fun qC uA => ?_)
     obtain rfl := RV_int.1 uA
     refine EL_in (.bool ((decide ((x2).Low > (x2).High)))) rfl rfl rfl rfl ?_
     refine EL_at (.bool ((decide ((x2).Low > (x2).High)))) rfl rfl ?_
     refine EL_nil ?_
     obtain rfl := sinj h
     exact hQ _ _ ⟨j6, hfr, rfl, q2, rfl, q3, rfl, b4, rfl, b10, rfl⟩
   ·clear hx
    obtain ⟨e7, hfr, n7, o7, u7, c8, i3, o3, g8, i8, i5⟩ := hR
    rcases csome h with ⟨i6, h⟩ | ⟨i6, h⟩
    ·refine E_cond_true (Eq.trans (show ev _ _ = .bool (o0) from i5) (congrArg Value.bool i6)) ?_
     refine E_seq (E_region (EL_do .plain rfl (D_loadO (g := e7) Tryz.isAgg29 Tryz.sizeOf29 i3 o3 fun xA yA => ?_)))
     refine EL_do .plain rfl (D_storeOc (g := e7) (v := xA) Tryz.sizeOf29 i3 o3 rfl yA fun rC tC hs b77 cb => ?_)
     clear cb
     have hfr := hfr.stp hs
     refine EL_at (.int .i64 (3)) rfl rfl ?_
     refine EL_nil (thn_n (E_ret (blk_r ?_)))
     refine thn_r ?_
     obtain rfl := sinj h
     obtain ⟨ad78, cv78, hp78, d9, cr78⟩ := ob_read Tryz.isAgg29 Tryz.sizeOf29 b77
     exact endm_ct rfl rfl ((show _ = p4 from i3).trans hp78) d9 (show _ = .int .i64 (3) from rfl) ⟨_, hfr, _, _, rfl, cr78, rfl⟩
    ·refine E_cond_false (Eq.trans (show ev _ _ = .bool (o0) from i5) (congrArg Value.bool i6)) ?_
     exact E_skip (blk_n (thn_n (v8 ((⟨0, 0⟩ : Span)) _ _ ⟨e7, hfr, n7, o7, u7, c8, i3, o3, g8, i8⟩ h)))
 ·rintro m7 yB uC ⟨zA, hfr, x6, y6, a7, j3, b7, u3, c7, d7⟩ h
  refine E_seq (L_loadO0 (x := .tmp 8) Tryz.isAgg117 Tryz.sizeOf117 d7 fun n8 aB e9 => ?_)
  refine L_load (x := .tmp 4) Tryz.isAgg27 Tryz.sizeOf27 y6 fun o8 bB i9 => ?_
  have cB := PT_field (part_Span_1).1 j3
  refine L_load (x := .tmp 36) Tryz.isAgg3 Tryz.sizeOf3 cB fun vC dB k9 => ?_
  obtain rfl := RV_int.1 dB
  obtain ⟨u0, l9, h⟩ := bsome h
  refine L_loadO0 (x := .tmp 8) Tryz.isAgg117 Tryz.sizeOf117 d7 fun q8 eB n9 => ?_
  refine L_load (x := .tmp 4) Tryz.isAgg27 Tryz.sizeOf27 y6 fun r8 iB o9 => ?_
  have jB := PT_field (part_Span_0).1 j3
  refine L_load (x := .tmp 41) Tryz.isAgg3 Tryz.sizeOf3 jB fun xC lB t9 => ?_
  obtain rfl := RV_int.1 lB
  obtain ⟨j1, u9, h⟩ := bsome h
  refine E_drawL (g := zA) (n := 10) [(4, (fun v g w => v = .int .i64 (u0))), (9, (fun v g w => v = .int .i64 (j1)))] [0, 1, 2, 3, 4, 5, 6, 7, 8, 9] rfl mixed (by kernel_rfl) (⟨fun _ => up_eq _, fun _ => up_eq _, trivial⟩) ?_
  refine L_ld (c := n8) rfl rfl .plain (fun _ _ h => ⟨h.ch, fun b hb _ => h.below.block b hb⟩) e9 c7 ?_
  refine L_ld (c := o8) rfl rfl .plain (fun _ _ h => h.ch) i9 x6 ?_
  refine L_p (fPtr p3 1) rfl rfl (P_fieldAddr at_29_1 a7 (PT.ptr j3)) ?_
  refine L_ld (c := .int .i64 ((x2).High)) rfl rfl .plain (fun _ _ h => h.ch) k9 rfl ?_
  refine L_do (φ := fun v g w => v = .int .i64 (u0)) rfl rfl .plain (fun g w hd => D_call (g := g) (vs := [n8, o8, .int .i64 ((x2).High)]) en58 (.cons rfl (.cons rfl (.cons rfl .nil))) (wk58 (aB.ext hd.1) (bB.ext hd.1) l9) fun g' w' v hs hr => ⟨g', hs, hr⟩) (fun yC hv => ?_)
  obtain ⟨_, _, _, rfl⟩ := hv
  refine L_ld (c := q8) rfl rfl .plain (fun _ _ h => ⟨h.ch, fun b hb _ => h.below.block b hb⟩) n9 c7 ?_
  refine L_ld (c := r8) rfl rfl .plain (fun _ _ h => h.ch) o9 x6 ?_
  refine L_p (fPtr p3 0) rfl rfl (P_fieldAddr at_29_0 a7 (PT.ptr j3)) ?_
  refine L_ld (c := .int .i64 ((x2).Low)) rfl rfl .plain (fun _ _ h => h.ch) t9 rfl ?_
  refine L_do (φ := fun v g w => v = .int .i64 (j1)) rfl rfl .plain (fun g w hd => D_call (g := g) (vs := [q8, r8, .int .i64 ((x2).Low)]) en58 (.cons rfl (.cons rfl (.cons rfl .nil))) (wk58 (eB.ext hd.1) (iB.ext hd.1) u9) fun g' w' v hs hr => ⟨g', hs, hr⟩) (fun aD hv => ?_)
  obtain ⟨_, _, _, rfl⟩ := hv
  refine L_nl fun t8 mB hs => ?_
  have hfr := hfr.ext hs
  have u3 := u3.ext hs
  clear hs
  have i7 : RV t8.m mB (⟨u0, j1⟩ : Span) (.agg (setCh [[.int .i64 0], [.int .i64 0]] [(0, .int .i64 (u0)), (1, .int .i64 (j1))]).flatten.toArray) := RV_build rfl (rep_pair (rfl) (rep_last (rfl)))
  generalize k8 : (Value.agg (setCh [[.int .i64 0], [.int .i64 0]] [(0, .int .i64 (u0)), (1, .int .i64 (j1))]).flatten.toArray) = j7 at i7
  refine EL_p j7 (k8 ▸ P_build (vs := [(0, .int .i64 (u0)), (1, .int .i64 (j1))]) [[.int .i64 0], [.int .i64 0]] lay_29 rfl rfl (.cons rfl (.cons rfl .nil)) ⟨⟨_, rfl, rfl⟩, ⟨⟨_, rfl, rfl⟩, trivial⟩⟩) rfl ?_
  refine EL_do .plain rfl (D_storeOc (g := t8) (v := j7) Tryz.sizeOf29 b7 u3 rfl i7 fun zB aC hs b108 cb => ?_)
  clear cb
  have hfr := hfr.stp hs
  refine EL_at (.int .i64 (0)) rfl rfl ?_
  refine EL_nil (thn_n (E_ret ?_))
  obtain rfl := sinj h
  obtain ⟨ad109, cv109, hp109, l8, cr109⟩ := ob_read Tryz.isAgg29 Tryz.sizeOf29 b108
  exact endm_ct rfl rfl ((show _ = p4 from b7).trans hp109) l8 (show _ = .int .i64 (0) from rfl) ⟨_, hfr, _, _, rfl, cr109, rfl⟩
def f3 (x0 : PayList) (x1 : PayPiece) (x2 : Span) : Option (Bool) :=
 jn (σ := Unit) (fun _ =>
  (f13 x0).bind fun y40 =>
  (f14 (([x1] : List PayPiece))).bind fun y44 =>
  (f15 y40).bind fun aC =>
  (idx y44 (0 : Int)).bind fun bM =>
  (f16 y40 bM).bind fun u0 =>
  (idx y44 (0 : Int)).bind fun cM =>
  (f17 y40 cM x2).bind fun o0 =>
  (f18 x0).bind fun m7 =>
  jn (σ := Unit) (fun _ =>
   Option.bind (α := Int) (
    bif (m7 == (0 : Int)) then
     (f21 x0 x1).bind fun tE =>
     some (tE)
    else
     some (m7)
    ) fun z4 =>
   jn (σ := Unit) (fun _ =>
    jn (σ := Unit) (fun _ =>
     jn (σ := Unit) (fun _ =>
      jn (σ := Unit) (fun _ =>
       Option.bind (α := Int × Int) (
        lp (σ := Int × Int × Int) (fun bH (y6, a7, o3) =>
         jn (σ := Unit) (fun _ =>
          Option.bind (α := Int × Int) (
           (f24 x0 x1 o3).bind fun nA =>
           (f24 x0 x1 o3).bind fun oA =>
           some ((min64 y6 nA), (max64 a7 oA))
           ) fun (y8, a9) =>
          bH (y8, a9, (w64 (o3 + (1 : Int))))
          ) fun cH =>
         bif (decide (o3 ≤ (x2).High)) then
          cH ()
         else
          some (y6, a7)
         ) big ((1099511627776 : Int), (-1 : Int), (x2).Low)
        ) fun (b7, c7) =>
       Option.bind (α := Bool) (
        bif (o0.2 == (0 : Int)) then
         (f26 b7 c7).bind fun q5 =>
         bif (decide ((o0.1 : Span) = q5)) then
          (f12).bind fun pA =>
          some (pA)
         else
          some (false)
        else
         some (false)
        ) fun o9 =>
       some (o9)
       ) fun dH =>
      Option.bind (α := Bool) (
       (f25 ((x2).Low) ((0 : Int)) ((x2).High)).bind fun qA =>
       bif (!qA) then
        some (true)
       else
        some ((decide ((x2).High > (100 : Int))))
       ) fun n7 =>
      bif n7 then
       Option.bind (α := Bool) (
        bif (o0.2 == (3 : Int)) then
         bif (decide ((o0.1 : Span) = (⟨0, 0⟩ : Span))) then
          (f12).bind fun vD =>
          some (vD)
         else
          some (false)
        else
         some (false)
        ) fun t9 =>
       some (t9)
      else
       dH ()
      ) fun gH =>
     (f22 x0 x1).bind fun o7 =>
     Option.bind (α := Bool) (
      bif (u0.1 != o7) then
       some (true)
      else
       (f23 x0 o7 ((x1).Faults)).bind fun l9 =>
       bif (u0.2.1 != l9) then
        some (true)
       else
        (f24 x0 x1 ((x1).Faults)).bind fun xD =>
        some ((u0.2.2.1 != xD))
      ) fun u7 =>
     bif u7 then
      some (false)
     else
      gH ()
     ) fun iH =>
    bif (z4 != (0 : Int)) then
     Option.bind (α := Bool) (
      bif (o0.2 == z4) then
       bif (u0.1 == (0 : Int)) then
        bif (u0.2.1 == (0 : Int)) then
         bif (u0.2.2.1 == (0 : Int)) then
          bif (decide ((o0.1 : Span) = (⟨0, 0⟩ : Span))) then
           (f12).bind fun yD =>
           some (yD)
          else
           some (false)
         else
          some (false)
        else
         some (false)
       else
        some (false)
      else
       some (false)
      ) fun u9 =>
     some (u9)
    else
     iH ()
    ) fun jH =>
   bif (u0.2.2.2 != z4) then
    some (false)
   else
    jH ()
   ) fun kH =>
  Option.bind (α := Bool) (
   (f19 y40 x0).bind fun rA =>
   bif (!rA) then
    some (true)
   else
    (f20 y44 (([x1] : List PayPiece))).bind fun n9 =>
    bif (!n9) then
     some (true)
    else
     some ((aC != m7))
   ) fun c8 =>
  bif c8 then
   some (false)
  else
   kH ()
  ) fun dM =>
 Option.bind (α := Bool) (
  (f11 x0).bind fun kE =>
  bif kE then
   some (true)
  else
   some ((decide ((((x1).Extras).length : Int) > (12 : Int))))
  ) fun o8 =>
 bif o8 then
  (f12).bind fun iF =>
  some (iF)
 else
  dM ()
theorem wk3 {gI : Gh} {wI : World} {x0 : PayList} {x1 : PayPiece} {x2 : Span} {up0 : Value} (rp0 : RV gI.m wI x0 up0) {up1 : Value} (rp1 : RV gI.m wI x1 up1) {up2 : Value} (rp2 : RV gI.m wI x2 up2) {r : Bool} (h : f3 x0 x1 x2 = some r) : Fn Tryz.prog 3 #[up0, up1, up2] gI wI (fun _ _ v => v = .bool (r)) := by
 unfold f3 at h
 refine fn_of_E Tryz.func3 rfl (Nat.le_of_ble_eq_true rfl) fun g0 hm hfr => ?_
 have rp0 : RV g0.m wI x0 up0 := hm ▸ rp0
 have rp1 : RV g0.m wI x1 up1 := hm ▸ rp1
 have rp2 : RV g0.m wI x2 up2 := hm ▸ rp2
 show E _ 184 none _ _ _ _ _
 refine E_seq (E_region (EL_do .plain rfl (D_box (g := g0) rfl rp0 fun g1 w1 p1 hs q1 => ?_)))
 have hfr := hfr.ext hs
 have rp1 := rp1.ext hs
 have rp2 := rp2.ext hs
 refine EL_do .plain rfl (D_box (g := g1) rfl rp1 fun g2 w2 p2 hs q2 => ?_)
 have hfr := hfr.ext hs
 have rp2 := rp2.ext hs
 have q1 := q1.ext hs
 refine EL_do .plain rfl (D_box (g := g2) rfl rp2 fun g3 w3 p3 hs q3 => ?_)
 have hfr := hfr.ext hs
 have q1 := q1.ext hs
 have q2 := q2.ext hs
 refine EL_at (.bool false) rfl rfl ?_
 refine EL_nil (thn_n (E_joinC h (fun (s : Unit) e w => ∃ (g : Gh) , Fr gI wI g w ∧ e 3 = p1 ∧ PT g.m w (x0 : PayList) p1 ∧ e 4 = p2 ∧ PT g.m w (x1 : PayPiece) p2 ∧ e 5 = p3 ∧ PT g.m w (x2 : Span) p3) (fun X20 dM sM h => ?_) ?_))
 ·obtain ⟨o8, hx, h⟩ := bsome h
  refine E_join (fun e w => ∃ (g : Gh) , Fr gI wI g w ∧ e 3 = p1 ∧ PT g.m w (x0 : PayList) p1 ∧ e 4 = p2 ∧ PT g.m w (x1 : PayPiece) p2 ∧ e 5 = p3 ∧ PT g.m w (x2 : Span) p3 ∧ e 28 = .bool (o8)) (fun Q' hQ => ?_) (fun lS dV hR => ?_)
  ·replace h := hx
   clear hx
   refine E_region (EL_do .plain rfl (D_load (g := g3) Tryz.isAgg25 Tryz.sizeOf25 rfl q1 fun iQ jQ => ?_))
   obtain ⟨kE, tM, h⟩ := bsome h
   refine EL_do .plain rfl (D_call (g := g3) (vs := [iQ]) en11 (.cons rfl .nil) (wk11 jQ tM) fun lH mS eV hs hr => ?_)
   have hfr := hfr.ext hs
   have q1 := q1.ext hs
   have q2 := q2.ext hs
   have q3 := q3.ext hs
   subst hr
   refine EL_mw (.bool (kE)) rfl rfl ?_
   rcases csome h with ⟨i8, h⟩ | ⟨i8, h⟩
   ·refine EL_s rfl rfl i8 rfl rfl ?_
    iterate 3 refine EL_s rfl rfl i8 rfl rfl ?_
    refine EL_p (.bool true) (P_pick (b := kE) rfl (pick_t i8 rfl)) rfl ?_
    refine EL_nil ?_
    obtain rfl := sinj h
    exact hQ _ _ ⟨lH, hfr, rfl, q1, rfl, q2, rfl, q3, rfl⟩
   ·refine EL_y (fPtr p2 3) (P_fieldAddr at_27_3 rfl (PT.ptr q2)) rfl rfl i8 rfl ?_
    have kQ := PT_field (part_PayPiece_3).1 q2
    refine EL_do (.yes2 rfl rfl i8) rfl (D_load (g := lH) Tryz.isAgg23 Tryz.sizeOf23 rfl kQ fun gV lQ => ?_)
    refine EL_y (.int .i64 (((x1).Extras).length : Int)) (P_len Tryz.underlying23 rfl lQ) rfl rfl i8 rfl ?_
    refine EL_y (.bool ((decide ((((x1).Extras).length : Int) > (12 : Int))))) (P_int rfl rfl rfl) rfl rfl i8 rfl ?_
    refine EL_p (.bool ((decide ((((x1).Extras).length : Int) > (12 : Int))))) (P_pick (b := kE) rfl (pick_f i8 rfl)) rfl ?_
    refine EL_nil ?_
    obtain rfl := sinj h
    exact hQ _ _ ⟨lH, hfr, rfl, q1, rfl, q2, rfl, q3, rfl⟩
  ·clear hx
   obtain ⟨eM, hfr, nK, oK, pK, qK, sK, tK, lE⟩ := hR
   rcases csome h with ⟨uE, h⟩ | ⟨uE, h⟩
   ·refine E_cond_true (Eq.trans (show ev _ _ = .bool (o8) from lE) (congrArg Value.bool uE)) ?_
    refine E_seq (E_region ?_)
    obtain ⟨iF, uM, h⟩ := bsome h
    refine EL_do .plain rfl (D_call (g := eM) (vs := []) en12 .nil (wk12  uM) fun iV nS jV hs hr => ?_)
    have hfr := hfr.ext hs
    subst hr
    refine EL_at (.bool (iF)) rfl rfl ?_
    refine EL_nil (thn_n (E_ret (thn_r ?_)))
    obtain rfl := sinj h
    exact end1 rfl rfl (show _ = .bool (iF) from rfl) ⟨_, hfr, rfl⟩
   ·refine E_cond_false (Eq.trans (show ev _ _ = .bool (o8) from lE) (congrArg Value.bool uE)) ?_
    exact E_skip (thn_n (sM () _ _ ⟨eM, hfr, nK, oK, pK, qK, sK, tK⟩ h))
 ·rintro _ oS kV ⟨mQ, hfr, d9, j1, y9, i3, dB, j3⟩ h
  refine E_seq (L_load (x := .tmp 3) Tryz.isAgg25 Tryz.sizeOf25 j1 fun gM nQ vM => ?_)
  obtain ⟨y40, xM, h⟩ := bsome h
  refine L_load (x := .tmp 4) Tryz.isAgg27 Tryz.sizeOf27 i3 fun iM oQ yM => ?_
  obtain ⟨y44, zM, h⟩ := bsome h
  refine E_drawL (g := mQ) (n := 6) [(1, (fun v g w => RV g.m w y40 v)), (3, (fun v g w => RV g.m w ([x1] : List PayPiece) v ∧ OS 3033 g w 27 ([x1] : List PayPiece) v ∧ FullV v)), (4, (fun v g w => RV g.m w y44 v)), (5, (fun v g w => OB 2007 g w 25 (⟨[], [], 0, 0⟩ : PayList) v))] [0, 1, 2, 3, 4, 5] rfl mixed (by kernel_rfl) (⟨fun _ => up_rv, fun _ => up_and up_rv (up_and up_os (up_eq _)), fun _ => up_rv, fun _ => up_ob, trivial⟩) ?_
  refine L_ld (c := gM) rfl rfl .plain (fun _ _ h => h.ch) vM d9 ?_
  refine L_do (φ := fun v g w => RV g.m w y40 v) rfl rfl .plain (fun g w hd => D_call (g := g) (vs := [gM]) en13 (.cons rfl .nil) (wk13 (nQ.ext hd.1) xM) fun g' w' v hs hr => ⟨g', hs, hr⟩) (fun jM hv => ?_)
  obtain ⟨_, _, _, rq39⟩ := hv
  refine L_ld (c := iM) rfl rfl .plain (fun _ _ h => h.ch) yM y9 ?_
  refine L_do (φ := fun v g w => RV g.m w ([x1] : List PayPiece) v ∧ OS 3033 g w 27 ([x1] : List PayPiece) v ∧ FullV v) rfl rfl .plain (fun g w hd => D_buildSlice (g := g) 3033 (xs := ([x1] : List PayPiece)) (vs := [iM]) Tryz.underlying33 Tryz.sizeOf27 Tryz.zeroValue27 rfl rfl (.cons rfl .nil) (RVs.cons (oQ.ext hd.1) RVs.nil) rfl rfl fun g' w' v hs o r hxt hfl => ⟨g', hxt, r, o, hfl⟩) (fun k9 hv => ?_)
  clear hv
  refine L_do (φ := fun v g w => RV g.m w y44 v) rfl rfl .plain (fun g w hd => D_call (g := g) (vs := [k9]) en14 (.cons rfl .nil) (wk14 (word (A := fun g w => RV g.m w ([x1] : List PayPiece) k9 ∧ OS 3033 g w 27 ([x1] : List PayPiece) k9 ∧ FullV k9) 3 rfl rfl (deps_of hd)).1 zM) fun g' w' v hs hr => ⟨g', hs, hr⟩) (fun cB hv => ?_)
  obtain ⟨_, _, _, rq43⟩ := hv
  refine L_do (φ := fun v g w => OB 2007 g w 25 (⟨[], [], 0, 0⟩ : PayList) v) rfl rfl .plain (fun g w hd => D_allocX (g := g) 2007 (⟨[], [], 0, 0⟩ : PayList) Tryz.zeroValue25 (fun m w => ⟨_, (rep_two rep_nil (rep_two rep_nil (rep_two rep_int rep_int))), rfl⟩) fun g' w' v hs b => ⟨g', hs, b⟩) (fun pQ hv => ?_)
  clear hv
  refine L_nil fun qQ lV hall => ?_
  have hs := hall.1
  have hfr := hfr.ext hs
  have j1 := j1.ext hs
  have i3 := i3.ext hs
  have j3 := j3.ext hs
  have rQ := (word_all (A := fun g w => RV g.m w y40 jM) 1 rfl hall)
  have mV := (word_all (A := fun g w => RV g.m w ([x1] : List PayPiece) k9 ∧ OS 3033 g w 27 ([x1] : List PayPiece) k9 ∧ FullV k9) 3 rfl hall).1
  have o53 := (word_all (A := fun g w => RV g.m w ([x1] : List PayPiece) k9 ∧ OS 3033 g w 27 ([x1] : List PayPiece) k9 ∧ FullV k9) 3 rfl hall).2.1
  have x5 := (word_all (A := fun g w => RV g.m w y44 cB) 4 rfl hall)
  have b55 := (word_all (A := fun g w => OB 2007 g w 25 (⟨[], [], 0, 0⟩ : PayList) pQ) 5 rfl hall)
  clear hs hall
  refine EL_do .plain rfl (D_storeOc (g := qQ) (v := jM) Tryz.sizeOf25 rfl b55 rfl rQ fun kM nV hs b56 cb => ?_)
  clear cb
  have hfr := hfr.stp hs
  have j1 := j1.stp hs
  have i3 := i3.stp hs
  have j3 := j3.stp hs
  have x5 := x5.stp hs
  refine EL_at cB rfl rfl ?_
  refine EL_nil (thn_n (E_seq (E_region (EL_do .plain rfl (D_loadO (g := kM) Tryz.isAgg25 Tryz.sizeOf25 rfl b56 fun sQ tQ => ?_)))))
  obtain ⟨aC, bN, h⟩ := bsome h
  refine EL_do .plain rfl (D_call (g := kM) (vs := [sQ]) en15 (.cons rfl .nil) (wk15 tQ bN) fun uQ pS oV hs hr => ?_)
  have hfr := hfr.ext hs
  have j1 := j1.ext hs
  have i3 := i3.ext hs
  have j3 := j3.ext hs
  have x5 := x5.ext hs
  have b56 := b56.ext hs
  subst hr
  refine EL_at (.int .i64 (aC)) rfl rfl ?_
  refine EL_nil (thn_n (E_seq (L_loadO0 (x := .tmp 7) Tryz.isAgg25 Tryz.sizeOf25 b56 fun mM vQ hl60 => ?_)))
  obtain ⟨bM, mH, h⟩ := bsome h
  have q62 := PT_idx x5 mH
  refine L_load (x := .tmp 40) Tryz.isAgg27 Tryz.sizeOf27 q62 fun nM xQ cN => ?_
  obtain ⟨u0, dN, h⟩ := bsome h
  refine E_drawL (g := uQ) (n := 14) [(4, (fun v g w => ∃ y0 y1 y2 y3 : Value, v = .tuple #[y0, y1, y2, y3] ∧ y0 = .int .i64 (u0.1) ∧ y1 = .int .i64 (u0.2.1) ∧ y2 = .int .i64 (u0.2.2.1) ∧ y3 = .int .i64 (u0.2.2.2)))] [0, 1, 2, 3, 4, 5, 6, 7, 8, 9, 10, 11, 12, 13] rfl mixed (by kernel_rfl) (⟨fun _ => (up_ex fun _ => (up_ex fun _ => (up_ex fun _ => (up_ex fun _ => (up_and (up_eq _) (up_and (up_eq _) (up_and (up_eq _) (up_and (up_eq _) (up_eq _))))))))), trivial⟩) ?_
  refine L_ld (c := mM) rfl rfl .plain (fun _ _ h => ⟨h.ch, fun b hb _ => h.below.block b hb⟩) hl60 rfl ?_
  refine L_p cB rfl rfl (P_move rfl) ?_
  refine L_p (ePtr cB (0 : Int) 5) rfl rfl (P_indexAddr (α := PayPiece) Tryz.underlying33 Tryz.sizeOf27 rfl x5 rfl mH) ?_
  refine L_ld (c := nM) rfl rfl .plain (fun _ _ h => h.ch) cN rfl ?_
  refine L_do (φ := fun v g w => ∃ y0 y1 y2 y3 : Value, v = .tuple #[y0, y1, y2, y3] ∧ y0 = .int .i64 (u0.1) ∧ y1 = .int .i64 (u0.2.1) ∧ y2 = .int .i64 (u0.2.2.1) ∧ y3 = .int .i64 (u0.2.2.2)) rfl rfl .plain (fun g w hd => D_call (g := g) (vs := [mM, nM]) en16 (.cons rfl (.cons rfl .nil)) (wk16 (vQ.ext hd.1) (xQ.ext hd.1) dN) fun g' w' v hs hr => ⟨g', hs, hr⟩) (fun pV hv => ?_)
  obtain ⟨_, _, _, _, _, _, _, rfl, rfl, rfl, rfl, rfl⟩ := hv
  refine L_p (.tuple #[.int .i64 (u0.1), .int .i64 (u0.2.1), .int .i64 (u0.2.2.1), .int .i64 (u0.2.2.2)]) rfl rfl (P_move rfl) ?_
  refine L_p (.int .i64 (u0.1)) rfl rfl (P_extract rfl rfl) ?_
  refine L_p (.int .i64 (u0.2.1)) rfl rfl (P_extract rfl rfl) ?_
  refine L_p (.int .i64 (u0.2.2.1)) rfl rfl (P_extract rfl rfl) ?_
  refine L_p (.int .i64 (u0.2.2.2)) rfl rfl (P_extract rfl rfl) ?_
  refine L_p (.int .i64 (u0.1)) rfl rfl (P_assign rfl) ?_
  refine L_p (.int .i64 (u0.2.1)) rfl rfl (P_assign rfl) ?_
  refine L_p (.int .i64 (u0.2.2.1)) rfl rfl (P_assign rfl) ?_
  refine L_p (.int .i64 (u0.2.2.2)) rfl rfl (P_assign rfl) ?_
  refine L_nl fun oM yQ hs => ?_
  have hfr := hfr.ext hs
  have j1 := j1.ext hs
  have i3 := i3.ext hs
  have j3 := j3.ext hs
  have x5 := x5.ext hs
  have b56 := b56.ext hs
  clear hs
  refine EL_nil (thn_n (E_seq (L_loadO0 (x := .tmp 7) Tryz.isAgg25 Tryz.sizeOf25 b56 fun pM zQ eN => ?_)))
  obtain ⟨cM, nH, h⟩ := bsome h
  have aR := PT_idx x5 nH
  refine L_load (x := .tmp 50) Tryz.isAgg27 Tryz.sizeOf27 aR fun qM bR gN => ?_
  refine L_load (x := .tmp 5) Tryz.isAgg29 Tryz.sizeOf29 j3 fun rM cR iN => ?_
  obtain ⟨o0, uK, h⟩ := bsome h
  refine E_drawTL (g := oM) (n := 10) [8] [(5, (fun v g w => ∃ y0 y1 : Value, v = .tuple #[y0, y1] ∧ RV g.m w (o0.1 : Span) y0 ∧ y1 = .int .i64 (o0.2))), (9, (fun v g w => OB 2014 g w 29 (⟨0, 0⟩ : Span) v))] [0, 1, 2, 3, 4, 5, 6, 7, 8, 9] rfl mixed (by kernel_rfl) (⟨fun _ => (up_ex fun _ => (up_ex fun _ => (up_and (up_eq _) (up_and up_rv (up_eq _))))), fun _ => up_ob, trivial⟩) rfl ?_
  refine L_ld (c := pM) rfl rfl .plain (fun _ _ h => ⟨h.ch, fun b hb _ => h.below.block b hb⟩) eN rfl ?_
  refine L_p cB rfl rfl (P_move rfl) ?_
  refine L_p (ePtr cB (0 : Int) 5) rfl rfl (P_indexAddr (α := PayPiece) Tryz.underlying33 Tryz.sizeOf27 rfl x5 rfl nH) ?_
  refine L_ld (c := qM) rfl rfl .plain (fun _ _ h => h.ch) gN rfl ?_
  refine L_ld (c := rM) rfl rfl .plain (fun _ _ h => h.ch) iN dB ?_
  refine L_do (φ := fun v g w => ∃ y0 y1 : Value, v = .tuple #[y0, y1] ∧ RV g.m w (o0.1 : Span) y0 ∧ y1 = .int .i64 (o0.2)) rfl rfl .plain (fun g w hd => D_call (g := g) (vs := [pM, qM, rM]) en17 (.cons rfl (.cons rfl (.cons rfl .nil))) (wk17 (zQ.ext hd.1) (bR.ext hd.1) (cR.ext hd.1) uK) fun g' w' v hs hr => ⟨g', hs, hr⟩) (fun qS hv => ?_)
  obtain ⟨_, _, _, z9, _, rfl, gQ, rfl⟩ := hv
  refine L_p (.tuple #[z9, .int .i64 (o0.2)]) rfl rfl (P_move rfl) ?_
  refine L_p z9 rfl rfl (P_extract rfl rfl) ?_
  refine L_purL (c := .int .i64 (o0.2)) rfl rfl .plain (P_extract rfl rfl) ?_
  refine L_do (φ := fun v g w => OB 2014 g w 29 (⟨0, 0⟩ : Span) v) rfl rfl .plain (fun g w hd => D_allocX (g := g) 2014 (⟨0, 0⟩ : Span) Tryz.zeroValue29 (fun m w => ⟨_, (rep_two rep_int rep_int), rfl⟩) fun g' w' v hs b => ⟨g', hs, b⟩) (fun u3 hv => ?_)
  clear hv
  refine L_nil fun oH jN hall => ?_
  have hs := hall.1
  have hlt : Lt oM.m yQ oH jN := hs.ch
  have hfr := hfr.ext hs
  have j1 := j1.ext hs
  have i3 := i3.ext hs
  have j3 := j3.ext hs
  have x5 := x5.ext hs
  have b56 := b56.ext hs
  have kN := (tup2_0 (word_all (A := fun g w => ∃ y0 y1 : Value, Value.tuple #[z9, .int .i64 (o0.2)] = .tuple #[y0, y1] ∧ RV g.m w (o0.1 : Span) y0 ∧ y1 = .int .i64 (o0.2)) 5 rfl hall))
  have b140 := (word_all (A := fun g w => OB 2014 g w 29 (⟨0, 0⟩ : Span) u3) 9 rfl hall)
  clear hs hall
  refine TL_do hlt.w .plain rfl (D_storeOc (g := oH) (v := z9) Tryz.sizeOf29 rfl b140 rfl kN fun pH rS hs b141 cb => ?_)
  clear cb
  have hfr := hfr.stp hs
  have hlt := hlt.stp hs
  have j1 := j1.stp hs
  have i3 := i3.stp hs
  have j3 := j3.stp hs
  have x5 := x5.stp hs
  have b56 := b56.stp hs rfl
  refine TL_pur hlt.w (v := .int .i64 (o0.2)) (P_assign rfl) .plain rfl ?_
  refine TL_nil hlt.w ?_
  clear hlt
  refine thn_n (E_seq (E_region (EL_do .plain rfl (D_load (g := pH) Tryz.isAgg25 Tryz.sizeOf25 d9 j1 fun lN mN => ?_))))
  obtain ⟨m7, vK, h⟩ := bsome h
  refine EL_do .plain rfl (D_call (g := pH) (vs := [lN]) en18 (.cons rfl .nil) (wk18 mN vK) fun vE dR sS hs hr => ?_)
  have hfr := hfr.ext hs
  have j1 := j1.ext hs
  have i3 := i3.ext hs
  have j3 := j3.ext hs
  have x5 := x5.ext hs
  have b56 := b56.ext hs
  have b141 := b141.ext hs
  subst hr
  refine EL_at (.int .i64 (m7)) rfl rfl ?_
  refine EL_nil (thn_n (E_joinC h (fun (s : Unit) e w => ∃ (g : Gh) , Fr gI wI g w ∧ e 3 = p1 ∧ PT g.m w (x0 : PayList) p1 ∧ e 4 = p2 ∧ PT g.m w (x1 : PayPiece) p2 ∧ e 5 = p3 ∧ PT g.m w (x2 : Span) p3 ∧ e 10 = .int .i64 (u0.1) ∧ e 11 = .int .i64 (u0.2.1) ∧ e 12 = .int .i64 (u0.2.2.1) ∧ e 13 = .int .i64 (u0.2.2.2) ∧ e 14 = u3 ∧ OB 2014 g w 29 ((o0.1 : Span) : Span) u3 ∧ e 15 = .int .i64 (o0.2) ∧ e 16 = .int .i64 (m7)) (fun X167 kH xK h => ?_) ?_))
  ·obtain ⟨c8, hx, h⟩ := bsome h
   refine E_join (fun e w => ∃ (g : Gh) , Fr gI wI g w ∧ e 3 = p1 ∧ PT g.m w (x0 : PayList) p1 ∧ e 4 = p2 ∧ PT g.m w (x1 : PayPiece) p2 ∧ e 5 = p3 ∧ PT g.m w (x2 : Span) p3 ∧ e 10 = .int .i64 (u0.1) ∧ e 11 = .int .i64 (u0.2.1) ∧ e 12 = .int .i64 (u0.2.2.1) ∧ e 13 = .int .i64 (u0.2.2.2) ∧ e 14 = u3 ∧ OB 2014 g w 29 ((o0.1 : Span) : Span) u3 ∧ e 15 = .int .i64 (o0.2) ∧ e 16 = .int .i64 (m7) ∧ e 73 = .bool (c8)) (fun Q' hQ => ?_) (fun eR tS hR => ?_)
   ·replace h := hx
    clear hx
    refine E_region (EL_do .plain rfl (D_loadO (g := vE) Tryz.isAgg25 Tryz.sizeOf25 rfl b56 fun nN oN => ?_))
    refine EL_do .plain rfl (D_load (g := vE) Tryz.isAgg25 Tryz.sizeOf25 d9 j1 fun pN qN => ?_)
    obtain ⟨rA, yK, h⟩ := bsome h
    refine EL_do .plain rfl (D_call (g := vE) (vs := [nN, pN]) en19 (.cons rfl (.cons rfl .nil)) (wk19 oN qN yK) fun xE gR uS hs hr => ?_)
    have hfr := hfr.ext hs
    have j1 := j1.ext hs
    have i3 := i3.ext hs
    have j3 := j3.ext hs
    have x5 := x5.ext hs
    have b141 := b141.ext hs
    subst hr
    refine EL_p (.bool (!rA)) (P_not rfl) rfl ?_
    refine EL_mw (.bool (!rA)) rfl rfl ?_
    rcases csome h with ⟨d7, h⟩ | ⟨d7, h⟩
    ·refine EL_s rfl rfl d7 rfl rfl ?_
     iterate 4 refine EL_s rfl rfl d7 rfl rfl ?_
     refine EL_p (.bool true) (P_pick (b := (!rA)) rfl (pick_t d7 rfl)) rfl ?_
     refine EL_dead 5 rfl ?_
     refine EL_nil ?_
     obtain rfl := sinj h
     exact hQ _ _ ⟨xE, hfr, d9, j1, y9, i3, dB, j3, rfl, rfl, rfl, rfl, rfl, b141, rfl, rfl, rfl⟩
    ·refine EL_y cB (P_move rfl) rfl rfl d7 rfl ?_
     refine EL_do (.yes2 rfl rfl d7) rfl (D_load (g := xE) Tryz.isAgg27 Tryz.sizeOf27 y9 i3 fun rN sN => ?_)
     refine EL_do (.yes2 rfl rfl d7) rfl (D_buildSlice (g := xE) 3065 (xs := ([x1] : List PayPiece)) (vs := [rN]) Tryz.underlying33 Tryz.sizeOf27 Tryz.zeroValue27 rfl rfl (.cons rfl .nil) (RVs.cons sN RVs.nil) rfl rfl fun tN vS uN hs o184 vN hxt hfl => ?_)
     have hfr := hfr.stp hs
     have j1 := j1.stp hs
     have i3 := i3.stp hs
     have j3 := j3.stp hs
     have x5 := x5.stp hs
     have b141 := b141.stp hs rfl
     obtain ⟨n9, zK, h⟩ := bsome h
     refine EL_do (.yes2 rfl rfl d7) rfl (D_call (g := tN) (vs := [cB, uN]) en20 (.cons rfl (.cons rfl .nil)) (wk20 x5 vN zK) fun qH iR xS hs hr => ?_)
     have hfr := hfr.ext hs
     have j1 := j1.ext hs
     have i3 := i3.ext hs
     have j3 := j3.ext hs
     have b141 := b141.ext hs
     subst hr
     refine EL_y (.bool (!n9)) (P_not rfl) rfl rfl d7 rfl ?_
     refine EL_p (.bool (!n9)) (P_pick (b := (!rA)) rfl (pick_f d7 rfl)) rfl ?_
     refine EL_mw (.bool (!n9)) rfl rfl ?_
     rcases csome h with ⟨e7, h⟩ | ⟨e7, h⟩
     ·refine EL_s rfl rfl e7 rfl rfl ?_
      refine EL_s rfl rfl e7 rfl rfl ?_
      refine EL_s rfl rfl e7 rfl rfl ?_
      refine EL_p (.bool true) (P_pick (b := (!n9)) rfl (pick_t e7 rfl)) rfl ?_
      refine EL_nil ?_
      obtain rfl := sinj h
      exact hQ _ _ ⟨qH, hfr, d9, j1, y9, i3, dB, j3, rfl, rfl, rfl, rfl, rfl, b141, rfl, rfl, rfl⟩
     ·refine EL_y (.int .i64 (aC)) (P_move rfl) rfl rfl e7 rfl ?_
      refine EL_y (.int .i64 (m7)) (P_move rfl) rfl rfl e7 rfl ?_
      refine EL_y (.bool ((aC != m7))) (P_int rfl rfl rfl) rfl rfl e7 rfl ?_
      refine EL_p (.bool ((aC != m7))) (P_pick (b := (!n9)) rfl (pick_f e7 rfl)) rfl ?_
      refine EL_nil ?_
      obtain rfl := sinj h
      exact hQ _ _ ⟨qH, hfr, d9, j1, y9, i3, dB, j3, rfl, rfl, rfl, rfl, rfl, b141, rfl, rfl, rfl⟩
   ·clear hx
    obtain ⟨xN, hfr, sH, tH, uH, vH, xH, yH, pF, qF, rF, sF, tF, uF, vF, xF, cC⟩ := hR
    rcases csome h with ⟨zD, h⟩ | ⟨zD, h⟩
    ·refine E_cond_true (Eq.trans (show ev _ _ = .bool (c8) from cC) (congrArg Value.bool zD)) ?_
     refine E_seq (E_region (EL_at (.bool false) rfl rfl ?_))
     refine EL_nil (thn_n (E_ret (thn_r ?_)))
     obtain rfl := sinj h
     exact end1 rfl rfl (show _ = .bool false from rfl) ⟨_, hfr, rfl⟩
    ·refine E_cond_false (Eq.trans (show ev _ _ = .bool (c8) from cC) (congrArg Value.bool zD)) ?_
     exact E_skip (thn_n (xK () _ _ ⟨xN, hfr, sH, tH, uH, vH, xH, yH, pF, qF, rF, sF, tF, uF, vF, xF⟩ h))
  ·rintro _ jR yS ⟨aE, hfr, eB, q8, iB, r8, mE, bA, dC, eC, iC, jC, kC, e9, lC, mC⟩ h
   obtain ⟨z4, hx, h⟩ := bsome h
   refine E_join (fun e w => ∃ (g : Gh) , Fr gI wI g w ∧ e 3 = p1 ∧ PT g.m w (x0 : PayList) p1 ∧ e 4 = p2 ∧ PT g.m w (x1 : PayPiece) p2 ∧ e 5 = p3 ∧ PT g.m w (x2 : Span) p3 ∧ e 10 = .int .i64 (u0.1) ∧ e 11 = .int .i64 (u0.2.1) ∧ e 12 = .int .i64 (u0.2.2.1) ∧ e 13 = .int .i64 (u0.2.2.2) ∧ e 14 = u3 ∧ OB 2014 g w 29 ((o0.1 : Span) : Span) u3 ∧ e 15 = .int .i64 (o0.2) ∧ e 16 = .int .i64 (z4)) (fun Q' hQ => ?_) (fun lR zS hR => ?_)
   ·replace h := hx
    clear hx
    refine E_seq (E_region (EL_mv mC rfl ?_))
    refine EL_in (.bool ((m7 == (0 : Int)))) rfl rfl rfl rfl ?_
    refine EL_nil (thn_n ?_)
    rcases csome h with ⟨bE, h⟩ | ⟨bE, h⟩
    ·refine E_ct bE rfl ?_
     refine E_region (EL_do .plain rfl (D_load (g := aE) Tryz.isAgg25 Tryz.sizeOf25 eB q8 fun yN zN => ?_))
     refine EL_do .plain rfl (D_load (g := aE) Tryz.isAgg27 Tryz.sizeOf27 iB r8 fun aO bO => ?_)
     obtain ⟨tE, aL, h⟩ := bsome h
     refine EL_do .plain rfl (D_call (g := aE) (vs := [yN, aO]) en21 (.cons rfl (.cons rfl .nil)) (wk21 zN bO aL) fun cO mR eT hs hr => ?_)
     have hfr := hfr.ext hs
     have q8 := q8.ext hs
     have r8 := r8.ext hs
     have bA := bA.ext hs
     have e9 := e9.ext hs
     subst hr
     refine EL_at (.int .i64 (tE)) rfl rfl ?_
     refine EL_nil ?_
     obtain rfl := sinj h
     exact hQ _ _ ⟨cO, hfr, eB, q8, iB, r8, mE, bA, dC, eC, iC, jC, kC, e9, lC, rfl⟩
    ·refine E_cf bE rfl ?_
     refine E_skip ?_
     obtain rfl := sinj h
     exact hQ _ _ ⟨aE, hfr, eB, q8, iB, r8, mE, bA, dC, eC, iC, jC, kC, e9, lC, mC⟩
   ·clear hx
    obtain ⟨dO, hfr, zH, aI, bI, cI, dI, iI, yF, zF, aG, bG, cG, dG, eG, qC⟩ := hR
    refine E_joinC h (fun (s : Unit) e w => ∃ (g : Gh) , Fr gI wI g w ∧ e 3 = p1 ∧ PT g.m w (x0 : PayList) p1 ∧ e 4 = p2 ∧ PT g.m w (x1 : PayPiece) p2 ∧ e 5 = p3 ∧ PT g.m w (x2 : Span) p3 ∧ e 10 = .int .i64 (u0.1) ∧ e 11 = .int .i64 (u0.2.1) ∧ e 12 = .int .i64 (u0.2.2.1) ∧ e 14 = u3 ∧ OB 2014 g w 29 ((o0.1 : Span) : Span) u3 ∧ e 15 = .int .i64 (o0.2) ∧ e 16 = .int .i64 (z4)) (fun X203 jH bL h => ?_) ?_
    ·refine E_seq (E_region (EL_mv bG rfl ?_))
     refine EL_mv qC rfl ?_
     refine EL_in (.bool ((u0.2.2.2 != z4))) rfl rfl rfl rfl ?_
     refine EL_nil (thn_n ?_)
     rcases csome h with ⟨cE, h⟩ | ⟨cE, h⟩
     ·refine E_ct cE rfl ?_
      refine E_seq (E_region (EL_at (.bool false) rfl rfl ?_))
      refine EL_nil (thn_n (E_ret (thn_r ?_)))
      obtain rfl := sinj h
      exact end1 rfl rfl (show _ = .bool false from rfl) ⟨_, hfr, rfl⟩
     ·refine E_cf cE rfl ?_
      exact E_skip (thn_n (bL () _ _ ⟨dO, hfr, zH, aI, bI, cI, dI, iI, yF, zF, aG, cG, dG, eG, qC⟩ h))
    ·rintro _ nR eO ⟨k8, hfr, jI, kI, lI, mI, nI, pI, rC, tC, uC, vC, xC, yC, aD⟩ h
     refine E_joinC h (fun (s : Unit) e w => ∃ (g : Gh) , Fr gI wI g w ∧ e 3 = p1 ∧ PT g.m w (x0 : PayList) p1 ∧ e 4 = p2 ∧ PT g.m w (x1 : PayPiece) p2 ∧ e 5 = p3 ∧ PT g.m w (x2 : Span) p3 ∧ e 10 = .int .i64 (u0.1) ∧ e 11 = .int .i64 (u0.2.1) ∧ e 12 = .int .i64 (u0.2.2.1) ∧ e 14 = u3 ∧ OB 2014 g w 29 ((o0.1 : Span) : Span) u3 ∧ e 15 = .int .i64 (o0.2)) (fun X226 iH cL h => ?_) ?_
     ·refine E_seq (E_region (EL_mv aD rfl ?_))
      refine EL_in (.bool ((z4 != (0 : Int)))) rfl rfl rfl rfl ?_
      refine EL_nil (thn_n ?_)
      rcases csome h with ⟨dE, h⟩ | ⟨dE, h⟩
      ·refine E_ct dE rfl ?_
       obtain ⟨u9, hx, h⟩ := bsome h
       refine E_join (fun e w => ∃ (g : Gh) , Fr gI wI g w ∧ e 6 = .bool (u9)) (fun Q' hQ => ?_) (fun oR lT hR => ?_)
       ·replace h := hx
        clear hx
        refine E_region (EL_mv yC rfl ?_)
        refine EL_mv aD rfl ?_
        refine EL_in (.bool ((o0.2 == z4))) rfl rfl rfl rfl ?_
        refine EL_mw (.bool ((o0.2 == z4))) rfl rfl ?_
        rcases csome h with ⟨l8, h⟩ | ⟨l8, h⟩
        ·refine EL_y (.int .i64 (u0.1)) (P_move rC) rfl rfl l8 rfl ?_
         refine EL_y (.bool ((u0.1 == (0 : Int)))) (P_int rfl rfl rfl) rfl rfl l8 rfl ?_
         refine EL_p (.bool ((u0.1 == (0 : Int)))) (P_pick (b := (o0.2 == z4)) rfl (pick_t l8 rfl)) rfl ?_
         refine EL_mw (.bool ((u0.1 == (0 : Int)))) rfl rfl ?_
         rcases csome h with ⟨m8, h⟩ | ⟨m8, h⟩
         ·refine EL_y (.int .i64 (u0.2.1)) (P_move tC) rfl rfl m8 rfl ?_
          refine EL_y (.bool ((u0.2.1 == (0 : Int)))) (P_int rfl rfl rfl) rfl rfl m8 rfl ?_
          refine EL_p (.bool ((u0.2.1 == (0 : Int)))) (P_pick (b := (u0.1 == (0 : Int))) rfl (pick_t m8 rfl)) rfl ?_
          refine EL_mw (.bool ((u0.2.1 == (0 : Int)))) rfl rfl ?_
          rcases csome h with ⟨n8, h⟩ | ⟨n8, h⟩
          ·refine EL_y (.int .i64 (u0.2.2.1)) (P_move uC) rfl rfl n8 rfl ?_
           refine EL_y (.bool ((u0.2.2.1 == (0 : Int)))) (P_int rfl rfl rfl) rfl rfl n8 rfl ?_
           refine EL_p (.bool ((u0.2.2.1 == (0 : Int)))) (P_pick (b := (u0.2.1 == (0 : Int))) rfl (pick_t n8 rfl)) rfl ?_
           refine EL_mw (.bool ((u0.2.2.1 == (0 : Int)))) rfl rfl ?_
           rcases csome h with ⟨g7, h⟩ | ⟨g7, h⟩
           ·refine EL_do (.yes2 rfl rfl g7) rfl (D_loadO (g := k8) Tryz.isAgg29 Tryz.sizeOf29 vC xC fun mT gO => ?_)
            have qI : RV k8.m eO (⟨0, 0⟩ : Span) (.agg (setCh [[.int .i64 0], [.int .i64 0]] []).flatten.toArray) := RV_build rfl (rep_pair (rep_int) (rep_last (rep_int)))
            generalize dL : (Value.agg (setCh [[.int .i64 0], [.int .i64 0]] []).flatten.toArray) = iO at qI
            refine EL_y iO (dL ▸ P_build (vs := []) [[.int .i64 0], [.int .i64 0]] lay_29 rfl rfl .nil trivial) rfl rfl g7 rfl ?_
            refine EL_y (.bool ((decide ((o0.1 : Span) = (⟨0, 0⟩ : Span))))) (P_seq seq_29 rfl eg_29 rfl rfl gO qI) rfl rfl g7 rfl ?_
            refine EL_p (.bool ((decide ((o0.1 : Span) = (⟨0, 0⟩ : Span))))) (P_pick (b := (u0.2.2.1 == (0 : Int))) rfl (pick_t g7 rfl)) rfl ?_
            refine EL_mw (.bool ((decide ((o0.1 : Span) = (⟨0, 0⟩ : Span))))) rfl rfl ?_
            rcases csome h with ⟨gA, h⟩ | ⟨gA, h⟩
            ·obtain ⟨yD, eL, h⟩ := bsome h
             refine EL_do (.yes2 rfl rfl gA) rfl (D_call (g := k8) (vs := []) en12 .nil (wk12  eL) fun jO pR nT hs hr => ?_)
             have hfr := hfr.ext hs
             subst hr
             refine EL_p (.bool (yD)) (P_pick (b := (decide ((o0.1 : Span) = (⟨0, 0⟩ : Span)))) rfl (pick_t gA rfl)) rfl ?_
             refine EL_at (.bool (yD)) rfl rfl ?_
             refine EL_nil ?_
             obtain rfl := sinj h
             exact hQ _ _ ⟨jO, hfr, rfl⟩
            ·refine EL_s rfl rfl gA rfl rfl ?_
             refine EL_p (.bool false) (P_pick (b := (decide ((o0.1 : Span) = (⟨0, 0⟩ : Span)))) rfl (pick_f gA rfl)) rfl ?_
             refine EL_at (.bool false) rfl rfl ?_
             refine EL_nil ?_
             obtain rfl := sinj h
             exact hQ _ _ ⟨k8, hfr, rfl⟩
           ·refine EL_s rfl rfl g7 rfl rfl ?_
            refine EL_s rfl rfl g7 rfl rfl ?_
            refine EL_s rfl rfl g7 rfl rfl ?_
            refine EL_p (.bool false) (P_pick (b := (u0.2.2.1 == (0 : Int))) rfl (pick_f g7 rfl)) rfl ?_
            refine EL_dead 3 rfl ?_
            refine EL_at (.bool false) rfl rfl ?_
            refine EL_nil ?_
            obtain rfl := sinj h
            exact hQ _ _ ⟨k8, hfr, rfl⟩
          ·refine EL_s rfl rfl n8 rfl rfl ?_
           refine EL_s rfl rfl n8 rfl rfl ?_
           refine EL_p (.bool false) (P_pick (b := (u0.2.1 == (0 : Int))) rfl (pick_f n8 rfl)) rfl ?_
           refine EL_dead 8 rfl ?_
           refine EL_at (.bool false) rfl rfl ?_
           refine EL_nil ?_
           obtain rfl := sinj h
           exact hQ _ _ ⟨k8, hfr, rfl⟩
         ·refine EL_s rfl rfl m8 rfl rfl ?_
          refine EL_s rfl rfl m8 rfl rfl ?_
          refine EL_p (.bool false) (P_pick (b := (u0.1 == (0 : Int))) rfl (pick_f m8 rfl)) rfl ?_
          refine EL_dead 12 rfl ?_
          refine EL_at (.bool false) rfl rfl ?_
          refine EL_nil ?_
          obtain rfl := sinj h
          exact hQ _ _ ⟨k8, hfr, rfl⟩
        ·refine EL_s rfl rfl l8 rfl rfl ?_
         refine EL_s rfl rfl l8 rfl rfl ?_
         refine EL_p (.bool false) (P_pick (b := (o0.2 == z4)) rfl (pick_f l8 rfl)) rfl ?_
         refine EL_dead 16 rfl ?_
         refine EL_at (.bool false) rfl rfl ?_
         refine EL_nil ?_
         obtain rfl := sinj h
         exact hQ _ _ ⟨k8, hfr, rfl⟩
       ·clear hx
        obtain ⟨oT, hfr, rI⟩ := hR
        refine E_ret (thn_r ?_)
        obtain rfl := sinj h
        exact end1 rfl rfl (show _ = .bool (u9) from rI) ⟨_, hfr, rfl⟩
      ·refine E_cf dE rfl ?_
       exact E_skip (thn_n (cL () _ _ ⟨k8, hfr, jI, kI, lI, mI, nI, pI, rC, tC, uC, vC, xC, yC⟩ h))
     ·rintro _ qR pT ⟨yE, hfr, g8, l5, v7, z3, jB, x6, gG, hG, iG, uA, t5, xA⟩ h
      refine E_joinC h (fun (s : Unit) e w => ∃ (g : Gh) , Fr gI wI g w ∧ e 3 = p1 ∧ PT g.m w (x0 : PayList) p1 ∧ e 4 = p2 ∧ PT g.m w (x1 : PayPiece) p2 ∧ e 5 = p3 ∧ PT g.m w (x2 : Span) p3 ∧ e 14 = u3 ∧ OB 2014 g w 29 ((o0.1 : Span) : Span) u3 ∧ e 15 = .int .i64 (o0.2)) (fun X280 gH gL h => ?_) ?_
      ·refine E_seq (E_region (EL_do .plain rfl (D_load (g := yE) Tryz.isAgg25 Tryz.sizeOf25 g8 l5 fun kO lO => ?_)))
       refine EL_do .plain rfl (D_load (g := yE) Tryz.isAgg27 Tryz.sizeOf27 v7 z3 fun mO nO => ?_)
       obtain ⟨o7, iL, h⟩ := bsome h
       refine EL_do .plain rfl (D_call (g := yE) (vs := [kO, mO]) en22 (.cons rfl (.cons rfl .nil)) (wk22 lO nO iL) fun eE rR sT hs hr => ?_)
       have hfr := hfr.ext hs
       have l5 := l5.ext hs
       have z3 := z3.ext hs
       have x6 := x6.ext hs
       have t5 := t5.ext hs
       subst hr
       refine EL_at (.int .i64 (o7)) rfl rfl ?_
       refine EL_nil (thn_n ?_)
       obtain ⟨u7, hx, h⟩ := bsome h
       refine E_join (fun e w => ∃ (g : Gh) , Fr gI wI g w ∧ e 3 = p1 ∧ PT g.m w (x0 : PayList) p1 ∧ e 4 = p2 ∧ PT g.m w (x1 : PayPiece) p2 ∧ e 5 = p3 ∧ PT g.m w (x2 : Span) p3 ∧ e 14 = u3 ∧ OB 2014 g w 29 ((o0.1 : Span) : Span) u3 ∧ e 15 = .int .i64 (o0.2) ∧ e 130 = .bool (u7)) (fun Q' hQ => ?_) (fun tR tT hR => ?_)
       ·replace h := hx
        clear hx
        refine E_region (EL_mv gG rfl ?_)
        refine EL_mw (.int .i64 (o7)) rfl rfl ?_
        refine EL_in (.bool ((u0.1 != o7))) rfl rfl rfl rfl ?_
        refine EL_mw (.bool ((u0.1 != o7))) rfl rfl ?_
        rcases csome h with ⟨j6, h⟩ | ⟨j6, h⟩
        ·refine EL_s rfl rfl j6 rfl rfl ?_
         iterate 6 refine EL_s rfl rfl j6 rfl rfl ?_
         refine EL_p (.bool true) (P_pick (b := (u0.1 != o7)) rfl (pick_t j6 rfl)) rfl ?_
         refine EL_dead 9 rfl ?_
         refine EL_nil ?_
         obtain rfl := sinj h
         exact hQ _ _ ⟨eE, hfr, g8, l5, v7, z3, jB, x6, uA, t5, xA, rfl⟩
        ·refine EL_y (.int .i64 (u0.2.1)) (P_move hG) rfl rfl j6 rfl ?_
         refine EL_do (.yes2 rfl rfl j6) rfl (D_load (g := eE) Tryz.isAgg25 Tryz.sizeOf25 g8 l5 fun oO pO => ?_)
         refine EL_y (.int .i64 (o7)) (P_move rfl) rfl rfl j6 rfl ?_
         refine EL_y (fPtr p2 4) (P_fieldAddr at_27_4 v7 (PT.ptr z3)) rfl rfl j6 rfl ?_
         have qO := PT_field (part_PayPiece_4).1 z3
         refine EL_do (.yes2 rfl rfl j6) rfl (D_load (g := eE) Tryz.isAgg3 Tryz.sizeOf3 rfl qO fun uT rO => ?_)
         obtain rfl := RV_int.1 rO
         obtain ⟨l9, jL, h⟩ := bsome h
         refine EL_do (.yes2 rfl rfl j6) rfl (D_call (g := eE) (vs := [oO, .int .i64 (o7), .int .i64 ((x1).Faults)]) en23 (.cons rfl (.cons rfl (.cons rfl .nil))) (wk23 pO jL) fun lB uR vT hs hr => ?_)
         have hfr := hfr.ext hs
         have l5 := l5.ext hs
         have z3 := z3.ext hs
         have x6 := x6.ext hs
         have t5 := t5.ext hs
         subst hr
         refine EL_y (.bool ((u0.2.1 != l9))) (P_int rfl rfl rfl) rfl rfl j6 rfl ?_
         refine EL_p (.bool ((u0.2.1 != l9))) (P_pick (b := (u0.1 != o7)) rfl (pick_f j6 rfl)) rfl ?_
         refine EL_mw (.bool ((u0.2.1 != l9))) rfl rfl ?_
         rcases csome h with ⟨v6, h⟩ | ⟨v6, h⟩
         ·refine EL_s rfl rfl v6 rfl rfl ?_
          iterate 6 refine EL_s rfl rfl v6 rfl rfl ?_
          refine EL_p (.bool true) (P_pick (b := (u0.2.1 != l9)) rfl (pick_t v6 rfl)) rfl ?_
          refine EL_nil ?_
          obtain rfl := sinj h
          exact hQ _ _ ⟨lB, hfr, g8, l5, v7, z3, jB, x6, uA, t5, xA, rfl⟩
         ·refine EL_y (.int .i64 (u0.2.2.1)) (P_move iG) rfl rfl v6 rfl ?_
          refine EL_do (.yes2 rfl rfl v6) rfl (D_load (g := lB) Tryz.isAgg25 Tryz.sizeOf25 g8 l5 fun sO tO => ?_)
          refine EL_do (.yes2 rfl rfl v6) rfl (D_load (g := lB) Tryz.isAgg27 Tryz.sizeOf27 v7 z3 fun uO vO => ?_)
          refine EL_y (fPtr p2 4) (P_fieldAddr at_27_4 v7 (PT.ptr z3)) rfl rfl v6 rfl ?_
          have xO := PT_field (part_PayPiece_4).1 z3
          refine EL_do (.yes2 rfl rfl v6) rfl (D_load (g := lB) Tryz.isAgg3 Tryz.sizeOf3 rfl xO fun xT yO => ?_)
          obtain rfl := RV_int.1 yO
          obtain ⟨xD, lL, h⟩ := bsome h
          refine EL_do (.yes2 rfl rfl v6) rfl (D_call (g := lB) (vs := [sO, uO, .int .i64 ((x1).Faults)]) en24 (.cons rfl (.cons rfl (.cons rfl .nil))) (wk24 tO vO lL) fun zO vR yT hs hr => ?_)
          have hfr := hfr.ext hs
          have l5 := l5.ext hs
          have z3 := z3.ext hs
          have x6 := x6.ext hs
          have t5 := t5.ext hs
          subst hr
          refine EL_y (.bool ((u0.2.2.1 != xD))) (P_int rfl rfl rfl) rfl rfl v6 rfl ?_
          refine EL_p (.bool ((u0.2.2.1 != xD))) (P_pick (b := (u0.2.1 != l9)) rfl (pick_f v6 rfl)) rfl ?_
          refine EL_nil ?_
          obtain rfl := sinj h
          exact hQ _ _ ⟨zO, hfr, g8, l5, v7, z3, jB, x6, uA, t5, xA, rfl⟩
       ·clear hx
        obtain ⟨aP, hfr, sI, tI, uI, vI, xI, yI, jG, kG, lG, mB⟩ := hR
        rcases csome h with ⟨gE, h⟩ | ⟨gE, h⟩
        ·refine E_cond_true (Eq.trans (show ev _ _ = .bool (u7) from mB) (congrArg Value.bool gE)) ?_
         refine E_seq (E_region (EL_at (.bool false) rfl rfl ?_))
         refine EL_nil (thn_n (E_ret (thn_r ?_)))
         obtain rfl := sinj h
         exact end1 rfl rfl (show _ = .bool false from rfl) ⟨_, hfr, rfl⟩
        ·refine E_cond_false (Eq.trans (show ev _ _ = .bool (u7) from mB) (congrArg Value.bool gE)) ?_
         exact E_skip (thn_n (gL () _ _ ⟨aP, hfr, sI, tI, uI, vI, xI, yI, jG, kG, lG⟩ h))
      ·rintro _ xR zT ⟨zE, hfr, nE, iA, oE, jA, t8, i6, bD, i9, cD⟩ h
       refine E_joinC h (fun (s : Unit) e w => ∃ (g : Gh) , Fr gI wI g w ∧ e 3 = p1 ∧ PT g.m w (x0 : PayList) p1 ∧ e 4 = p2 ∧ PT g.m w (x1 : PayPiece) p2 ∧ e 5 = p3 ∧ PT g.m w (x2 : Span) p3 ∧ e 14 = u3 ∧ OB 2014 g w 29 ((o0.1 : Span) : Span) u3 ∧ e 15 = .int .i64 (o0.2)) (fun X347 dH mL h => ?_) ?_
       ·obtain ⟨n7, hx, h⟩ := bsome h
        refine E_join (fun e w => ∃ (g : Gh) , Fr gI wI g w ∧ e 3 = p1 ∧ PT g.m w (x0 : PayList) p1 ∧ e 4 = p2 ∧ PT g.m w (x1 : PayPiece) p2 ∧ e 5 = p3 ∧ PT g.m w (x2 : Span) p3 ∧ e 14 = u3 ∧ OB 2014 g w 29 ((o0.1 : Span) : Span) u3 ∧ e 15 = .int .i64 (o0.2) ∧ e 141 = .bool (n7)) (fun Q' hQ => ?_) (fun yR bP hR => ?_)
        ·replace h := hx
         clear hx
         refine E_region (EL_p (fPtr p3 0) (P_fieldAddr at_29_0 t8 (PT.ptr i6)) rfl ?_)
         have cP := PT_field (part_Span_0).1 i6
         refine EL_do .plain rfl (D_load (g := zE) Tryz.isAgg3 Tryz.sizeOf3 rfl cP fun aU dP => ?_)
         obtain rfl := RV_int.1 dP
         refine EL_p (fPtr p3 1) (P_fieldAddr at_29_1 t8 (PT.ptr i6)) rfl ?_
         have eP := PT_field (part_Span_1).1 i6
         refine EL_do .plain rfl (D_load (g := zE) Tryz.isAgg3 Tryz.sizeOf3 rfl eP fun bU gP => ?_)
         obtain rfl := RV_int.1 gP
         obtain ⟨qA, nL, h⟩ := bsome h
         refine EL_do .plain rfl (D_call (g := zE) (vs := [.int .i64 ((x2).Low), .int .i64 (0), .int .i64 ((x2).High)]) en25 (.cons rfl (.cons rfl (.cons rfl .nil))) (wk25  nL) fun cF zR cU hs hr => ?_)
         have hfr := hfr.ext hs
         have iA := iA.ext hs
         have jA := jA.ext hs
         have i6 := i6.ext hs
         have i9 := i9.ext hs
         subst hr
         refine EL_p (.bool (!qA)) (P_not rfl) rfl ?_
         refine EL_mw (.bool (!qA)) rfl rfl ?_
         rcases csome h with ⟨i7, h⟩ | ⟨i7, h⟩
         ·refine EL_s rfl rfl i7 rfl rfl ?_
          refine EL_s rfl rfl i7 rfl rfl ?_
          refine EL_s rfl rfl i7 rfl rfl ?_
          refine EL_p (.bool true) (P_pick (b := (!qA)) rfl (pick_t i7 rfl)) rfl ?_
          refine EL_nil ?_
          obtain rfl := sinj h
          exact hQ _ _ ⟨cF, hfr, nE, iA, oE, jA, t8, i6, bD, i9, cD, rfl⟩
         ·refine EL_y (fPtr p3 1) (P_fieldAddr at_29_1 t8 (PT.ptr i6)) rfl rfl i7 rfl ?_
          have iP := PT_field (part_Span_1).1 i6
          refine EL_do (.yes2 rfl rfl i7) rfl (D_load (g := cF) Tryz.isAgg3 Tryz.sizeOf3 rfl iP fun dU jP => ?_)
          obtain rfl := RV_int.1 jP
          refine EL_y (.bool ((decide ((x2).High > (100 : Int))))) (P_int rfl rfl rfl) rfl rfl i7 rfl ?_
          refine EL_p (.bool ((decide ((x2).High > (100 : Int))))) (P_pick (b := (!qA)) rfl (pick_f i7 rfl)) rfl ?_
          refine EL_nil ?_
          obtain rfl := sinj h
          exact hQ _ _ ⟨cF, hfr, nE, iA, oE, jA, t8, i6, bD, i9, cD, rfl⟩
        ·clear hx
         obtain ⟨yA, hfr, zI, aJ, bJ, cJ, dJ, eJ, eD, gD, iD, nB⟩ := hR
         rcases csome h with ⟨iE, h⟩ | ⟨iE, h⟩
         ·refine E_cond_true (Eq.trans (show ev _ _ = .bool (n7) from nB) (congrArg Value.bool iE)) ?_
          obtain ⟨t9, hx, h⟩ := bsome h
          refine E_join (fun e w => ∃ (g : Gh) , Fr gI wI g w ∧ e 6 = .bool (t9)) (fun Q' hQ => ?_) (fun aS eU hR => ?_)
          ·replace h := hx
           clear hx
           refine E_region (EL_mv iD rfl ?_)
           refine EL_in (.bool ((o0.2 == (3 : Int)))) rfl rfl rfl rfl ?_
           refine EL_mw (.bool ((o0.2 == (3 : Int)))) rfl rfl ?_
           rcases csome h with ⟨j7, h⟩ | ⟨j7, h⟩
           ·refine EL_do (.yes2 rfl rfl j7) rfl (D_loadO (g := yA) Tryz.isAgg29 Tryz.sizeOf29 eD gD fun gU kP => ?_)
            have gJ : RV yA.m bP (⟨0, 0⟩ : Span) (.agg (setCh [[.int .i64 0], [.int .i64 0]] []).flatten.toArray) := RV_build rfl (rep_pair (rep_int) (rep_last (rep_int)))
            generalize oL : (Value.agg (setCh [[.int .i64 0], [.int .i64 0]] []).flatten.toArray) = lP at gJ
            refine EL_y lP (oL ▸ P_build (vs := []) [[.int .i64 0], [.int .i64 0]] lay_29 rfl rfl .nil trivial) rfl rfl j7 rfl ?_
            refine EL_y (.bool ((decide ((o0.1 : Span) = (⟨0, 0⟩ : Span))))) (P_seq seq_29 rfl eg_29 rfl rfl kP gJ) rfl rfl j7 rfl ?_
            refine EL_p (.bool ((decide ((o0.1 : Span) = (⟨0, 0⟩ : Span))))) (P_pick (b := (o0.2 == (3 : Int))) rfl (pick_t j7 rfl)) rfl ?_
            refine EL_mw (.bool ((decide ((o0.1 : Span) = (⟨0, 0⟩ : Span))))) rfl rfl ?_
            rcases csome h with ⟨lA, h⟩ | ⟨lA, h⟩
            ·obtain ⟨vD, pL, h⟩ := bsome h
             refine EL_do (.yes2 rfl rfl lA) rfl (D_call (g := yA) (vs := []) en12 .nil (wk12  pL) fun mP bS iU hs hr => ?_)
             have hfr := hfr.ext hs
             subst hr
             refine EL_p (.bool (vD)) (P_pick (b := (decide ((o0.1 : Span) = (⟨0, 0⟩ : Span)))) rfl (pick_t lA rfl)) rfl ?_
             refine EL_at (.bool (vD)) rfl rfl ?_
             refine EL_nil ?_
             obtain rfl := sinj h
             exact hQ _ _ ⟨mP, hfr, rfl⟩
            ·refine EL_s rfl rfl lA rfl rfl ?_
             refine EL_p (.bool false) (P_pick (b := (decide ((o0.1 : Span) = (⟨0, 0⟩ : Span)))) rfl (pick_f lA rfl)) rfl ?_
             refine EL_at (.bool false) rfl rfl ?_
             refine EL_nil ?_
             obtain rfl := sinj h
             exact hQ _ _ ⟨yA, hfr, rfl⟩
           ·refine EL_s rfl rfl j7 rfl rfl ?_
            refine EL_s rfl rfl j7 rfl rfl ?_
            refine EL_s rfl rfl j7 rfl rfl ?_
            refine EL_p (.bool false) (P_pick (b := (o0.2 == (3 : Int))) rfl (pick_f j7 rfl)) rfl ?_
            refine EL_dead 3 rfl ?_
            refine EL_at (.bool false) rfl rfl ?_
            refine EL_nil ?_
            obtain rfl := sinj h
            exact hQ _ _ ⟨yA, hfr, rfl⟩
          ·clear hx
           obtain ⟨jU, hfr, iJ⟩ := hR
           refine E_ret (thn_r ?_)
           obtain rfl := sinj h
           exact end1 rfl rfl (show _ = .bool (t9) from iJ) ⟨_, hfr, rfl⟩
         ·refine E_cond_false (Eq.trans (show ev _ _ = .bool (n7) from nB) (congrArg Value.bool iE)) ?_
          exact E_skip (thn_n (mL () _ _ ⟨yA, hfr, zI, aJ, bJ, cJ, dJ, eJ, eD, gD, iD⟩ h))
       ·rintro _ cS kU ⟨jJ, hfr, kJ, lJ, mJ, nJ, rE, oB, mG, nG, oG⟩ h
        refine E_seq (E_region (EL_at (.int .i64 (1099511627776)) rfl rfl ?_))
        refine EL_at (.int .i64 (-1)) rfl rfl ?_
        refine EL_nil (thn_n ?_)
        obtain ⟨⟨b7, c7⟩, hx, h⟩ := bsome h
        refine E_join (fun e w => ∃ (g : Gh) , Fr gI wI g w ∧ e 14 = u3 ∧ OB 2014 g w 29 ((o0.1 : Span) : Span) u3 ∧ e 15 = .int .i64 (o0.2) ∧ e 18 = .int .i64 (b7) ∧ e 19 = .int .i64 (c7)) (fun Q' hQ => ?_) (fun dS lU hR => ?_)
        ·replace h := hx
         clear hx
         refine E_seq (E_region (EL_p (fPtr p3 0) (P_fieldAddr at_29_0 rE (PT.ptr oB)) rfl ?_))
         have nP := PT_field (part_Span_0).1 oB
         refine EL_do .plain rfl (D_load (g := jJ) Tryz.isAgg3 Tryz.sizeOf3 rfl nP fun mU oP => ?_)
         obtain rfl := RV_int.1 oP
         refine EL_at (.int .i64 ((x2).Low)) rfl rfl ?_
         refine EL_nil (thn_n (E_block ?_))
         refine E_lp h (fun (s : Int × Int × Int) e w => ∃ (g : Gh) , Fr gI wI g w ∧ e 3 = p1 ∧ PT g.m w (x0 : PayList) p1 ∧ e 4 = p2 ∧ PT g.m w (x1 : PayPiece) p2 ∧ e 5 = p3 ∧ PT g.m w (x2 : Span) p3 ∧ e 14 = u3 ∧ OB 2014 g w 29 ((o0.1 : Span) : Span) u3 ∧ e 15 = .int .i64 (o0.2) ∧ e 18 = .int .i64 (s.1) ∧ e 19 = .int .i64 (s.2.1) ∧ e 20 = .int .i64 (s.2.2)) ⟨jJ, hfr, kJ, lJ, mJ, nJ, rE, oB, mG, nG, oG, rfl, rfl, rfl⟩ (fun X455 bH qL => ?_)
         rintro ⟨y6, a7, o3⟩ eS nU ⟨dF, hfr, oJ, pJ, qJ, rJ, sE, tB, jD, kD, lD, mD, nD, oD⟩ h
         refine E_joinC h (fun (s : Unit) e w => ∃ (g : Gh) , Fr gI wI g w ∧ e 3 = p1 ∧ PT g.m w (x0 : PayList) p1 ∧ e 4 = p2 ∧ PT g.m w (x1 : PayPiece) p2 ∧ e 5 = p3 ∧ PT g.m w (x2 : Span) p3 ∧ e 14 = u3 ∧ OB 2014 g w 29 ((o0.1 : Span) : Span) u3 ∧ e 15 = .int .i64 (o0.2) ∧ e 18 = .int .i64 (y6) ∧ e 19 = .int .i64 (a7) ∧ e 20 = .int .i64 (o3)) (fun X460 cH rL h => ?_) ?_
         ·refine E_seq (E_region (EL_mv oD rfl ?_))
          refine EL_p (fPtr p3 1) (P_fieldAddr at_29_1 sE (PT.ptr tB)) rfl ?_
          have pP := PT_field (part_Span_1).1 tB
          refine EL_do .plain rfl (D_load (g := dF) Tryz.isAgg3 Tryz.sizeOf3 rfl pP fun oU sP => ?_)
          obtain rfl := RV_int.1 sP
          refine EL_in (.bool ((decide (o3 ≤ (x2).High)))) rfl rfl rfl rfl ?_
          refine EL_nil (thn_n ?_)
          rcases csome h with ⟨jE, h⟩ | ⟨jE, h⟩
          ·refine E_ct jE rfl ?_
           exact E_skip (thn_n (rL () _ _ ⟨dF, hfr, oJ, pJ, qJ, rJ, sE, tB, jD, kD, lD, mD, nD, oD⟩ h))
          ·refine E_cf jE rfl ?_
           refine E_exit ?_
           refine thn_e ?_
           refine thn_e ?_
           refine blk_hit ?_
           obtain ⟨rfl, rfl⟩ := pairs2 h
           exact hQ _ _ ⟨dF, hfr, jD, kD, lD, mD, nD⟩
         ·rintro _ gS pU ⟨tP, hfr, vB, v8, xB, x8, sJ, yB, pG, zA, qG, rG, sG, aB⟩ h
          obtain ⟨⟨y8, a9⟩, hx, h⟩ := bsome h
          refine E_join (fun e w => ∃ (g : Gh) , Fr gI wI g w ∧ e 3 = p1 ∧ PT g.m w (x0 : PayList) p1 ∧ e 4 = p2 ∧ PT g.m w (x1 : PayPiece) p2 ∧ e 5 = p3 ∧ PT g.m w (x2 : Span) p3 ∧ e 14 = u3 ∧ OB 2014 g w 29 ((o0.1 : Span) : Span) u3 ∧ e 15 = .int .i64 (o0.2) ∧ e 18 = .int .i64 (y8) ∧ e 19 = .int .i64 (a9) ∧ e 20 = .int .i64 (o3)) (fun Q' hQ => ?_) (fun iS qU hR => ?_)
          ·replace h := hx
           clear hx
           refine E_block ?_
           refine L_load (x := .tmp 3) Tryz.isAgg25 Tryz.sizeOf25 v8 fun tJ uP tL => ?_
           refine L_load (x := .tmp 4) Tryz.isAgg27 Tryz.sizeOf27 x8 fun uJ vP uL => ?_
           obtain ⟨nA, vL, h⟩ := bsome h
           refine L_load (x := .tmp 3) Tryz.isAgg25 Tryz.sizeOf25 v8 fun vJ xP xL => ?_
           refine L_load (x := .tmp 4) Tryz.isAgg27 Tryz.sizeOf27 x8 fun xJ yP yL => ?_
           obtain ⟨oA, zL, h⟩ := bsome h
           refine E_drawL (g := tP) (n := 14) [(4, (fun v g w => v = .int .i64 (nA))), (10, (fun v g w => v = .int .i64 (oA)))] [0, 1, 2, 3, 4, 5, 6, 7, 8, 9, 10, 11, 12, 13] rfl mixed (by kernel_rfl) (⟨fun _ => up_eq _, fun _ => up_eq _, trivial⟩) ?_
           refine L_p (.int .i64 (y6)) rfl rfl (P_move rG) ?_
           refine L_ld (c := tJ) rfl rfl .plain (fun _ _ h => h.ch) tL vB ?_
           refine L_ld (c := uJ) rfl rfl .plain (fun _ _ h => h.ch) uL xB ?_
           refine L_p (.int .i64 (o3)) rfl rfl (P_move aB) ?_
           refine L_do (φ := fun v g w => v = .int .i64 (nA)) rfl rfl .plain (fun g w hd => D_call (g := g) (vs := [tJ, uJ, .int .i64 (o3)]) en24 (.cons rfl (.cons rfl (.cons rfl .nil))) (wk24 (uP.ext hd.1) (vP.ext hd.1) vL) fun g' w' v hs hr => ⟨g', hs, hr⟩) (fun rU hv => ?_)
           obtain ⟨_, _, _, rfl⟩ := hv
           refine L_p (.int .i64 (min64 y6 nA)) rfl rfl (P_min rfl rfl) ?_
           refine L_p (.int .i64 (a7)) rfl rfl (P_move sG) ?_
           refine L_ld (c := vJ) rfl rfl .plain (fun _ _ h => h.ch) xL vB ?_
           refine L_ld (c := xJ) rfl rfl .plain (fun _ _ h => h.ch) yL xB ?_
           refine L_p (.int .i64 (o3)) rfl rfl (P_move aB) ?_
           refine L_do (φ := fun v g w => v = .int .i64 (oA)) rfl rfl .plain (fun g w hd => D_call (g := g) (vs := [vJ, xJ, .int .i64 (o3)]) en24 (.cons rfl (.cons rfl (.cons rfl .nil))) (wk24 (xP.ext hd.1) (yP.ext hd.1) zL) fun g' w' v hs hr => ⟨g', hs, hr⟩) (fun sU hv => ?_)
           obtain ⟨_, _, _, rfl⟩ := hv
           refine L_p (.int .i64 (max64 a7 oA)) rfl rfl (P_max rfl rfl) ?_
           refine L_p (.int .i64 (min64 y6 nA)) rfl rfl (P_assign rfl) ?_
           refine L_p (.int .i64 (max64 a7 oA)) rfl rfl (P_assign rfl) ?_
           refine L_nl fun zP tU hs => ?_
           have hfr := hfr.ext hs
           have v8 := v8.ext hs
           have x8 := x8.ext hs
           have yB := yB.ext hs
           have zA := zA.ext hs
           clear hs
           refine EL_nil (blk_n ?_)
           obtain ⟨rfl, rfl⟩ := pairs2 h
           exact hQ _ _ ⟨zP, hfr, vB, v8, xB, x8, sJ, yB, pG, zA, qG, rfl, rfl, aB⟩
          ·clear hx
           obtain ⟨bQ, hfr, yJ, zJ, aK, bK, cK, dK, tG, uG, vG, xG, yG, zG⟩ := hR
           refine E_region (EL_mv zG rfl ?_)
           refine EL_in (.int .i64 ((w64 (o3 + (1 : Int))))) rfl rfl rfl rfl ?_
           refine EL_at (.int .i64 ((w64 (o3 + (1 : Int))))) rfl rfl ?_
           exact EL_nil (thn_n (qL (y8, a9, (w64 (o3 + (1 : Int)))) _ _ ⟨bQ, hfr, yJ, zJ, aK, bK, cK, dK, tG, uG, vG, xG, yG, rfl⟩ h))
        ·clear hx
         obtain ⟨eF, hfr, sD, aH, bB, tD, uD⟩ := hR
         obtain ⟨o9, hx, h⟩ := bsome h
         refine E_join (fun e w => ∃ (g : Gh) , Fr gI wI g w ∧ e 6 = .bool (o9)) (fun Q' hQ => ?_) (fun jS uU hR => ?_)
         ·replace h := hx
          clear hx
          rcases csome h with ⟨i5, h⟩ | ⟨i5, h⟩
          ·refine L_loadO0 (x := .tmp 14) Tryz.isAgg29 Tryz.sizeOf29 aH fun eK lK nF => ?_
           obtain ⟨q5, oF, h⟩ := bsome h
           rcases csome h with ⟨mA, h⟩ | ⟨mA, h⟩
           ·obtain ⟨pA, aM, h⟩ := bsome h
            refine E_drawL (g := eF) (n := 13) [(6, (fun v g w => RV g.m w q5 v)), (10, (fun v g w => v = .bool (pA)))] [0, 1, 2, 3, 4, 5, 6, 7, 8, 9, 10, 11, 12] rfl mixed (by kernel_rfl) (⟨fun _ => up_rv, fun _ => up_eq _, trivial⟩) ?_
            refine L_p (.int .i64 (o0.2)) rfl rfl (P_move bB) ?_
            refine L_p (.bool ((o0.2 == (0 : Int)))) rfl rfl (P_int rfl rfl rfl) ?_
            refine L_p (.bool ((o0.2 == (0 : Int)))) rfl rfl (P_move rfl) ?_
            refine L_ld (c := eK) rfl rfl (.yes2 rfl rfl i5) (fun _ _ h => ⟨h.ch, fun b hb _ => h.below.block b hb⟩) nF sD ?_
            refine L_y (.int .i64 (b7)) rfl rfl rfl rfl i5 (P_move tD) ?_
            refine L_y (.int .i64 (c7)) rfl rfl rfl rfl i5 (P_move uD) ?_
            refine L_do (φ := fun v g w => RV g.m w q5 v) rfl rfl (.yes2 rfl rfl i5) (fun g w hd => D_call (g := g) (vs := [.int .i64 (b7), .int .i64 (c7)]) en26 (.cons rfl (.cons rfl .nil)) (wk26  oF) fun g' w' v hs hr => ⟨g', hs, hr⟩) (fun zB hv => ?_)
            obtain ⟨_, _, _, rq588⟩ := hv
            refine L_pur (c := .bool ((decide ((o0.1 : Span) = q5)))) rfl rfl (.yes2 rfl rfl i5) (fun _ _ hd => P_seq seq_29 rfl eg_29 rfl rfl lK (word (A := fun g w => RV g.m w q5 zB) 6 rfl rfl (deps_of hd))) ?_
            refine L_p (.bool ((decide ((o0.1 : Span) = q5)))) rfl rfl (P_pick (b := (o0.2 == (0 : Int))) rfl (pick_t i5 rfl)) ?_
            refine L_p (.bool ((decide ((o0.1 : Span) = q5)))) rfl rfl (P_move rfl) ?_
            refine L_do (φ := fun v g w => v = .bool (pA)) rfl rfl (.yes2 rfl rfl mA) (fun g w hd => D_call (g := g) (vs := []) en12 .nil (wk12  aM) fun g' w' v hs hr => ⟨g', hs, hr⟩) (fun vU hv => ?_)
            obtain ⟨_, _, _, rfl⟩ := hv
            refine L_p (.bool (pA)) rfl rfl (P_pick (b := (decide ((o0.1 : Span) = q5))) rfl (pick_t mA rfl)) ?_
            refine L_p (.bool (pA)) rfl rfl (P_assign rfl) ?_
            refine L_nil fun cQ xU hall => ?_
            have hs := hall.1
            have hfr := hfr.ext hs
            have yU := (word_all (A := fun g w => RV g.m w q5 zB) 6 rfl hall)
            clear hs hall
            refine EL_nil ?_
            obtain rfl := sinj h
            exact hQ _ _ ⟨cQ, hfr, rfl⟩
           ·refine E_drawL (g := eF) (n := 13) [(6, (fun v g w => RV g.m w q5 v))] [0, 1, 2, 3, 4, 5, 6, 7, 8, 9, 10, 11, 12] rfl mixed (by kernel_rfl) (⟨fun _ => up_rv, trivial⟩) ?_
            refine L_p (.int .i64 (o0.2)) rfl rfl (P_move bB) ?_
            refine L_p (.bool ((o0.2 == (0 : Int)))) rfl rfl (P_int rfl rfl rfl) ?_
            refine L_p (.bool ((o0.2 == (0 : Int)))) rfl rfl (P_move rfl) ?_
            refine L_ld (c := eK) rfl rfl (.yes2 rfl rfl i5) (fun _ _ h => ⟨h.ch, fun b hb _ => h.below.block b hb⟩) nF sD ?_
            refine L_y (.int .i64 (b7)) rfl rfl rfl rfl i5 (P_move tD) ?_
            refine L_y (.int .i64 (c7)) rfl rfl rfl rfl i5 (P_move uD) ?_
            refine L_do (φ := fun v g w => RV g.m w q5 v) rfl rfl (.yes2 rfl rfl i5) (fun g w hd => D_call (g := g) (vs := [.int .i64 (b7), .int .i64 (c7)]) en26 (.cons rfl (.cons rfl .nil)) (wk26  oF) fun g' w' v hs hr => ⟨g', hs, hr⟩) (fun zB hv => ?_)
            obtain ⟨_, _, _, rq588⟩ := hv
            refine L_pur (c := .bool ((decide ((o0.1 : Span) = q5)))) rfl rfl (.yes2 rfl rfl i5) (fun _ _ hd => P_seq seq_29 rfl eg_29 rfl rfl lK (word (A := fun g w => RV g.m w q5 zB) 6 rfl rfl (deps_of hd))) ?_
            refine L_p (.bool ((decide ((o0.1 : Span) = q5)))) rfl rfl (P_pick (b := (o0.2 == (0 : Int))) rfl (pick_t i5 rfl)) ?_
            refine L_p (.bool ((decide ((o0.1 : Span) = q5)))) rfl rfl (P_move rfl) ?_
            refine L_s rfl rfl rfl mA rfl ?_
            refine L_p (.bool false) rfl rfl (P_pick (b := (decide ((o0.1 : Span) = q5))) rfl (pick_f mA rfl)) ?_
            refine L_p (.bool false) rfl rfl (P_assign rfl) ?_
            refine L_nil fun dQ zU hall => ?_
            have hs := hall.1
            have hfr := hfr.ext hs
            have aV := (word_all (A := fun g w => RV g.m w q5 zB) 6 rfl hall)
            clear hs hall
            refine EL_nil ?_
            obtain rfl := sinj h
            exact hQ _ _ ⟨dQ, hfr, rfl⟩
          ·refine E_drawL (g := eF) (n := 13) [] [0, 1, 2, 3, 4, 5, 6, 7, 8, 9, 10, 11, 12] rfl mixed (by kernel_rfl) trivial ?_
           refine L_p (.int .i64 (o0.2)) rfl rfl (P_move bB) ?_
           refine L_p (.bool ((o0.2 == (0 : Int)))) rfl rfl (P_int rfl rfl rfl) ?_
           refine L_p (.bool ((o0.2 == (0 : Int)))) rfl rfl (P_move rfl) ?_
           iterate 5 refine L_s rfl rfl rfl i5 rfl ?_
           refine L_p (.bool false) rfl rfl (P_pick (b := (o0.2 == (0 : Int))) rfl (pick_f i5 rfl)) ?_
           refine L_dead (fun _ => rfl) 3 rfl ?_
           refine L_p (.bool false) rfl rfl (P_assign rfl) ?_
           refine L_nl fun eQ bV hs => ?_
           have hfr := hfr.ext hs
           clear hs
           refine EL_nil ?_
           obtain rfl := sinj h
           exact hQ _ _ ⟨eQ, hfr, rfl⟩
         ·clear hx
          obtain ⟨cV, hfr, mK⟩ := hR
          refine E_ret ?_
          obtain rfl := sinj h
          exact end1 rfl rfl (show _ = .bool (o9) from mK) ⟨_, hfr, rfl⟩
end Go.Proofs.YtkmbkaoolacofaaGreat
